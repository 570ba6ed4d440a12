/-
  Merged texts of this law (each with its own head below).
-/
import Derived.Test.YtjbhpfmnfdebkaaGreatLRegionSets6
import Derived.Test.YtjbhpfmnfdebkaaGreatLRegionSets4
import Derived.Test.YtjbhpfmnfdebkaaGreatLRegionSets5
import Derived.Test.YtjbhpfmnfdebkaaGreatLRegionSets3
import Derived.Lib.SliceRun
namespace Go.Proofs.YtjbhpfmnfdebkaaGreat
set_option linter.unusedVariables false
set_option linter.unusedSimpArgs false
set_option maxRecDepth 100000
open Go.RowKit Go.Proofs.YtjbhpfmnfdebkaaGreat.Eng Enc

namespace Wn
def less (z : Zn) (i : Nat) (x : Int) : Zn := Zo.set z i (min (Zo.get z i) x)
def with2 (z : Zn) (i : Nat) (x : Int) (j : Nat) (y : Int) : Zn × Int :=
  if (Zo.mat (less (less z i x) j y)).2.2 = 0 then Zo.of (Zo.mat (less (less z i x) j y)).1 (Zo.mat (less (less z i x) j y)).2.1 else (Zo.nought, (Zo.mat (less (less z i x) j y)).2.2)
end Wn
theorem wwith45_any (z : Zn) (x y : Int) (la : Option Addr) (lc : Nat) (w : World) (hS : Sl w.heap.size w (.slice la 2 lc) [(⟨4, x⟩ : Rt), ⟨5, y⟩]) :
    Calls Tryz.prog 147 #[.agg #[.int .i64 z.a, .int .i64 z.b, .int .i64 z.c, .int .i64 z.d, .int .i64 z.e, .int .i64 z.f], .slice la 2 lc] w fun e w' => e = .returned (.tuple #[.agg #[.int .i64 (Wn.with2 z 4 x 5 y).1.a, .int .i64 (Wn.with2 z 4 x 5 y).1.b, .int .i64 (Wn.with2 z 4 x 5 y).1.c, .int .i64 (Wn.with2 z 4 x 5 y).1.d, .int .i64 (Wn.with2 z 4 x 5 y).1.e, .int .i64 (Wn.with2 z 4 x 5 y).1.f], .int .i64 (Wn.with2 z 4 x 5 y).2]) ∧ Below w.heap.size w w' := by
  refine fun_eq 0 w Tryz.func147 (args := [.agg [.val (.int .i64 z.a), .val (.int .i64 z.b), .val (.int .i64 z.c), .val (.int .i64 z.d), .val (.int .i64 z.e), .val (.int .i64 z.f)], .val (.slice la 2 lc)]) rfl rfl ?_
  obtain ⟨a, b, c, d, e, f⟩ := z
  refine NewI.mk fun b1 hb1 => ?_
  refine NewI.mk fun b2 hb2 => ?_
  refine LoopI.rounds 3 ?_
  refine Branch.yes rfl ?_
  refine hS.idx (k := 0) rfl fun ad had => ?_
  refine hS.ld (k := 0) rfl had (Below.refl _ _) (by simp <;> omega) ?_
  refine NewI.mk fun b3 hb3 => ?_
  refine DrawI.wr (.tk 0 (.tk 1 (.tk 2 (.tk 3 (.tk 4 (.tk 6 (.tk 7 (.ev 5 (.tk 8 (.tk 9 (.ev 10 .done))))))))))) [0] [] (by kernel_rfl) rfl (by simp) fun w3 h3 => ?_
  refine Need.mk (by simp only; omega) ?_
  refine Need.mk (by simp only; omega) ?_
  refine Need.mk (by simp only [inK]; omega) ?_
  refine Branch.yes rfl ?_
  refine hS.idx (k := 1) rfl fun ad2 had2 => ?_
  have hb1' : w.heap.size ≤ b1 := hb1
  have hb3' : w.heap.size ≤ b3 := hb3
  refine hS.ld (k := 1) rfl had2 h3.below (fun b hb => by simp at hb; omega) ?_
  refine NewI.mk fun b4 hb4 => ?_
  refine DrawI.wr (.tk 0 (.tk 1 (.tk 2 (.tk 3 (.tk 4 (.tk 6 (.tk 7 (.ev 5 (.tk 8 (.tk 9 (.ev 10 .done))))))))))) [0] [] (by kernel_rfl) rfl (by simp) fun w4 h4 => ?_
  refine Need.mk (by simp only; omega) ?_
  refine Need.mk (by simp only; omega) ?_
  refine Need.mk (by simp only [inK]; omega) ?_
  refine Branch.no rfl ?_
  conv => whnf
  simp only
  rw [show ∀ p q : Int, minL p [q] = min p q from fun p q => by simp [minL]; omega, show ∀ p q : Int, minL p [q] = min p q from fun p q => by simp [minL]; omega]
  apply CallI.use
  focus (exact fun w5 h5 => zMatrixF_any (⟨a, b, c, d, min e x, min f y⟩ : Zn) w5)
  rintro v w5 v5 h5 hB5 ⟨a5, q5, rfl, hF5⟩
  refine NewI.mk fun b5 hb5 => ?_
  have hwl : Wn.less (Wn.less ⟨a, b, c, d, e, f⟩ 4 x) 5 y = (⟨a, b, c, d, min e x, min f y⟩ : Zn) := rfl
  unfold Wn.with2
  rw [hwl]
  generalize Zo.mat (⟨a, b, c, d, min e x, min f y⟩ : Zn) = X at *
  obtain ⟨n, D, er⟩ := X
  simp only at hF5 ⊢
  refine Branch.mk (fun hc3 => ?_) (fun hc3 => ?_)
  · have h9 : er ≠ 0 := by simpa using hc3
    rw [if_neg h9]
    exact EndI.mk fun w9 h9 => rfl
  · have h9 : er = 0 := by simpa using hc3
    rw [if_pos h9]
    apply CallI.use1
    focus (exact fun w12 h12 => zof_any n a5 q5 D w12 ((hF5.sl).go (at_belowM h12 (by simp <;> omega)) h12.size))
    intro w12 v12 h12 hB12
    exact EndI.mk fun w9 h9 => rfl
theorem wwith23_any (z : Zn) (x y : Int) (la : Option Addr) (lc : Nat) (w : World) (hS : Sl w.heap.size w (.slice la 2 lc) [(⟨2, x⟩ : Rt), ⟨3, y⟩]) :
    Calls Tryz.prog 147 #[.agg #[.int .i64 z.a, .int .i64 z.b, .int .i64 z.c, .int .i64 z.d, .int .i64 z.e, .int .i64 z.f], .slice la 2 lc] w fun e w' => e = .returned (.tuple #[.agg #[.int .i64 (Wn.with2 z 2 x 3 y).1.a, .int .i64 (Wn.with2 z 2 x 3 y).1.b, .int .i64 (Wn.with2 z 2 x 3 y).1.c, .int .i64 (Wn.with2 z 2 x 3 y).1.d, .int .i64 (Wn.with2 z 2 x 3 y).1.e, .int .i64 (Wn.with2 z 2 x 3 y).1.f], .int .i64 (Wn.with2 z 2 x 3 y).2]) ∧ Below w.heap.size w w' := by
  refine fun_eq 0 w Tryz.func147 (args := [.agg [.val (.int .i64 z.a), .val (.int .i64 z.b), .val (.int .i64 z.c), .val (.int .i64 z.d), .val (.int .i64 z.e), .val (.int .i64 z.f)], .val (.slice la 2 lc)]) rfl rfl ?_
  obtain ⟨a, b, c, d, e, f⟩ := z
  refine NewI.mk fun b1 hb1 => ?_
  refine NewI.mk fun b2 hb2 => ?_
  refine LoopI.rounds 3 ?_
  refine Branch.yes rfl ?_
  refine hS.idx (k := 0) rfl fun ad had => ?_
  refine hS.ld (k := 0) rfl had (Below.refl _ _) (by simp <;> omega) ?_
  refine NewI.mk fun b3 hb3 => ?_
  refine DrawI.wr (.tk 0 (.tk 1 (.tk 2 (.tk 3 (.tk 4 (.tk 6 (.tk 7 (.ev 5 (.tk 8 (.tk 9 (.ev 10 .done))))))))))) [0] [] (by kernel_rfl) rfl (by simp) fun w3 h3 => ?_
  refine Need.mk (by simp only; omega) ?_
  refine Need.mk (by simp only; omega) ?_
  refine Need.mk (by simp only [inK]; omega) ?_
  refine Branch.yes rfl ?_
  refine hS.idx (k := 1) rfl fun ad2 had2 => ?_
  have hb1' : w.heap.size ≤ b1 := hb1
  have hb3' : w.heap.size ≤ b3 := hb3
  refine hS.ld (k := 1) rfl had2 h3.below (fun b hb => by simp at hb; omega) ?_
  refine NewI.mk fun b4 hb4 => ?_
  refine DrawI.wr (.tk 0 (.tk 1 (.tk 2 (.tk 3 (.tk 4 (.tk 6 (.tk 7 (.ev 5 (.tk 8 (.tk 9 (.ev 10 .done))))))))))) [0] [] (by kernel_rfl) rfl (by simp) fun w4 h4 => ?_
  refine Need.mk (by simp only; omega) ?_
  refine Need.mk (by simp only; omega) ?_
  refine Need.mk (by simp only [inK]; omega) ?_
  refine Branch.no rfl ?_
  conv => whnf
  simp only
  rw [show ∀ p q : Int, minL p [q] = min p q from fun p q => by simp [minL]; omega, show ∀ p q : Int, minL p [q] = min p q from fun p q => by simp [minL]; omega]
  apply CallI.use
  focus (exact fun w5 h5 => zMatrixF_any (⟨a, b, min c x, min d y, e, f⟩ : Zn) w5)
  rintro v w5 v5 h5 hB5 ⟨a5, q5, rfl, hF5⟩
  refine NewI.mk fun b5 hb5 => ?_
  have hwl : Wn.less (Wn.less ⟨a, b, c, d, e, f⟩ 2 x) 3 y = (⟨a, b, min c x, min d y, e, f⟩ : Zn) := rfl
  unfold Wn.with2
  rw [hwl]
  generalize Zo.mat (⟨a, b, min c x, min d y, e, f⟩ : Zn) = X at *
  obtain ⟨n, D, er⟩ := X
  simp only at hF5 ⊢
  refine Branch.mk (fun hc3 => ?_) (fun hc3 => ?_)
  · have h9 : er ≠ 0 := by simpa using hc3
    rw [if_neg h9]
    exact EndI.mk fun w9 h9 => rfl
  · have h9 : er = 0 := by simpa using hc3
    rw [if_pos h9]
    apply CallI.use1
    focus (exact fun w12 h12 => zof_any n a5 q5 D w12 ((hF5.sl).go (at_belowM h12 (by simp <;> omega)) h12.size))
    intro w12 v12 h12 hB12
    exact EndI.mk fun w9 h9 => rfl
namespace Wn
def fits (n : Int) : Bool := decide (-288230376151711744 ≤ n) && decide (n ≤ 288230376151711744)
def within (z : Zn) (s : Sp) : Zn × Int :=
  if Zo.chk z = 0 then (if (Zo.btw s).2.2 = 0 then with2 z 4 ((Zo.btw s).2.1[2]?.getD 0) 5 ((Zo.btw s).2.1[1]?.getD 0) else (Zo.nought, (Zo.btw s).2.2)) else (Zo.nought, Zo.chk z)
def window (z : Zn) (lo hi : Int) : Zn × Int :=
  if Zo.chk z = 0 then (if fits lo = true ∧ fits hi = true ∧ lo < hi then with2 z 2 (Bd.made hi false).1 3 (Bd.made (-lo) true).1 else (Zo.nought, 2)) else (Zo.nought, 8)
end Wn
theorem wfits_any (n : Int) (w : World) : Calls Tryz.prog 148 #[.int .i64 n] w fun e w' => e = .returned (.bool (Wn.fits n)) ∧ Below w.heap.size w w' := by
  refine fun_eq 0 w Tryz.func148 (args := [.val (.int .i64 n)]) rfl rfl ?_
  unfold Wn.fits
  refine Branch.mk (fun hb => ?_) (fun hb => ?_)
  · exact EndI.mk fun w9 h9 => by rw [of_decide_eq_true hb |> decide_eq_true]; rfl
  · exact EndI.mk fun w9 h9 => by rw [of_decide_eq_false hb |> decide_eq_false]; rfl
theorem wwithin_any (z : Zn) (s : Sp) (hs : s.ins) (w : World) :
    Calls Tryz.prog 80 #[.agg #[.int .i64 z.a, .int .i64 z.b, .int .i64 z.c, .int .i64 z.d, .int .i64 z.e, .int .i64 z.f], .agg #[.int .i64 s.lo, .bool s.ls, .int .i64 s.hi, .bool s.hs, .bool s.op]] w fun e w' => e = .returned (.tuple #[.agg #[.int .i64 (Wn.within z s).1.a, .int .i64 (Wn.within z s).1.b, .int .i64 (Wn.within z s).1.c, .int .i64 (Wn.within z s).1.d, .int .i64 (Wn.within z s).1.e, .int .i64 (Wn.within z s).1.f], .int .i64 (Wn.within z s).2]) ∧ Below w.heap.size w w' := by
  refine fun_eq 0 w Tryz.func80 (args := [.agg [.val (.int .i64 z.a), .val (.int .i64 z.b), .val (.int .i64 z.c), .val (.int .i64 z.d), .val (.int .i64 z.e), .val (.int .i64 z.f)], .agg [.val (.int .i64 s.lo), .val (.bool s.ls), .val (.int .i64 s.hi), .val (.bool s.hs), .val (.bool s.op)]]) rfl rfl ?_
  have st := Stay.first (w := w)
  refine NewI.mk fun b1 hb1 => ?_
  refine NewI.mk fun b2 hb2 => ?_
  refine NewI.mk fun b3 hb3 => ?_
  unfold Wn.within
  apply CallI.use1
  focus (exact fun w1 h1 => zcheck_any z w1)
  intro w1 v1 h1 hB1
  have st := st.next h1 (fun x hx => by simp at hx <;> omega) hB1
  refine Branch.mk (fun hc => ?_) (fun hc => ?_)
  · have h0 : ¬ Zo.chk z = 0 := by simpa using hc
    rw [if_neg h0]
    exact EndI.mk fun w9 h9 => rfl
  have h0 : Zo.chk z = 0 := by simpa using hc
  rw [if_pos h0]
  have htop2 := fun w => top_any 2 w
  rw [Zo.top2] at htop2
  apply CallI.use
  focus (exact fun w2 h2 => htop2 w2)
  rintro v w2 v2 h2 hB2 ⟨a2, q2, rfl, hO2⟩
  have st := st.next h2 (fun x hx => by simp at hx <;> omega) hB2
  refine NewI.mk fun b4 hb4 => ?_
  apply CallI.use
  focus (exact fun w3 h3 => btw_any s hs a2 q2 w3 ((hO2.st (st.at h3 (fun x hx => by simp at hx <;> omega))).sl))
  rintro v w3 v3 h3 hB3 ⟨a3, q3, rfl, hF3⟩
  have st := st.next h3 (fun x hx => by simp at hx <;> omega) hB3
  have hcases := Zo.btw_cases s
  generalize Zo.btw s = X at *
  obtain ⟨n, D, er⟩ := X
  simp only at hF3 hcases ⊢
  refine NewI.mk fun b5 hb5 => ?_
  refine Branch.mk (fun hc3 => ?_) (fun hc3 => ?_)
  · have h9 : er ≠ 0 := by simpa using hc3
    rw [if_neg h9]
    exact EndI.mk fun w9 h9 => rfl
  have h9 : er = 0 := by simpa using hc3
  rw [if_pos h9]
  have hD4 : D.length = 4 := by omega
  obtain ⟨g3, rfl, hq1, hq2, hg3, hR3⟩ := hF3.row4 hD4
  have adk : ∀ j : Nat, (⟨g3, 0, none⟩ : Addr).add ((j : Int).toNat * 1) = ⟨g3, j, none⟩ := fun j => by simp [addr_addL]
  have hg3l := hR3.lt
  have hb3w : b3 < w3.heap.size := h3.lt b3 (by simp)
  have hb5' : v3.heap.size ≤ b5 := hb5
  refine DrawI.wr (.tk 0 (.tk 1 (.tk 2 (.tk 3 (.tk 4 (.tk 5 (.tk 6 (.tk 7 (.tk 8 (.tk 9 (.tk 10 (.ev 11 (.ev 12 (.tk 13 (.tk 14 (.ev 15 (.tk 16 .done))))))))))))))))) [2] [] (by kernel_rfl) rfl (by simp) fun w6 h6 => ?_
  have hR6 := hR3.at h6 (by simp <;> omega)
  refine IdxI.mk ⟨_, ⟨rfl, by omega, by omega⟩, ?_⟩
  refine LoadI.mk ⟨_, ⟨hR6.cell (j := 2) (by omega), by simp [locs, Addr.add]; omega⟩, ?_⟩
  refine IdxI.mk ⟨_, ⟨rfl, by omega, by omega⟩, ?_⟩
  refine LoadI.mk ⟨_, ⟨hR6.cell (j := 1) (by omega), by simp [locs, Addr.add]; omega⟩, ?_⟩
  refine NewI.mk fun b7 hb7 => ?_
  apply CallI.use1
  focus (exact fun w8 h8 => wwith45_any z (D[2]?.getD 0) (D[1]?.getD 0) _ _ w8 (Sl.own (l := [(⟨4, D[2]?.getD 0⟩ : Rt), ⟨5, D[1]?.getD 0⟩]) h8 5 rfl rfl rfl (Nat.le_refl _) (by simp [maxLen])))
  intro w8 v8 h8 hB8
  exact EndI.mk fun w9 h9 => rfl
theorem wwindow_any (z : Zn) (lo hi : Int) (hlo : inK .i64 lo) (hhi : inK .i64 hi) (w : World) :
    Calls Tryz.prog 82 #[.agg #[.int .i64 z.a, .int .i64 z.b, .int .i64 z.c, .int .i64 z.d, .int .i64 z.e, .int .i64 z.f], .int .i64 lo, .int .i64 hi] w fun e w' => e = .returned (.tuple #[.agg #[.int .i64 (Wn.window z lo hi).1.a, .int .i64 (Wn.window z lo hi).1.b, .int .i64 (Wn.window z lo hi).1.c, .int .i64 (Wn.window z lo hi).1.d, .int .i64 (Wn.window z lo hi).1.e, .int .i64 (Wn.window z lo hi).1.f], .int .i64 (Wn.window z lo hi).2]) ∧ Below w.heap.size w w' := by
  refine fun_eq 0 w Tryz.func82 (args := [.agg [.val (.int .i64 z.a), .val (.int .i64 z.b), .val (.int .i64 z.c), .val (.int .i64 z.d), .val (.int .i64 z.e), .val (.int .i64 z.f)], .val (.int .i64 lo), .val (.int .i64 hi)]) rfl rfl ?_
  refine NewI.mk fun b1 hb1 => ?_
  refine NewI.mk fun b2 hb2 => ?_
  unfold Wn.window
  apply CallI.use1
  focus (exact fun w1 h1 => zcheck_any z w1)
  intro w1 v1 h1 hB1
  refine Branch.mk (fun hc => ?_) (fun hc => ?_)
  · have h0 : ¬ Zo.chk z = 0 := by simpa using hc
    rw [if_neg h0]
    exact EndI.mk fun w9 h9 => rfl
  have h0 : Zo.chk z = 0 := by simpa using hc
  rw [if_pos h0]
  apply CallI.use1
  focus (exact fun w2 h2 => wfits_any lo w2)
  intro w2 v2 h2 hB2
  refine Branch.mk (fun hc2 => ?_) (fun hc2 => ?_)
  · have k : ¬ Wn.fits lo = true := by simpa using hc2
    rw [if_neg (fun h => k h.1)]
    exact EndI.mk fun w9 h9 => rfl
  have k1 : Wn.fits lo = true := by simpa using hc2
  apply CallI.use1
  focus (exact fun w3 h3 => wfits_any hi w3)
  intro w3 v3 h3 hB3
  refine Branch.mk (fun hc3 => ?_) (fun hc3 => ?_)
  · have k : ¬ Wn.fits hi = true := by simpa using hc3
    rw [if_neg (fun h => k h.2.1)]
    exact EndI.mk fun w9 h9 => rfl
  have k2 : Wn.fits hi = true := by simpa using hc3
  refine Branch.mk (fun hc4 => ?_) (fun hc4 => ?_)
  · have k : ¬ lo < hi := by have := of_decide_eq_true hc4; omega
    rw [if_neg (fun h => k h.2.2)]
    exact EndI.mk fun w9 h9 => rfl
  have k3 : lo < hi := by have := of_decide_eq_false hc4; omega
  rw [if_pos ⟨k1, k2, k3⟩]
  have k1' := k1
  unfold Wn.fits at k1'
  simp only [Bool.and_eq_true, decide_eq_true_eq] at k1'
  refine Need.mk (by simp only [inK]; omega) ?_
  apply CallI.use1
  focus (exact fun w4 h4 => tless_any (-lo) w4)
  intro w4 v4 h4 hB4
  apply CallI.use1
  focus (exact fun w5 h5 => tmost_any hi w5)
  intro w5 v5 h5 hB5
  refine NewI.mk fun b7 hb7 => ?_
  apply CallI.use1
  focus (exact fun w8 h8 => wwith23_any z (Bd.made hi false).1 (Bd.made (-lo) true).1 _ _ w8 (Sl.own (l := [(⟨2, (Bd.made hi false).1⟩ : Rt), ⟨3, (Bd.made (-lo) true).1⟩]) h8 2 rfl rfl rfl (Nat.le_refl _) (by simp [maxLen])))
  intro w8 v8 h8 hB8
  exact EndI.mk fun w9 h9 => rfl
end Go.Proofs.YtjbhpfmnfdebkaaGreat

namespace Go.Proofs.YtjbhpfmnfdebkaaGreat
set_option linter.unusedVariables false
set_option linter.unusedSimpArgs false
set_option maxRecDepth 100000
open Go.RowKit Go.Proofs.YtjbhpfmnfdebkaaGreat.Eng Enc

structure Cv.AllAt (Bb Be : Nat) (sv : Value) (b : List Zn) (e : Int) (W : World) : Prop where
  hb : W.heap[Bb]? = some (.cells #[sv] 22 (0, 0))
  he : W.heap[Be]? = some (.cells #[.int .i64 e] 28 (0, 0))
  sl : Sl W.heap.size W sv b
theorem lt_of_cells {W : World} {B : Nat} {o : Obj} (h : W.heap[B]? = some o) : B < W.heap.size := (Array.getElem?_eq_some_iff.1 h).1
section
variable {Bb Be : Nat} {sv : Value} {b : List Zn} {e : Int} {W X : World}
theorem Cv.AllAt.go (h : Cv.AllAt Bb Be sv b e W) (hB : Below W.heap.size W X) : Cv.AllAt Bb Be sv b e X :=
  ⟨(hB.block _ (lt_of_cells h.hb)).trans h.hb, (hB.block _ (lt_of_cells h.he)).trans h.he, h.sl.go hB hB.size⟩
end
end Go.Proofs.YtjbhpfmnfdebkaaGreat

namespace Go.Proofs.YtjbhpfmnfdebkaaGreat
set_option linter.unusedVariables false
set_option linter.unusedSimpArgs false
set_option maxRecDepth 100000
open Go.RowKit Go.Proofs.YtjbhpfmnfdebkaaGreat.Eng Enc

namespace Zs
def free : Zn := ⟨9223372036854775807, 9223372036854775807, 9223372036854775807, 9223372036854775807, 9223372036854775807, 9223372036854775807⟩
theorem free_of : Zo.of 3 (Dbm.topL 3) = (free, 0) := by decide +kernel
def each (f : Zn → Zn × Int) (l : List Zn) : List Zn × Int :=
  if Cv.checked [l] = 0 then (if (f free).2 ≠ 0 ∧ (f free).2 ≠ 6 then ([], (f free).2) else come f [] l) else ([], Cv.checked [l])
def within (l : List Zn) (s : Sp) : List Zn × Int := each (fun z => Wn.within z s) l
def window (l : List Zn) (lo hi : Int) : List Zn × Int := each (fun z => Wn.window z lo hi) l
theorem checked_len1 {l : List Zn} (h0 : Cv.checked [l] = 0) : l.length ≤ 4096 := (Cv.checked_one.1 h0).1
def same (a b : List Zn) : Bool × Int := if (Cv.all_ a b).2 = 0 ∧ (Cv.all_ a b).1 = true then Cv.all_ b a else (false, (Cv.all_ a b).2)
end Zs
theorem KeptBut.ofBelow {w W : World} (h : Below w.heap.size w W) (row : Option Nat) : KeptBut row w W := ⟨h.size, fun k hk _ => h.block k hk⟩
theorem KeptBut.none_trans {row : Option Nat} {w W X : World} (h : KeptBut none w W) (k : KeptBut none W X) : KeptBut row w X :=
  ⟨Nat.le_trans h.1 k.1, fun i hi _ => (k.2 i (Nat.lt_of_lt_of_le hi h.1) (by simp)).trans (h.2 i hi (by simp))⟩
theorem each_any (f : Zn → Zn × Int) (fid : FuncId) (caps : Array Value) (en : Enters Tryz.prog fid) (l : List Zn) (a : Option Addr) (cap : Nat) (w : World) (hS : Sl w.heap.size w (.slice a l.length cap) l)
    (hcall : ∀ x W, KeptBut none w W → Calls Tryz.prog fid (val x :: caps.toList).toArray W fun e W' => e = .returned (.tuple #[.agg #[.int .i64 (f x).1.a, .int .i64 (f x).1.b, .int .i64 (f x).1.c, .int .i64 (f x).1.d, .int .i64 (f x).1.e, .int .i64 (f x).1.f], .int .i64 (f x).2]) ∧ Below W.heap.size W W') :
    Calls Tryz.prog 78 #[.slice a l.length cap, .func (.func fid) #[] caps] w (Ret w fun v w' => ∃ a' c', v = .tuple #[.slice a' (Zs.each f l).1.length c', .int .i64 (Zs.each f l).2] ∧ Own TZ w.heap.size w' (.slice a' (Zs.each f l).1.length c') (Zs.each f l).1) := by
  refine fun_ret 0 w Tryz.func78 (args := [.val (.slice a l.length cap), .val (.func (.func fid) #[] caps)]) rfl rfl ?_
  have st := Stay.first (w := w)
  refine NewI.mk fun b1 hb1 => ?_
  apply CallI.use1
  focus (exact fun w1 h1 => zschecked_any [⟨a, l.length, cap⟩] [l] (by simp) _ _ w1 (shown_one (hS.st (st.at h1 (fun x hx => by simp at hx <;> omega))) rfl) (Sl.own (l := [(⟨a, l.length, cap⟩ : Svl)]) h1 0 rfl rfl rfl (Nat.le_refl _) (by simp [maxLen])))
  intro w1 v1 h1 hB1
  have st := st.next h1 (fun x hx => by simp at hx <;> omega) hB1
  unfold Zs.each
  refine Branch.mk (fun hc => ?_) (fun hc => ?_)
  · have h0 : Cv.checked [l] ≠ 0 := by simpa using hc
    rw [if_neg h0]
    exact EndI.mk fun w9 h9 => ⟨_, _, rfl, Own.nil⟩
  have h0 : Cv.checked [l] = 0 := by simpa using hc
  rw [if_pos h0]
  have htop := fun w => top_any 3 w
  rw [Zo.top3] at htop
  have hof := fun (w : World) a c h => zof_any 3 a c (Dbm.topL 3) w h
  rw [Zs.free_of] at hof
  apply CallI.use
  focus (exact fun w2 h2 => htop w2)
  rintro v w2 v2 h2 hB2 ⟨a2, c2, rfl, hO2⟩
  have st := st.next h2 (fun x hx => by simp at hx <;> omega) hB2
  refine NewI.mk fun b2 hb2 => ?_
  apply CallI.use1
  focus (exact fun w3 h3 => hof w3 a2 c2 ((hO2.st (st.at h3 (fun x hx => by simp at hx <;> omega))).sl))
  intro w3 v3 h3 hB3
  have st := st.next h3 (fun x hx => by simp at hx <;> omega) hB3
  refine NewI.mk fun b3 hb3 => ?_
  refine Need.mk en ?_
  apply CallI.use1
  focus (exact fun w4 h4 => hcall Zs.free w4 (KeptBut.ofBelow h4.below none))
  intro w4 v4 h4 hB4
  refine NewI.mk fun b4 hb4 => ?_
  have hcm := fun (w7 : World) (hw7 : Below w.heap.size w w7) => come_any f fid caps en [] l (.slice none 0 0) a cap w.heap.size (by simp) (Zs.checked_len1 h0) w7 hw7.size Own.nil (hS.below hw7) (fun x W hx hK => hcall x W ((KeptBut.ofBelow hw7 none).none_trans hK))
  have fin : ∀ w7 : World, ∀ (hw7 : Below w.heap.size w w7), Calls Tryz.prog 140 #[.slice none 0 0, .slice a l.length cap, .func (.func fid) #[] caps] w7 (Ret w7 fun v w' => ∃ a' c', v = .tuple #[.slice a' (Zs.come f [] l).1.length c', .int .i64 (Zs.come f [] l).2] ∧ Own TZ w7.heap.size w' (.slice a' (Zs.come f [] l).1.length c') (Zs.come f [] l).1) := fun w7 hw7 =>
    (hcm w7 hw7).mono fun e w8 ⟨v, he, hB, hK, a8, c8, hv, hO⟩ => ⟨v, he, ⟨hB.os.trans rfl, hB.tape, hB.output, hB.size, fun k hk => hK.2 k hk (by simp [Value.ownBlock])⟩, a8, c8, hv, hO⟩
  refine Branch.mk (fun hc2 => ?_) (fun hc2 => ?_)
  · have h1 : (f Zs.free).2 ≠ 0 := of_decide_eq_true hc2
    refine Branch.mk (fun hc3 => ?_) (fun hc3 => ?_)
    · have h6 : (f Zs.free).2 ≠ 6 := by simpa using hc3
      rw [if_pos ⟨h1, h6⟩]
      exact EndI.mk fun w9 h9 => ⟨_, _, rfl, Own.nil⟩
    · have h6 : (f Zs.free).2 = 6 := by simpa using hc3
      rw [if_neg (fun h => h.2 h6)]
      apply CallI.use
      focus (exact fun w7 h7 => fin w7 h7.below)
      rintro v w7 v7 h7 hB7 ⟨a8, c8, rfl, hO8⟩
      exact EndI.mk fun w9 h9 => ⟨a8, c8, rfl, (hO8.lower h7.below.size).below (at_belowM h9 (by simp <;> omega))⟩
  · have h1 : (f Zs.free).2 = 0 := by simpa using hc2
    rw [if_neg (fun h => h.1 h1)]
    apply CallI.use
    focus (exact fun w7 h7 => fin w7 h7.below)
    rintro v w7 v7 h7 hB7 ⟨a8, c8, rfl, hO8⟩
    exact EndI.mk fun w9 h9 => ⟨a8, c8, rfl, (hO8.lower h7.below.size).below (at_belowM h9 (by simp <;> omega))⟩
theorem within1_any (z : Zn) (s : Sp) (hs : s.ins) (B : Nat) (w : World) (hbox : w.heap[B]? = some (.cells #[.int .i64 s.lo, .bool s.ls, .int .i64 s.hi, .bool s.hs, .bool s.op] 32 (0, 0))) :
    Calls Tryz.prog 79 #[.agg #[.int .i64 z.a, .int .i64 z.b, .int .i64 z.c, .int .i64 z.d, .int .i64 z.e, .int .i64 z.f], .pointer (some ⟨B, 0, none⟩)] w fun e w' => e = .returned (.tuple #[.agg #[.int .i64 (Wn.within z s).1.a, .int .i64 (Wn.within z s).1.b, .int .i64 (Wn.within z s).1.c, .int .i64 (Wn.within z s).1.d, .int .i64 (Wn.within z s).1.e, .int .i64 (Wn.within z s).1.f], .int .i64 (Wn.within z s).2]) ∧ Below w.heap.size w w' := by
  refine fun_eq 0 w Tryz.func79 (args := [.agg [.val (.int .i64 z.a), .val (.int .i64 z.b), .val (.int .i64 z.c), .val (.int .i64 z.d), .val (.int .i64 z.e), .val (.int .i64 z.f)], .val (.pointer (some ⟨B, 0, none⟩))]) rfl rfl ?_
  refine NewI.mk fun b1 hb1 => ?_
  refine NewI.mk fun b2 hb2 => ?_
  refine LoadA.mk ⟨[.int .i64 s.lo, .bool s.ls, .int .i64 s.hi, .bool s.hs, .bool s.op], ⟨rfl, by decide, by simp, cell_nM hbox⟩, ?_⟩
  apply CallI.use1
  focus (exact fun w2 h2 => wwithin_any z s hs w2)
  intro w2 v2 h2 hB2
  exact EndI.mk fun w9 h9 => rfl
theorem window1_any (z : Zn) (lo hi : Int) (hlo : inK .i64 lo) (hhi : inK .i64 hi) (B C : Nat) (w : World) (hB : w.heap[B]? = some (.cells #[.int .i64 lo] 3 (0, 0))) (hC : w.heap[C]? = some (.cells #[.int .i64 hi] 3 (0, 0))) :
    Calls Tryz.prog 81 #[.agg #[.int .i64 z.a, .int .i64 z.b, .int .i64 z.c, .int .i64 z.d, .int .i64 z.e, .int .i64 z.f], .pointer (some ⟨B, 0, none⟩), .pointer (some ⟨C, 0, none⟩)] w fun e w' => e = .returned (.tuple #[.agg #[.int .i64 (Wn.window z lo hi).1.a, .int .i64 (Wn.window z lo hi).1.b, .int .i64 (Wn.window z lo hi).1.c, .int .i64 (Wn.window z lo hi).1.d, .int .i64 (Wn.window z lo hi).1.e, .int .i64 (Wn.window z lo hi).1.f], .int .i64 (Wn.window z lo hi).2]) ∧ Below w.heap.size w w' := by
  refine fun_eq 0 w Tryz.func81 (args := [.agg [.val (.int .i64 z.a), .val (.int .i64 z.b), .val (.int .i64 z.c), .val (.int .i64 z.d), .val (.int .i64 z.e), .val (.int .i64 z.f)], .val (.pointer (some ⟨B, 0, none⟩)), .val (.pointer (some ⟨C, 0, none⟩))]) rfl rfl ?_
  refine NewI.mk fun b1 hb1 => ?_
  refine NewI.mk fun b2 hb2 => ?_
  refine LoadI.mk ⟨_, ⟨cell_oneM hB, by simp⟩, ?_⟩
  refine LoadI.mk ⟨_, ⟨cell_oneM hC, by simp⟩, ?_⟩
  apply CallI.use1
  focus (exact fun w2 h2 => wwindow_any z lo hi hlo hhi w2)
  intro w2 v2 h2 hB2
  exact EndI.mk fun w9 h9 => rfl
theorem zswithin_any (l : List Zn) (s : Sp) (hs : s.ins) (a : Option Addr) (cap : Nat) (w : World) (hS : Sl w.heap.size w (.slice a l.length cap) l) :
    Calls Tryz.prog 24 #[.slice a l.length cap, .agg #[.int .i64 s.lo, .bool s.ls, .int .i64 s.hi, .bool s.hs, .bool s.op]] w (Ret w fun v w' => ∃ a' c', v = .tuple #[.slice a' (Zs.within l s).1.length c', .int .i64 (Zs.within l s).2] ∧ Own TZ w.heap.size w' (.slice a' (Zs.within l s).1.length c') (Zs.within l s).1) := by
  refine fun_ret 0 w Tryz.func24 (args := [.val (.slice a l.length cap), .agg [.val (.int .i64 s.lo), .val (.bool s.ls), .val (.int .i64 s.hi), .val (.bool s.hs), .val (.bool s.op)]]) rfl rfl ?_
  refine NewI.frn fun w1 h1 => ?_
  have hbox : (w1.alloc (.cells #[.int .i64 s.lo, .bool s.ls, .int .i64 s.hi, .bool s.hs, .bool s.op] 32)).heap[w1.heap.size]? = some (.cells #[.int .i64 s.lo, .bool s.ls, .int .i64 s.hi, .bool s.hs, .bool s.op] 32 (0, 0)) := World.alloc_heap_new w1 _
  apply CallI.use
  focus (exact fun w2 h2 => each_any (fun z => Wn.within z s) 79 #[.pointer (some ⟨w1.heap.size, 0, none⟩)] Tryz.call79 l a cap w2 (hS.go h2.below h2.below.size) (fun x W hK => within1_any x s hs w1.heap.size W ((hK.2 _ (Nat.lt_of_lt_of_le (lt_cellsM hbox) (at_belowM h2 (by simp)).size) (by simp)).trans (((at_belowM h2 (by simp)).block _ (lt_cellsM hbox)).trans hbox))))
  rintro v w2 v2 h2 hB2 ⟨a2, c2, rfl, hO2⟩
  exact EndI.mk fun w9 h9 => ⟨a2, c2, rfl, (hO2.lower h2.below.size).below (at_belowM h9 (by simp))⟩
theorem zswindow_any (l : List Zn) (lo hi : Int) (hlo : inK .i64 lo) (hhi : inK .i64 hi) (a : Option Addr) (cap : Nat) (w : World) (hS : Sl w.heap.size w (.slice a l.length cap) l) :
    Calls Tryz.prog 25 #[.slice a l.length cap, .int .i64 lo, .int .i64 hi] w (Ret w fun v w' => ∃ a' c', v = .tuple #[.slice a' (Zs.window l lo hi).1.length c', .int .i64 (Zs.window l lo hi).2] ∧ Own TZ w.heap.size w' (.slice a' (Zs.window l lo hi).1.length c') (Zs.window l lo hi).1) := by
  refine fun_ret 0 w Tryz.func25 (args := [.val (.slice a l.length cap), .val (.int .i64 lo), .val (.int .i64 hi)]) rfl rfl ?_
  refine NewI.frn fun w1 h1 => ?_
  have hbox : (w1.alloc (.cells #[.int .i64 lo] 3)).heap[w1.heap.size]? = some (.cells #[.int .i64 lo] 3 (0, 0)) := World.alloc_heap_new w1 _
  refine NewI.frn fun w2 h2 => ?_
  have g2 := at_belowM h2 (by simp)
  have hbox2 : (w2.alloc (.cells #[.int .i64 hi] 3)).heap[w2.heap.size]? = some (.cells #[.int .i64 hi] 3 (0, 0)) := World.alloc_heap_new w2 _
  have hal : Below w2.heap.size w2 (w2.alloc (.cells #[.int .i64 hi] 3)) := (Below.refl _ _).alloc (Nat.le_refl _) _
  have hboxa := (g2.block _ (lt_cellsM hbox)).trans hbox
  have hboxb := (hal.block _ (lt_cellsM hboxa)).trans hboxa
  apply CallI.use
  focus (exact fun w3 h3 => each_any (fun z => Wn.window z lo hi) 81 #[.pointer (some ⟨w1.heap.size, 0, none⟩), .pointer (some ⟨w2.heap.size, 0, none⟩)] Tryz.call81 l a cap w3 (hS.go h3.below h3.below.size) (fun x W hK => window1_any x lo hi hlo hhi w1.heap.size w2.heap.size W
    ((hK.2 _ (Nat.lt_of_lt_of_le (lt_cellsM hboxb) (at_belowM h3 (by simp)).size) (by simp)).trans (((at_belowM h3 (by simp)).block _ (lt_cellsM hboxb)).trans hboxb))
    ((hK.2 _ (Nat.lt_of_lt_of_le (lt_cellsM hbox2) (at_belowM h3 (by simp)).size) (by simp)).trans (((at_belowM h3 (by simp)).block _ (lt_cellsM hbox2)).trans hbox2))))
  rintro v w3 v3 h3 hB3 ⟨a2, c2, rfl, hO2⟩
  exact EndI.mk fun w9 h9 => ⟨a2, c2, rfl, (hO2.lower h3.below.size).below (at_belowM h9 (by simp))⟩
end Go.Proofs.YtjbhpfmnfdebkaaGreat

namespace Go.Proofs.YtjbhpfmnfdebkaaGreat
set_option linter.unusedVariables false
set_option linter.unusedSimpArgs false
set_option maxRecDepth 100000
open Go.RowKit Go.Proofs.YtjbhpfmnfdebkaaGreat.Eng Enc

namespace Zs
def check (l : List Zn) : Int := if (Cv.prune l).2 = 0 ∧ (Cv.prune l).1 = l then 0 else 8
def has (l : List Zn) (p : Pt) : Bool × Int :=
  if Cv.checked [l] = 0 then (if (Zo.has free p).2 = 0 then (l.any (fun z => decide ((Zo.has z p).2 = 0) && (Zo.has z p).1), 0) else (false, (Zo.has free p).2)) else (false, Cv.checked [l])
end Zs
end Go.Proofs.YtjbhpfmnfdebkaaGreat

namespace Go.Proofs.YtjbhpfmnfdebkaaGreat
set_option linter.unusedVariables false
set_option linter.unusedSimpArgs false
open Go.RowKit Go.Proofs.YtjbhpfmnfdebkaaGreat.Eng Enc
namespace Zo
open Mi Dbm
theorem mayC_min {x y : Int} (hx : mayC x = true) (hy : mayC y = true) : mayC (min x y) = true := by
  by_cases h : x ≤ y
  · rw [Int.min_eq_left h]; exact hx
  · rw [Int.min_eq_right (by omega)]; exact hy
theorem chk_lessr {n : Int} {L M : List Int} (h1 : Dbm.chk n L = 0) (h2 : Dbm.chk n M = 0) : Dbm.chk n (lessr L M) = 0 := by
  obtain ⟨a1, a2, a3, a4⟩ := chk_iff.1 h1
  obtain ⟨b1, b2, b3, b4⟩ := chk_iff.1 h2
  refine chk_iff.2 ⟨a1, a2, by rw [lessr_len]; exact a3, ?_⟩
  rw [List.any_eq_false] at a4 b4 ⊢
  intro z hz
  unfold lessr at hz
  obtain ⟨q, hq, rfl⟩ := List.mem_map.1 hz
  have hq := List.mem_range.1 hq
  have e1 := List.getElem?_eq_getElem (l := L) (i := q) hq
  have e2 := List.getElem?_eq_getElem (l := M) (i := q) (by omega)
  have k1 := a4 _ (List.getElem_mem hq)
  have k2 := b4 _ (List.getElem_mem (by omega : q < M.length))
  rw [e1, e2]
  simp only [Option.getD_some, Bool.not_eq_true', Bool.not_eq_true, Bool.not_eq_false] at k1 k2 ⊢
  exact mayC_min k1 k2
theorem fits_lessr {N : Nat} {L M : List Int} (h1 : Dbm.chk N L = 0) (h2 : Dbm.chk N M = 0) (t : Nat → Rat) : Fits N (mx N (lessr L M)) t ↔ Fits N (mx N L) t ∧ Fits N (mx N M) t := by
  have l1 := chk_lenK h1
  have l2 := chk_lenK h2
  have key : ∀ i j, i < N → j < N → (satO (t i - t j) (mx N (lessr L M) i j) ↔ satO (t i - t j) (mx N L i j) ∧ satO (t i - t j) (mx N M i j)) := fun i j hi hj => by
    have hp := place_lt hi hj
    have e : (lessr L M)[i * N + j]?.getD 0 = min (L[i * N + j]?.getD 0) (M[i * N + j]?.getD 0) := by
      unfold lessr
      rw [List.getElem?_map, List.getElem?_range (by omega)]; rfl
    unfold mx
    rw [e]
    exact satO_min _ _ _ (lim_lt (chk_limK h1 i j hi hj) (by decide)) (lim_lt (chk_limK h2 i j hi hj) (by decide))
  constructor
  · exact fun h => ⟨fun i j hi hj => ((key i j hi hj).1 (h i j hi hj)).1, fun i j hi hj => ((key i j hi hj).1 (h i j hi hj)).2⟩
  · exact fun h i j hi hj => (key i j hi hj).2 ⟨h.1 i j hi hj, h.2 i j hi hj⟩
theorem meet_of {a b : Zn} (ha : chk a = 0) (hb : chk b = 0) : meet a b = of 3 (lessr (matL a) (matL b)) := by
  have h1 := (clo ha).1
  have h2 := (clo hb).1
  have e : Tg.meet 3 (matL a) 3 (matL b) = Dbm.close 3 (lessr (matL a) (matL b)) := by
    unfold Tg.meet
    rw [if_neg (by rintro (h | h); exact h h1; exact h h2), if_neg (by decide)]
  have c3 : Dbm.chk 3 (lessr (matL a) (matL b)) = 0 := chk_lessr h1 h2
  unfold meet of
  rw [if_pos (checks_two.2 ⟨ha, hb⟩), if_pos c3, if_pos rfl, e]
theorem meet_ok {a b : Zn} (ha : chk a = 0) (hb : chk b = 0) (h : (meet a b).2 = 0) : chk (meet a b).1 = 0 ∧ ∀ t, Fz (meet a b).1 t ↔ Fz a t ∧ Fz b t := by
  rw [meet_of ha hb] at h ⊢
  obtain ⟨h1, h2⟩ := of_ok h
  exact ⟨h1, fun t => (h2 t).trans (fits_lessr (N := 3) (clo ha).1 (clo hb).1 t)⟩
theorem meet_none {a b : Zn} (ha : chk a = 0) (hb : chk b = 0) (h : (meet a b).2 = 6) (t : Nat → Rat) : ¬ (Fz a t ∧ Fz b t) := by
  rw [meet_of ha hb] at h
  intro hf
  exact of_none h t ((fits_lessr (N := 3) (clo ha).1 (clo hb).1 t).2 hf)
end Zo
namespace Zs
open Mi Dbm
def Pts (l : List Zn) (t : Nat → Rat) : Prop := ∃ z, z ∈ l ∧ Fz z t
theorem checked_ok {ls : List (List Zn)} : Cv.checked ls = 0 ↔ ∀ l, l ∈ ls → l.length ≤ 4096 ∧ ∀ z, z ∈ l → Zo.chk z = 0 := by
  unfold Cv.checked
  constructor
  · intro h l hl
    split at h
    · cases h
    · rename_i h1
      split at h
      · cases h
      · rename_i h2
        rw [List.any_eq_true] at h1 h2
        refine ⟨?_, fun z hz => ?_⟩
        · apply Classical.byContradiction; intro hh; exact h1 ⟨l, hl, decide_eq_true (by omega)⟩
        · apply Classical.byContradiction; intro hh; exact h2 ⟨l, hl, List.any_eq_true.2 ⟨z, hz, by simpa [Cv.odd] using hh⟩⟩
  · intro h
    rw [if_neg, if_neg]
    · rw [List.any_eq_true]
      rintro ⟨l, hl, k⟩
      obtain ⟨z, hz, k⟩ := List.any_eq_true.1 k
      have := (h l hl).2 z hz
      simp [Cv.odd, this] at k
    · rw [List.any_eq_true]
      rintro ⟨l, hl, k⟩
      have := (h l hl).1
      simp at k; omega
theorem pts_prune {l : List Zn} (h : (Cv.prune l).2 = 0) (t : Nat → Rat) : Pts (Cv.prune l).1 t ↔ Pts l t := ((Cv.prune_ok h).pts t).symm
theorem come_ok (f : Zn → Zn × Int) : ∀ (l out : List Zn), (come f out l).2 = 0 →
    (∃ m, (Cv.prune m).2 = 0 ∧ come f out l = Cv.prune m) ∧ (∀ x, x ∈ l → (f x).2 = 0 ∨ (f x).2 = 6) ∧ ∀ t, Pts (come f out l).1 t ↔ Pts out t ∨ ∃ x, x ∈ l ∧ (f x).2 = 0 ∧ Fz (f x).1 t
  | [], out, h => by
    change (Cv.prune out).2 = 0 at h
    refine ⟨⟨out, h, rfl⟩, (fun x hx => (nomatch hx)), fun t => ?_⟩
    show Pts (Cv.prune out).1 t ↔ _
    rw [pts_prune h t]
    exact ⟨.inl, fun k => k.elim id fun ⟨x, hx, _⟩ => (nomatch hx)⟩
  | x :: l, out, h => by
    rw [come_cons] at h ⊢
    by_cases h0 : (f x).2 = 0
    · rw [if_pos h0] at h ⊢
      obtain ⟨k1, k2, k3⟩ := come_ok f l _ h
      refine ⟨k1, fun y hy => (List.mem_cons.1 hy).elim (fun e => e ▸ .inl h0) (k2 y), fun t => (k3 t).trans ?_⟩
      constructor
      · rintro (⟨z, hz, hf⟩ | ⟨y, hy, hf⟩)
        · rcases List.mem_append.1 hz with hz | hz
          · exact .inl ⟨z, hz, hf⟩
          · rw [List.mem_singleton.1 hz] at hf; exact .inr ⟨x, by simp, h0, hf⟩
        · exact .inr ⟨y, List.mem_cons_of_mem _ hy, hf⟩
      · rintro (⟨z, hz, hf⟩ | ⟨y, hy, h1, hf⟩)
        · exact .inl ⟨z, List.mem_append_left _ hz, hf⟩
        · rcases List.mem_cons.1 hy with rfl | hy
          · exact .inl ⟨_, List.mem_append_right _ (by simp), hf⟩
          · exact .inr ⟨y, hy, h1, hf⟩
    · rw [if_neg h0] at h ⊢
      by_cases h6 : (f x).2 = 6
      · rw [if_pos h6] at h ⊢
        obtain ⟨k1, k2, k3⟩ := come_ok f l _ h
        refine ⟨k1, fun y hy => (List.mem_cons.1 hy).elim (fun e => e ▸ .inr h6) (k2 y), fun t => (k3 t).trans ?_⟩
        constructor
        · rintro (hf | ⟨y, hy, hf⟩)
          · exact .inl hf
          · exact .inr ⟨y, List.mem_cons_of_mem _ hy, hf⟩
        · rintro (hf | ⟨y, hy, h1, hf⟩)
          · exact .inl hf
          · rcases List.mem_cons.1 hy with rfl | hy
            · exact absurd h1 h0
            · exact .inr ⟨y, hy, h1, hf⟩
      · rw [if_neg h6] at h
        exact absurd h h0
theorem pairGo_ok (f : Zn → Zn → Zn × Int) (b : List Zn) : ∀ (a out : List Zn), (pairGo f b out a).2 = 0 →
    ((a = [] ∧ (pairGo f b out a).1 = out) ∨ ∃ m, (Cv.prune m).2 = 0 ∧ (pairGo f b out a).1 = (Cv.prune m).1) ∧ (∀ x y, x ∈ a → y ∈ b → (f x y).2 = 0 ∨ (f x y).2 = 6) ∧ ∀ t, Pts (pairGo f b out a).1 t ↔ Pts out t ∨ ∃ x y, x ∈ a ∧ y ∈ b ∧ (f x y).2 = 0 ∧ Fz (f x y).1 t
  | [], out, h => ⟨.inl ⟨rfl, rfl⟩, (fun x y hx => (nomatch hx)), fun t => ⟨.inl, fun k => k.elim id fun ⟨x, y, hx, _⟩ => (nomatch hx)⟩⟩
  | x :: a, out, h => by
    rw [pairGo_cons] at h ⊢
    by_cases h0 : (come (f x) out b).2 = 0
    · rw [if_pos h0] at h ⊢
      obtain ⟨⟨m, hm1, hm2⟩, c2, c3⟩ := come_ok (f x) b out h0
      obtain ⟨k1, k2, k3⟩ := pairGo_ok f b a _ h
      refine ⟨.inr ?_, fun y z hy hz => (List.mem_cons.1 hy).elim (fun e => e ▸ c2 z hz) fun hy => k2 y z hy hz, fun t => (k3 t).trans ?_⟩
      · rcases k1 with ⟨_, e⟩ | k
        · exact ⟨m, hm1, by rw [e, hm2]⟩
        · exact k
      · rw [c3 t]
        constructor
        · rintro ((hf | ⟨y, hy, h1, hf⟩) | ⟨z, y, hz, hy, h1, hf⟩)
          · exact .inl hf
          · exact .inr ⟨x, y, by simp, hy, h1, hf⟩
          · exact .inr ⟨z, y, List.mem_cons_of_mem _ hz, hy, h1, hf⟩
        · rintro (hf | ⟨z, y, hz, hy, h1, hf⟩)
          · exact .inl (.inl hf)
          · rcases List.mem_cons.1 hz with rfl | hz
            · exact .inl (.inr ⟨y, hy, h1, hf⟩)
            · exact .inr ⟨z, y, hz, hy, h1, hf⟩
    · rw [if_neg h0] at h
      exact absurd h h0
def Fine (m : List Zn) : Prop := m.length ≤ 4096 ∧ (∀ z, z ∈ m → Zo.chk z = 0) ∧ ((Cv.prune m).2 = 0 → (Cv.prune m).1 = m)
theorem fine_nil : Fine [] := ⟨by simp, fun z hz => (nomatch hz), fun h => List.eq_nil_iff_forall_not_mem.2 fun x hx => nomatch (Cv.prune_ok h).mem x hx⟩
theorem fine_prune {l : List Zn} (h : (Cv.prune l).2 = 0) : Fine (Cv.prune l).1 := by
  have hw := Cv.prune_ok h
  exact ⟨Nat.le_trans hw.mlen hw.len, fun z hz => hw.chk z (hw.mem z hz), fun h2 => hw.again h2⟩
theorem paired_ok {f : Zn → Zn → Zn × Int} {a b : List Zn} (h : (paired f a b).2 = 0) : Cv.checked [a, b] = 0 ∧ Fine (paired f a b).1 ∧ (∀ x y, x ∈ a → y ∈ b → (f x y).2 = 0 ∨ (f x y).2 = 6) ∧ ∀ t, Pts (paired f a b).1 t ↔ ∃ x y, x ∈ a ∧ y ∈ b ∧ (f x y).2 = 0 ∧ Fz (f x y).1 t := by
  unfold paired at h ⊢
  by_cases h0 : Cv.checked [a, b] = 0
  · rw [if_pos h0] at h ⊢
    obtain ⟨k1, k2, k3⟩ := pairGo_ok f b a [] h
    refine ⟨h0, ?_, k2, fun t => (k3 t).trans ⟨fun k => k.elim (fun ⟨z, hz, _⟩ => (nomatch hz)) id, .inr⟩⟩
    rcases k1 with ⟨_, e⟩ | ⟨m, hm, e⟩
    · rw [e]; exact fine_nil
    · rw [e]; exact fine_prune hm
  · rw [if_neg h0] at h
    exact absurd h h0
theorem or_ok {a b : List Zn} (h : (or a b).2 = 0) : Cv.checked [a, b] = 0 ∧ Fine (or a b).1 ∧ ∀ t, Pts (or a b).1 t ↔ Pts a t ∨ Pts b t := by
  unfold or at h ⊢
  by_cases h0 : Cv.checked [a, b] = 0
  · rw [if_pos h0] at h ⊢
    refine ⟨h0, fine_prune h, fun t => (pts_prune h t).trans ?_⟩
    constructor
    · rintro ⟨z, hz, hf⟩
      exact (List.mem_append.1 hz).elim (fun hz => .inl ⟨z, hz, hf⟩) fun hz => .inr ⟨z, hz, hf⟩
    · rintro (⟨z, hz, hf⟩ | ⟨z, hz, hf⟩)
      · exact ⟨z, List.mem_append_left _ hz, hf⟩
      · exact ⟨z, List.mem_append_right _ hz, hf⟩
  · rw [if_neg h0] at h
    exact absurd h h0
theorem checked2 {a b : List Zn} (h : Cv.checked [a, b] = 0) : (∀ z, z ∈ a → Zo.chk z = 0) ∧ ∀ z, z ∈ b → Zo.chk z = 0 := ⟨(checked_ok.1 h a (by simp)).2, (checked_ok.1 h b (by simp)).2⟩
theorem and_ok {a b : List Zn} (h : (and a b).2 = 0) : Cv.checked [a, b] = 0 ∧ Fine (and a b).1 ∧ ∀ t, Pts (and a b).1 t ↔ Pts a t ∧ Pts b t := by
  obtain ⟨h0, h1, h2, h3⟩ := paired_ok h
  obtain ⟨ca, cb⟩ := checked2 h0
  refine ⟨h0, h1, fun t => (h3 t).trans ?_⟩
  constructor
  · rintro ⟨x, y, hx, hy, he, hf⟩
    have := ((Zo.meet_ok (ca x hx) (cb y hy) he).2 t).1 hf
    exact ⟨⟨x, hx, this.1⟩, y, hy, this.2⟩
  · rintro ⟨⟨x, hx, h1⟩, y, hy, hf⟩
    rcases h2 x y hx hy with he | he
    · exact ⟨x, y, hx, hy, he, ((Zo.meet_ok (ca x hx) (cb y hy) he).2 t).2 ⟨h1, hf⟩⟩
    · exact absurd ⟨h1, hf⟩ (Zo.meet_none (ca x hx) (cb y hy) he t)
theorem free_chk : Zo.chk free = 0 := by decide +kernel
theorem has_ok {l : List Zn} {p : Pt} (h : (has l p).2 = 0) : Cv.checked [l] = 0 ∧ p.t.ok = true ∧ p.u.ok = true ∧ ((has l p).1 = true ↔ Pts l (tvs [p.t, p.u])) := by
  unfold has at h ⊢
  by_cases h0 : Cv.checked [l] = 0
  case neg => rw [if_neg h0] at h; exact absurd h h0
  rw [if_pos h0] at h ⊢
  by_cases h1 : (Zo.has free p).2 = 0
  case neg => rw [if_neg h1] at h; exact absurd h h1
  rw [if_pos h1]
  obtain ⟨_, ht, hu⟩ := Cv.has_err h1
  refine ⟨h0, ht, hu, ?_⟩
  simp only [List.any_eq_true, Bool.and_eq_true, decide_eq_true_eq]
  have hc := (checked_ok.1 h0 l (by simp)).2
  constructor
  · rintro ⟨z, hz, _, hf⟩
    exact ⟨z, hz, (Zo.has_ok (hc z hz) ht hu).2.1 hf⟩
  · rintro ⟨z, hz, hf⟩
    obtain ⟨k1, k2⟩ := Zo.has_ok (hc z hz) ht hu
    exact ⟨z, hz, k1, k2.2 hf⟩
end Zs
end Go.Proofs.YtjbhpfmnfdebkaaGreat

namespace Go.Proofs.YtjbhpfmnfdebkaaGreat
set_option linter.unusedVariables false
set_option linter.unusedSimpArgs false
set_option maxRecDepth 100000
open Go.RowKit Go.Proofs.YtjbhpfmnfdebkaaGreat.Eng Enc

namespace Zo
open Dbm
end Zo
end Go.Proofs.YtjbhpfmnfdebkaaGreat

namespace Go.Proofs.YtjbhpfmnfdebkaaGreat
set_option linter.unusedVariables false
set_option linter.unusedSimpArgs false
set_option maxRecDepth 100000
open Go.RowKit Go.Proofs.YtjbhpfmnfdebkaaGreat.Eng Enc

def Sp.fit (s : Sp) : Prop := (-288230376151711744 ≤ s.lo ∧ s.lo ≤ 288230376151711744) ∧ (s.op = true ∨ -288230376151711744 ≤ s.hi ∧ s.hi ≤ 288230376151711744)
end Go.Proofs.YtjbhpfmnfdebkaaGreat

namespace Go.Proofs.YtjbhpfmnfdebkaaGreat
set_option linter.unusedVariables false
set_option linter.unusedSimpArgs false
open Go.RowKit Go.Proofs.YtjbhpfmnfdebkaaGreat.Eng Enc
namespace Ky
open Dbm Mi Cv
structure Mt (long : Int) (z : Zn) : Prop where
  chk : Zo.chk z = 0
  b : z.b ≤ 1
  f : z.f ≤ 0
  c : z.c ≤ 2 * long + 1
theorem satO_below {d : Rat} {b m : Int} (h : satO d (ob b)) (hb : b ≤ m) (hm : m < NO) : satO d (some m) := by
  refine satO_mono (a := ob b) ?_ h
  unfold ob
  rw [if_neg (by omega)]
  exact hb
theorem Mt.pt {long : Int} (hl : long ≤ 16) {z : Zn} (h : Mt long z) {t : Nat → Rat} (ht : Fz z t) : 0 ≤ t 1 - t 0 ∧ t 1 - t 0 < t 2 - t 0 ∧ t 2 - t 0 ≤ (long : Rat) := by
  have k := (fz_iff z t).1 ht
  have k1 := satO_below (k 1 (by decide)) (show Zo.get z 1 ≤ 1 from h.b) (by decide)
  have k5 := satO_below (k 5 (by decide)) (show Zo.get z 5 ≤ 0 from h.f) (by decide)
  have k2 := satO_below (k 2 (by decide)) (show Zo.get z 2 ≤ 2 * long + 1 from h.c) (by unfold NO; omega)
  have s1 : Bd.st 1 = false := by decide
  have s0 : Bd.st 0 = true := by decide
  have s2 : Bd.st (2 * long + 1) = false := by
    cases hh : Bd.st (2 * long + 1)
    · rfl
    · have := (st_iff _).1 hh; omega
  unfold satO at k1 k5 k2
  simp only [s1, s0, s2, Bool.false_eq_true, if_true, if_false] at k1 k5 k2
  have e1 : (((1 : Int) / 2 : Int) : Rat) = 0 := by decide +kernel
  have e0 : (((0 : Int) / 2 : Int) : Rat) = 0 := by decide +kernel
  have e2 : (((2 * long + 1) / 2 : Int) : Rat) = (long : Rat) := by rw [show (2 * long + 1) / 2 = long by omega]
  rw [e1] at k1
  rw [e0] at k5
  rw [e2] at k2
  have d1 : dif 1 t = t 0 - t 1 := rfl
  have d5 : dif 5 t = t 1 - t 2 := rfl
  have d2 : dif 2 t = t 2 - t 0 := rfl
  rw [d1] at k1
  rw [d5] at k5
  rw [d2] at k2
  exact ⟨by grind, by grind, k2⟩
theorem bsum_le {x y m n : Int} (hx : x ≤ m) (hy : y ≤ n) : bsum x y ≤ bsum m n := bsum_mono hx hy
theorem Mt.sm {long : Int} (hl : 1 ≤ long ∧ long ≤ 16) {z : Zn} (h : Mt long z) : Sm 100 z := by
  have clo := (Zo.clo h.chk).2
  have tri : ∀ i j a, i < 3 → j < 3 → a < 3 → ∀ u v, (Zo.matL z)[i * 3 + a]?.getD 0 = u → (Zo.matL z)[a * 3 + j]?.getD 0 = v → u < NO → v < NO → (Zo.matL z)[i * 3 + j]?.getD 0 ≤ bsum u v := fun i j a hi hj ha u v hu hv hun hvn => by
    have h1 := clo.tri i j a hi hj ha
    have m2 : mx 3 (Zo.matL z) i a = some u := by unfold mx ob; rw [hu, if_neg (by omega)]
    have m3 : mx 3 (Zo.matL z) a j = some v := by unfold mx ob; rw [hv, if_neg (by omega)]
    rw [m2, m3] at h1
    cases hw : mx 3 (Zo.matL z) i j with
    | none => rw [hw] at h1; exact h1.elim
    | some x =>
      rw [hw] at h1
      rw [(mx_some hw).1]
      exact h1
  have hN : (100 : Int) < NO := by decide
  have b := h.b
  have f := h.f
  have c := h.c
  have ha := tri 1 0 2 (by decide) (by decide) (by decide) z.f z.c rfl rfl (by omega) (by omega)
  have hd := tri 0 2 1 (by decide) (by decide) (by decide) z.b z.f rfl rfl (by omega) (by omega)
  have he := tri 2 1 0 (by decide) (by decide) (by decide) z.c z.b rfl rfl (by omega) (by omega)
  have ha1 : z.a ≤ bsum z.f z.c := ha
  have hd1 : z.d ≤ bsum z.b z.f := hd
  have he1 : z.e ≤ bsum z.c z.b := he
  have ha2 := bsum_le f c
  have hd2 := bsum_le b f
  have he2 := bsum_le c b
  have q1 : bsum 0 (2 * long + 1) ≤ 100 := by unfold bsum; omega
  have q2 : bsum 1 0 ≤ 100 := by decide
  have q3 : bsum (2 * long + 1) 1 ≤ 100 := by rw [bsum_one]; omega
  intro k hk
  rcases six hk with rfl | rfl | rfl | rfl | rfl | rfl
  · show z.a ≤ 100; omega
  · show z.b ≤ 100; omega
  · show z.c ≤ 100; omega
  · show z.d ≤ 100; omega
  · show z.e ≤ 100; omega
  · show z.f ≤ 100; omega
theorem Mt.less {long : Int} {y z : Zn} (h : Mt long z) (hy : Zo.chk y = 0) (hle : ∀ k, k < 6 → Zo.get y k ≤ Zo.get z k) : Mt long y :=
  ⟨hy, Int.le_trans (hle 1 (by decide)) h.b, Int.le_trans (hle 5 (by decide)) h.f, Int.le_trans (hle 2 (by decide)) h.c⟩
def rep (n long : Int) : Nat → Rat := Dbm.tvs [(Rg.pt n long).t, (Rg.pt n long).u]
def regs (long : Int) : List Int := Rg.up long (Rg.isR long)
theorem isR_lt {long x : Int} (h : Rg.isR long x = true) : 0 ≤ x ∧ x < (Rg.many long).1 := by
  unfold Rg.isR at h
  simp only [Bool.and_eq_true, decide_eq_true_eq] at h
  exact h.1
theorem mem_regs {long x : Int} : x ∈ regs long ↔ Rg.isR long x = true := Rg.mem_up (fun x h => isR_lt h) x
theorem Mt.rep {long : Int} (hl : 1 ≤ long ∧ long ≤ 16) {z : Zn} (h : Mt long z) {t : Nat → Rat} (ht : Fz z t) : ∃ n, n ∈ regs long ∧ ∀ y, Fz y t ↔ Fz y (Ky.rep n long) := by
  obtain ⟨p1, p2, p3⟩ := h.pt hl.2 ht
  obtain ⟨n, h1, h2, h3, h4, h5, h6⟩ := key_pt (t := fun i => t i - t 0) hl (by grind) p1 p2 p3
  refine ⟨n, mem_regs.2 (by unfold Rg.isR; rw [decide_eq_true h1, decide_eq_true h2, h3]; rfl), fun y => ?_⟩
  exact (fz_shift y t (t 0)).trans (h6.fz y)
end Ky
end Go.Proofs.YtjbhpfmnfdebkaaGreat

namespace Go.Proofs.YtjbhpfmnfdebkaaGreat
set_option linter.unusedVariables false
set_option linter.unusedSimpArgs false
open Go.RowKit Go.Proofs.YtjbhpfmnfdebkaaGreat.Eng Enc
namespace Dbm
theorem top_of : ∀ (l : List (Rat × Bool)), l ≠ [] → ∃ a, a ∈ l ∧ ∀ b, b ∈ l → b.1 < a.1 ∨ (b.1 = a.1 ∧ (b.2 = true → a.2 = true))
  | [], h => absurd rfl h
  | [x], _ => ⟨x, by simp, fun b hb => by rw [List.mem_singleton.1 hb]; exact .inr ⟨rfl, id⟩⟩
  | x :: y :: l, _ => by
    obtain ⟨a, ha, hm⟩ := top_of (y :: l) (by simp)
    by_cases h : a.1 < x.1 ∨ (a.1 = x.1 ∧ (a.2 = true → x.2 = true))
    · refine ⟨x, by simp, fun b hb => ?_⟩
      rcases List.mem_cons.1 hb with rfl | hb
      · exact .inr ⟨rfl, id⟩
      · rcases hm b hb with h1 | ⟨h1, h2⟩
        · rcases h with h3 | ⟨h3, h4⟩
          · exact .inl (by grind)
          · exact .inl (by grind)
        · rcases h with h3 | ⟨h3, h4⟩
          · exact .inl (by grind)
          · exact .inr ⟨h1.trans h3, fun k => h4 (h2 k)⟩
    · refine ⟨a, List.mem_cons_of_mem _ ha, fun b hb => ?_⟩
      rcases List.mem_cons.1 hb with rfl | hb
      · by_cases h1 : b.1 < a.1
        · exact .inl h1
        · have h2 : a.1 = b.1 := by
            apply Classical.byContradiction; intro hne
            exact h (.inl (by grind))
          refine .inr ⟨h2.symm, fun k => ?_⟩
          apply Classical.byContradiction; intro hn
          exact h (.inr ⟨h2, fun _ => k⟩)
      · exact hm b hb
def LoQ (a : Rat × Bool) (s : Rat) : Prop := if a.2 = true then a.1 < s else a.1 ≤ s
def HiQ (a : Rat × Bool) (s : Rat) : Prop := if a.2 = true then s < a.1 else s ≤ a.1
theorem LoQ.mono {a b : Rat × Bool} {s : Rat} (h : LoQ a s) (hb : b.1 < a.1 ∨ (b.1 = a.1 ∧ (b.2 = true → a.2 = true))) : LoQ b s := by
  unfold LoQ at *
  split <;> split at h <;> rcases hb with hb | ⟨hb, hc⟩ <;> first | grind | (rename_i k1 k2; exact absurd (hc k1) k2)
theorem HiQ.mono {a b : Rat × Bool} {s : Rat} (h : HiQ a s) (hb : a.1 < b.1 ∨ (b.1 = a.1 ∧ (b.2 = true → a.2 = true))) : HiQ b s := by
  unfold HiQ at *
  split <;> split at h <;> rcases hb with hb | ⟨hb, hc⟩ <;> first | grind | (rename_i k1 k2; exact absurd (hc k1) k2)
theorem bot_of (l : List (Rat × Bool)) (hl : l ≠ []) : ∃ a, a ∈ l ∧ ∀ b, b ∈ l → a.1 < b.1 ∨ (b.1 = a.1 ∧ (b.2 = true → a.2 = true)) := by
  obtain ⟨a, ha, hm⟩ := top_of (l.map fun x => (-x.1, x.2)) (by simpa using hl)
  obtain ⟨x, hx, rfl⟩ := List.mem_map.1 ha
  refine ⟨x, hx, fun b hb => ?_⟩
  rcases hm (-b.1, b.2) (List.mem_map.2 ⟨b, hb, rfl⟩) with h | ⟨h, k⟩
  · exact .inl (by simp only at h; grind)
  · exact .inr ⟨by simp only at h; grind, k⟩
theorem room (lo hi : List (Rat × Bool)) (h : ∀ a, a ∈ lo → ∀ b, b ∈ hi → if (a.2 || b.2) = true then a.1 < b.1 else a.1 ≤ b.1) : ∃ s, (∀ a, a ∈ lo → LoQ a s) ∧ ∀ b, b ∈ hi → HiQ b s := by
  by_cases hl : lo = []
  · subst hl
    by_cases hh : hi = []
    · subst hh; exact ⟨0, fun a ha => (nomatch ha), fun b hb => (nomatch hb)⟩
    · obtain ⟨b, hb, hm⟩ := bot_of hi hh
      exact ⟨b.1 - 1, fun a ha => (nomatch ha), fun c hc => HiQ.mono (a := b) (by unfold HiQ; split <;> grind) (hm c hc)⟩
  · obtain ⟨a, ha, hm⟩ := top_of lo hl
    by_cases hh : hi = []
    · subst hh
      exact ⟨a.1 + 1, fun c hc => LoQ.mono (a := a) (by unfold LoQ; split <;> grind) (hm c hc), fun b hb => (nomatch hb)⟩
    · obtain ⟨b, hb, hn⟩ := bot_of hi hh
      have hab := h a ha b hb
      obtain ⟨s, h1, h2⟩ : ∃ s, LoQ a s ∧ HiQ b s := by
        by_cases hlt : a.1 < b.1
        · refine ⟨(a.1 + b.1) / 2, ?_, ?_⟩
          · unfold LoQ; split <;> grind
          · unfold HiQ; split <;> grind
        · have hn2 : ¬ (a.2 || b.2) = true := fun k => by rw [if_pos k] at hab; exact hlt hab
          rw [if_neg hn2] at hab
          have ha2 : ¬ a.2 = true := fun k => hn2 (by rw [k]; rfl)
          have hb2 : ¬ b.2 = true := fun k => hn2 (by rw [k]; simp)
          refine ⟨a.1, ?_, ?_⟩
          · unfold LoQ; rw [if_neg ha2]; exact Rat.le_refl
          · unfold HiQ; rw [if_neg hb2]; exact hab
      exact ⟨s, fun c hc => h1.mono (hm c hc), fun c hc => h2.mono (hn c hc)⟩
end Dbm
end Go.Proofs.YtjbhpfmnfdebkaaGreat

namespace Go.Proofs.YtjbhpfmnfdebkaaGreat.Proj
set_option linter.unusedVariables false
open Go.Proofs.YtjbhpfmnfdebkaaGreat.Dbm

theorem sk_lt {N k j : Nat} (hj : j < N - 1) : sk k j < N := by unfold sk; split <;> omega
theorem dropL_len (N k : Nat) (C : List Int) : (dropL N k C).length = (N - 1) * (N - 1) := by simp [dropL]
theorem dropL_get {N k : Nat} (C : List Int) {i j : Nat} (hi : i < N - 1) (hj : j < N - 1) : (dropL N k C)[i * (N - 1) + j]?.getD 0 = C[sk k i * N + sk k j]?.getD 0 := by
  unfold dropL
  rw [List.getElem?_map, List.getElem?_range (place_lt hi hj)]
  simp only [Option.map_some, Option.getD_some]
  unfold dropAt
  rw [place_div hj, place_mod hj]
theorem clo_drop {N k : Nat} {C : List Int} (h : Clo N C) : Clo (N - 1) (dropL N k C) := by
  have hm : ∀ i j, i < N - 1 → j < N - 1 → mx (N - 1) (dropL N k C) i j = mx N C (sk k i) (sk k j) := fun i j hi hj => by
    unfold mx; rw [dropL_get C hi hj]
  refine ⟨dropL_len _ _ _, fun i hi => ?_, fun i j a hi hj ha => ?_, fun i j hi hj => ?_⟩
  · rw [dropL_get C hi hi]; exact h.diag _ (sk_lt hi)
  · rw [hm i j hi hj, hm i a hi ha, hm a j ha hj]
    exact h.tri _ _ _ (sk_lt hi) (sk_lt hj) (sk_lt ha)
  · rw [dropL_get C hi hj]; exact h.lim _ _ (sk_lt hi) (sk_lt hj)
theorem ext_get {A B : List Int} {n : Nat} (ha : A.length = n) (hb : B.length = n) (h : ∀ q, q < n → A[q]?.getD 0 = B[q]?.getD 0) : A = B := by
  apply List.ext_getElem?
  intro q
  rcases Nat.lt_or_ge q n with hq | hq
  · have := h q hq
    rw [List.getElem?_eq_getElem (by omega), List.getElem?_eq_getElem (by omega)] at this ⊢
    exact congrArg some this
  · rw [List.getElem?_eq_none (by omega), List.getElem?_eq_none (by omega)]
theorem sk_sk {j k i : Nat} (hjk : j < k) : sk j (sk (k - 1) i) = sk k (sk j i) := by
  unfold sk
  by_cases h1 : i < k - 1 <;> by_cases h2 : i < j <;> simp only [h1, h2, if_true, if_false] <;> (repeat' split) <;> omega
theorem dropL_dropL {N j k : Nat} (C : List Int) (hjk : j < k) : dropL (N - 1) (k - 1) (dropL N j C) = dropL (N - 1) j (dropL N k C) := by
  refine ext_get (dropL_len _ _ _) (dropL_len _ _ _) fun q hq => ?_
  have h1 := div_lt hq
  have h2 := mod_lt hq
  rw [← div_mod (p := q) (N := N - 1 - 1)]
  rw [dropL_get _ h1 h2, dropL_get _ h1 h2, dropL_get _ (sk_lt h1) (sk_lt h2), dropL_get _ (sk_lt h1) (sk_lt h2), sk_sk hjk, sk_sk hjk]

theorem drop_ok {n : Int} {L : List Int} {k : Int} (h : (drop n L k).2.2 = 0) : chk n L = 0 ∧ 1 ≤ k ∧ k < n ∧ ∃ C, closeL n.toNat L = some C ∧ drop n L k = (n - 1, dropL n.toNat k.toNat C, 0) := by
  unfold drop at h ⊢
  split at h
  · rename_i h0
    split at h
    · cases h
    · rename_i h1
      split at h
      · rename_i C hC
        refine ⟨h0, by omega, by omega, C, hC, ?_⟩
        rw [if_pos h0, if_neg h1]
      · cases h
  · cases h
theorem drop_closed {N K : Nat} {A : List Int} (h0 : chk N A = 0) (hA : Clo N A) (h1 : 1 ≤ K) (h2 : K < N) : drop N A K = ((N : Int) - 1, dropL N K A, 0) := by
  unfold drop
  rw [if_pos h0, if_neg (by omega), Int.toNat_natCast, Int.toNat_natCast, hA.close]
theorem two {n : Int} {L : List Int} {j k : Int} (hjk : j < k) (ha : (drop n L j).2.2 = 0) (hb : (drop n L k).2.2 = 0) (ca : chk (drop n L j).1 (drop n L j).2.1 = 0) (cb : chk (drop n L k).1 (drop n L k).2.1 = 0) :
    drop (drop n L j).1 (drop n L j).2.1 (k - 1) = drop (drop n L k).1 (drop n L k).2.1 j := by
  obtain ⟨h0, j1, j2, C, hC, ea⟩ := drop_ok ha
  obtain ⟨_, k1, k2, C', hC', eb⟩ := drop_ok hb
  rw [hC] at hC'; injection hC' with hC'; subst hC'
  obtain ⟨N, rfl⟩ : ∃ N : Nat, n = N := ⟨n.toNat, by omega⟩
  obtain ⟨J, rfl⟩ : ∃ J : Nat, j = J := ⟨j.toNat, by omega⟩
  obtain ⟨K, rfl⟩ : ∃ K : Nat, k = K := ⟨k.toNat, by omega⟩
  rw [Int.toNat_natCast] at hC
  have hclo := close_clo h0 hC
  rw [ea] at ca ⊢
  rw [eb] at cb ⊢
  simp only [Int.toNat_natCast] at ca cb ⊢
  have en : (N : Int) - 1 = ((N - 1 : Nat) : Int) := by omega
  have ek : (K : Int) - 1 = ((K - 1 : Nat) : Int) := by omega
  rw [en] at ca cb ⊢
  rw [ek, drop_closed ca (clo_drop hclo) (by omega) (by omega), drop_closed cb (clo_drop hclo) (by omega) (by omega), dropL_dropL C (by omega)]
end Go.Proofs.YtjbhpfmnfdebkaaGreat.Proj

namespace Go.Proofs.YtjbhpfmnfdebkaaGreat
set_option linter.unusedVariables false
set_option linter.unusedSimpArgs false
open Go.RowKit Go.Proofs.YtjbhpfmnfdebkaaGreat.Eng Enc
namespace Dbm
theorem satO_lo {x y : Rat} {v : Int} : satO (x - y) (some v) ↔ LoQ (x - ((v / 2 : Int) : Rat), Bd.st v) y := by
  unfold satO LoQ
  simp only
  split <;> constructor <;> intro h <;> grind
theorem satO_hi {x y : Rat} {v : Int} : satO (y - x) (some v) ↔ HiQ (x + ((v / 2 : Int) : Rat), Bd.st v) y := by
  unfold satO HiQ
  simp only
  split <;> constructor <;> intro h <;> grind
theorem extend {N k : Nat} {C : List Int} (hc : Clo N C) (hk : k < N) {u : Nat → Rat} (h : ∀ i j, i < N → j < N → i ≠ k → j ≠ k → satO (u i - u j) (mx N C i j)) :
    ∃ s, Fits N (mx N C) (fun i => if i = k then s else u i) := by
  obtain ⟨s, h1, h2⟩ := room ((List.range N).filterMap fun i => if i = k then none else (mx N C i k).map fun v => (u i - ((v / 2 : Int) : Rat), Bd.st v))
    ((List.range N).filterMap fun i => if i = k then none else (mx N C k i).map fun v => (u i + ((v / 2 : Int) : Rat), Bd.st v)) (by
    intro a ha b hb
    obtain ⟨i, hi, ea⟩ := List.mem_filterMap.1 ha
    obtain ⟨j, hj, eb⟩ := List.mem_filterMap.1 hb
    have hi := List.mem_range.1 hi
    have hj := List.mem_range.1 hj
    by_cases ci : i = k
    · rw [if_pos ci] at ea; cases ea
    by_cases cj : j = k
    · rw [if_pos cj] at eb; cases eb
    rw [if_neg ci] at ea
    rw [if_neg cj] at eb
    have ht := satO_mono (hc.tri i j k hi hj hk) (h i j hi hj ci cj)
    cases hv : mx N C i k with
    | none => rw [hv] at ea; cases ea
    | some v =>
      cases hw : mx N C k j with
      | none => rw [hw] at eb; cases eb
      | some w =>
        rw [hv] at ea ht
        rw [hw] at eb ht
        injection ea with ea
        injection eb with eb
        subst ea eb
        simp only [oadd, satO] at ht
        rw [bsum_half, Rat.intCast_add] at ht
        simp only
        by_cases hs : Bd.st (bsum v w) = true
        · rw [if_pos hs] at ht
          rw [if_pos (by have := (Incl.st_bsum v w).1 hs; rw [Bool.or_eq_true]; exact this)]
          grind
        · rw [if_neg hs] at ht
          rw [if_neg (by rw [Bool.or_eq_true]; exact fun k => hs ((Incl.st_bsum v w).2 k))]
          grind)
  refine ⟨s, fun i j hi hj => ?_⟩
  simp only
  by_cases ci : i = k
  · by_cases cj : j = k
    · rw [if_pos ci, if_pos cj, Rat.sub_self]
      have : mx N C i j = some 1 := by rw [ci, cj]; unfold mx; rw [hc.diag k hk]; rfl
      rw [this]; exact satO_zero.2 (by omega)
    · rw [if_pos ci, if_neg cj]
      subst ci
      cases hv : mx N C i j with
      | none => trivial
      | some v => exact satO_hi.2 (h2 _ (List.mem_filterMap.2 ⟨j, List.mem_range.2 hj, by rw [if_neg cj, hv]; rfl⟩))
  · by_cases cj : j = k
    · rw [if_neg ci, if_pos cj]
      subst cj
      cases hv : mx N C i j with
      | none => trivial
      | some v => exact satO_lo.2 (h1 _ (List.mem_filterMap.2 ⟨i, List.mem_range.2 hi, by rw [if_neg ci, hv]; rfl⟩))
    · rw [if_neg ci, if_neg cj]; exact h i j hi hj ci cj
end Dbm
namespace Cmp
open Dbm Mi
def cl (c0 c1 c2 i : Nat) : Nat := if i = 0 then c0 else if i = 1 then c1 else c2
theorem pl_eq (c0 c1 c2 k : Nat) : pl c0 c1 c2 k = cl c0 c1 c2 (k / 3) * 4 + cl c0 c1 c2 (k % 3) := by unfold pl cl; omega
theorem cl_lt {c0 c1 c2 : Nat} (h0 : c0 < 4) (h1 : c1 < 4) (h2 : c2 < 4) (i : Nat) : cl c0 c1 c2 i < 4 := by unfold cl; split <;> (try split) <;> assumption
theorem put_all {c0 c1 c2 : Nat} (p : Int → Prop) (hm : ∀ x y, p x → p y → p (min x y)) {M L : List Int} (hM : ∀ q, q < M.length → p (M[q]?.getD 0)) (hL : ∀ q, q < L.length → p (L[q]?.getD 0)) (hc : ∀ k, pl c0 c1 c2 k < L.length) :
    ∀ k, k ≤ M.length → ∀ q, q < L.length → p ((put c0 c1 c2 M L k)[q]?.getD 0)
  | 0, _, q, hq => hL q hq
  | k + 1, hk, q, hq => by
    have ih := put_all p hm hM hL hc k (by omega)
    show p (((put c0 c1 c2 M L k).set (pl c0 c1 c2 k) _)[q]?.getD 0)
    rw [List.getElem?_set]
    by_cases e : pl c0 c1 c2 k = q
    · rw [if_pos e, if_pos (by rw [put_len]; exact e ▸ hc k)]
      exact hm _ _ (ih _ (hc k)) (hM k (by omega))
    · rw [if_neg e]; exact ih q hq
theorem put_fits {c0 c1 c2 : Nat} (h0 : c0 < 4) (h1 : c1 < 4) (h2 : c2 < 4) {M L : List Int} (hl : L.length = 16) (hM : ∀ q, q < M.length → M[q]?.getD 0 = NO ∨ M[q]?.getD 0 < NO) (hL : ∀ q, q < L.length → L[q]?.getD 0 = NO ∨ L[q]?.getD 0 < NO) (T : Nat → Rat) :
    ∀ k, k ≤ M.length → (Fits 4 (mx 4 (put c0 c1 c2 M L k)) T ↔ Fits 4 (mx 4 L) T ∧ ∀ q, q < k → satO (T (cl c0 c1 c2 (q / 3)) - T (cl c0 c1 c2 (q % 3))) (ob (M[q]?.getD 0)))
  | 0, _ => ⟨fun h => ⟨h, fun q hq => absurd hq (by omega)⟩, fun h => h.1⟩
  | k + 1, hk => by
    have ih := put_fits h0 h1 h2 hl hM hL T k (by omega)
    have hc : ∀ k, pl c0 c1 c2 k < L.length := fun k => by
      rw [pl_eq, hl]
      have := cl_lt h0 h1 h2 (k / 3)
      have := cl_lt h0 h1 h2 (k % 3)
      omega
    have hno := put_all (c0 := c0) (c1 := c1) (c2 := c2) (fun x => x = NO ∨ x < NO) (fun x y (hx : x = NO ∨ x < NO) (hy : y = NO ∨ y < NO) => (by omega : min x y = NO ∨ min x y < NO)) hM hL hc k (by omega)
    have a1 := cl_lt h0 h1 h2 (k / 3)
    have a2 := cl_lt h0 h1 h2 (k % 3)
    have hmin := satO_min (T (cl c0 c1 c2 (k / 3)) - T (cl c0 c1 c2 (k % 3))) _ _ (hno _ (hc k)) (hM k (by omega))
    have hg : ∀ i j, i < 4 → j < 4 → (put c0 c1 c2 M L (k + 1))[i * 4 + j]?.getD 0 = if i = cl c0 c1 c2 (k / 3) ∧ j = cl c0 c1 c2 (k % 3) then min ((put c0 c1 c2 M L k)[pl c0 c1 c2 k]?.getD 0) (M[k]?.getD 0) else (put c0 c1 c2 M L k)[i * 4 + j]?.getD 0 := fun i j hi hj => by
      show (((put c0 c1 c2 M L k).set (pl c0 c1 c2 k) _)[i * 4 + j]?.getD 0) = _
      rw [List.getElem?_set]
      by_cases e : i = cl c0 c1 c2 (k / 3) ∧ j = cl c0 c1 c2 (k % 3)
      · rw [if_pos e, if_pos (by rw [pl_eq, e.1, e.2]), if_pos (by rw [put_len]; exact hc k)]; rfl
      · rw [if_neg e, if_neg (by rw [pl_eq]; omega)]
    constructor
    · intro h
      have h1' := h _ _ a1 a2
      unfold mx at h1'
      rw [hg _ _ a1 a2, if_pos ⟨rfl, rfl⟩] at h1'
      have hb := hmin.1 h1'
      have hf : Fits 4 (mx 4 (put c0 c1 c2 M L k)) T := fun i j hi hj => by
        have h3 := h i j hi hj
        unfold mx at h3 ⊢
        rw [hg i j hi hj] at h3
        by_cases e : i = cl c0 c1 c2 (k / 3) ∧ j = cl c0 c1 c2 (k % 3)
        · obtain ⟨rfl, rfl⟩ := e
          rw [← pl_eq]; exact hb.1
        · rw [if_neg e] at h3; exact h3
      refine ⟨(ih.1 hf).1, fun q hq => ?_⟩
      by_cases e : q = k
      · subst e; exact hb.2
      · exact (ih.1 hf).2 q (by omega)
    · rintro ⟨h, hq⟩ i j hi hj
      have hf := ih.2 ⟨h, fun q hq' => hq q (by omega)⟩
      unfold mx
      rw [hg i j hi hj]
      by_cases e : i = cl c0 c1 c2 (k / 3) ∧ j = cl c0 c1 c2 (k % 3)
      · rw [if_pos e]
        obtain ⟨rfl, rfl⟩ := e
        refine hmin.2 ⟨?_, hq k (by omega)⟩
        have := hf _ _ hi hj
        unfold mx at this
        rwa [← pl_eq] at this
      · rw [if_neg e]; exact hf i j hi hj
def t3 (x y z : Rat) (i : Nat) : Rat := if i = 0 then x else if i = 1 then y else z
theorem fits3 {M : List Int} (c0 c1 c2 : Nat) (T : Nat → Rat) : (∀ q, q < 9 → satO (T (cl c0 c1 c2 (q / 3)) - T (cl c0 c1 c2 (q % 3))) (ob (M[q]?.getD 0))) ↔ Fits 3 (mx 3 M) (t3 (T c0) (T c1) (T c2)) := by
  have e : ∀ i, T (cl c0 c1 c2 i) = t3 (T c0) (T c1) (T c2) i := fun i => by unfold cl t3; split <;> (try split) <;> rfl
  constructor
  · intro h i j hi hj
    have := h (i * 3 + j) (by omega)
    rw [show (i * 3 + j) / 3 = i by omega, show (i * 3 + j) % 3 = j by omega, e, e] at this
    exact this
  · intro h q hq
    have := h (q / 3) (q % 3) (by omega) (by omega)
    unfold mx at this
    rw [show q / 3 * 3 + q % 3 = q by omega] at this
    rw [e, e]; exact this
theorem top_get : ∀ i, i < 4 → ∀ j, j < 4 → mx 4 (topL 4) i j = if i = j then some 1 else none := by decide
theorem top_fits (T : Nat → Rat) : Fits 4 (mx 4 (topL 4)) T := fun i j hi hj => by
  rw [top_get i hi j hj]
  by_cases e : i = j
  · rw [if_pos e, e, Rat.sub_self]; exact satO_zero.2 (by omega)
  · rw [if_neg e]; trivial
theorem top_may : ∀ q, q < (topL 4).length → mayC ((topL 4)[q]?.getD 0) = true := by decide
theorem top_no : ∀ q, q < (topL 4).length → (topL 4)[q]?.getD 0 = NO ∨ (topL 4)[q]?.getD 0 < NO := by decide
theorem z_may {z : Zn} (hz : Dbm.chk 3 (Zo.matL z) = 0) : ∀ q, q < (Zo.matL z).length → mayC ((Zo.matL z)[q]?.getD 0) = true := fun q hq => by
  obtain ⟨a1, a2, a3, a4⟩ := chk_iff.1 hz
  rw [List.any_eq_false] at a4
  have e1 := List.getElem?_eq_getElem hq
  have k1 := a4 _ (List.getElem_mem hq)
  rw [e1]
  simpa using k1
theorem z_no {z : Zn} (hz : Dbm.chk 3 (Zo.matL z) = 0) : ∀ q, q < (Zo.matL z).length → (Zo.matL z)[q]?.getD 0 = NO ∨ (Zo.matL z)[q]?.getD 0 < NO := fun q hq => lim_lt (chk_lim hz q hq) (by decide)
theorem mat_chk {a b : Zn} (ha : Zo.chk a = 0) (hb : Zo.chk b = 0) : Dbm.chk 4 (mat a b) = 0 := by
  have ca := (Zo.clo ha).1
  have cb := (Zo.clo hb).1
  have h1 := put_all (c0 := 0) (c1 := 1) (c2 := 2) (fun x => mayC x = true) (fun x y => Zo.mayC_min) (z_may ca) top_may (fun k => by rw [pl_eq]; have := cl_lt (c0 := 0) (c1 := 1) (c2 := 2) (by omega) (by omega) (by omega) (k / 3); have := cl_lt (c0 := 0) (c1 := 1) (c2 := 2) (by omega) (by omega) (by omega) (k % 3); show _ < 16; omega) 9 (Nat.le_refl _)
  have l1 : (put 0 1 2 (Zo.matL a) (topL 4) 9).length = 16 := by rw [put_len]; rfl
  have h2 := put_all (c0 := 0) (c1 := 2) (c2 := 3) (L := put 0 1 2 (Zo.matL a) (topL 4) 9) (fun x => mayC x = true) (fun x y => Zo.mayC_min) (z_may cb) (fun q hq => h1 q (by rw [l1] at hq; exact hq)) (fun k => by rw [pl_eq, l1]; have := cl_lt (c0 := 0) (c1 := 2) (c2 := 3) (by omega) (by omega) (by omega) (k / 3); have := cl_lt (c0 := 0) (c1 := 2) (c2 := 3) (by omega) (by omega) (by omega) (k % 3); omega) 9 (Nat.le_refl _)
  refine chk_iff.2 ⟨by decide, by decide, by rw [mat_len]; rfl, ?_⟩
  rw [List.any_eq_false]
  intro x hx
  obtain ⟨q, hq, rfl⟩ := List.getElem_of_mem hx
  have hq' : q < (put 0 1 2 (Zo.matL a) (topL 4) 9).length := by rw [l1]; rw [mat_len] at hq; exact hq
  have := h2 q hq'
  change mayC ((mat a b)[q]?.getD 0) = true at this
  rw [List.getElem?_eq_getElem hq] at this
  simp only [Option.getD_some] at this
  simp [this]
theorem mat_fits {a b : Zn} (ha : Zo.chk a = 0) (hb : Zo.chk b = 0) (T : Nat → Rat) : Fits 4 (mx 4 (mat a b)) T ↔ Fz a (t3 (T 0) (T 1) (T 2)) ∧ Fz b (t3 (T 0) (T 2) (T 3)) := by
  have ca := (Zo.clo ha).1
  have cb := (Zo.clo hb).1
  have l1 : (put 0 1 2 (Zo.matL a) (topL 4) 9).length = 16 := by rw [put_len]; rfl
  have hno := put_all (c0 := 0) (c1 := 1) (c2 := 2) (fun x => x = NO ∨ x < NO) (fun x y (hx : x = NO ∨ x < NO) (hy : y = NO ∨ y < NO) => (by omega : min x y = NO ∨ min x y < NO)) (z_no ca) top_no (fun k => by rw [pl_eq]; have := cl_lt (c0 := 0) (c1 := 1) (c2 := 2) (by omega) (by omega) (by omega) (k / 3); have := cl_lt (c0 := 0) (c1 := 1) (c2 := 2) (by omega) (by omega) (by omega) (k % 3); show _ < 16; omega) 9 (Nat.le_refl _)
  have f2 := put_fits (c0 := 0) (c1 := 2) (c2 := 3) (by omega) (by omega) (by omega) l1 (z_no cb) (fun q hq => hno q (by rw [l1] at hq; exact hq)) T 9 (Nat.le_refl _)
  have f1 := put_fits (c0 := 0) (c1 := 1) (c2 := 2) (L := topL 4) (by omega) (by omega) (by omega) rfl (z_no ca) top_no T 9 (Nat.le_refl _)
  rw [fits3] at f1 f2
  show Fits 4 (mx 4 (put 0 2 3 (Zo.matL b) (put 0 1 2 (Zo.matL a) (topL 4) 9) 9)) T ↔ _
  rw [f2, f1]
  exact ⟨fun h => ⟨h.1.2, h.2⟩, fun h => ⟨⟨top_fits T, h.1⟩, h.2⟩⟩
def Thru (P Q : (Nat → Rat) → Prop) (t : Nat → Rat) : Prop := ∃ s, P (t3 (t 0) (t 1) s) ∧ Q (t3 (t 0) s (t 2))
theorem drop_fits {a b : Zn} (ha : Zo.chk a = 0) (hb : Zo.chk b = 0) :
    ((Proj.drop 4 (mat a b) 2).2.2 = 0 → ∀ t, Fits 3 (mx 3 (Proj.drop 4 (mat a b) 2).2.1) t ↔ Thru (Fz a) (Fz b) t) ∧
    ((Proj.drop 4 (mat a b) 2).2.2 = 6 → ∀ t, ¬ Thru (Fz a) (Fz b) t) := by
  have h0 := mat_chk ha hb
  have hT : ∀ (t : Nat → Rat) s, Fits 4 (mx 4 (mat a b)) (fun i => if i = 0 then t 0 else if i = 1 then t 1 else if i = 2 then s else t 2) ↔ Fz a (t3 (t 0) (t 1) s) ∧ Fz b (t3 (t 0) s (t 2)) := fun t s => mat_fits ha hb _
  generalize mat a b = L at h0 hT ⊢
  constructor
  · intro h t
    obtain ⟨_, _, _, C, hC, e⟩ := Proj.drop_ok h
    rw [e]
    have hC : closeL 4 L = some C := hC
    have hclo : Clo 4 C := close_clo (N := 4) h0 hC
    have hf := fun T => close_fits (N := 4) h0 hC T
    have hg : ∀ i j, i < 3 → j < 3 → mx 3 (Proj.dropL 4 2 C) i j = mx 4 C (Proj.sk 2 i) (Proj.sk 2 j) := fun i j hi hj => by unfold mx; rw [Proj.dropL_get (N := 4) C hi hj]
    show Fits 3 (mx 3 (Proj.dropL 4 2 C)) t ↔ _
    constructor
    · intro ht
      obtain ⟨s, hs⟩ := extend hclo (k := 2) (by omega) (u := fun i => if i = 3 then t 2 else t i) (fun i j hi hj h1 h2 => by
        have k := ht (if i = 3 then 2 else i) (if j = 3 then 2 else j) (by split <;> omega) (by split <;> omega)
        rw [hg _ _ (by split <;> omega) (by split <;> omega)] at k
        have ei : Proj.sk 2 (if i = 3 then 2 else i) = i := by unfold Proj.sk; repeat' split
                                                               all_goals omega
        have ej : Proj.sk 2 (if j = 3 then 2 else j) = j := by unfold Proj.sk; repeat' split
                                                               all_goals omega
        rw [ei, ej] at k
        show satO ((if i = 3 then t 2 else t i) - (if j = 3 then t 2 else t j)) (mx 4 C i j)
        have q : ∀ i, t (if i = 3 then 2 else i) = if i = 3 then t 2 else t i := fun i => by split <;> rfl
        rw [← q, ← q]; exact k)
      refine ⟨s, (hT t s).1 ((hf _).1 fun i j hi hj => ?_)⟩
      have k : satO ((if i = 2 then s else if i = 3 then t 2 else t i) - (if j = 2 then s else if j = 3 then t 2 else t j)) (mx 4 C i j) := hs i j hi hj
      have q : ∀ i, i < 4 → (if i = 0 then t 0 else if i = 1 then t 1 else if i = 2 then s else t 2) = if i = 2 then s else if i = 3 then t 2 else t i := fun i hi => by
        have : i = 0 ∨ i = 1 ∨ i = 2 ∨ i = 3 := by omega
        rcases this with rfl | rfl | rfl | rfl <;> rfl
      show satO ((if i = 0 then t 0 else if i = 1 then t 1 else if i = 2 then s else t 2) - (if j = 0 then t 0 else if j = 1 then t 1 else if j = 2 then s else t 2)) (mx 4 C i j)
      rw [q i hi, q j hj]; exact k
    · rintro ⟨s, hs⟩ i j hi hj
      have k := (hf _).2 ((hT t s).2 hs) (Proj.sk 2 i) (Proj.sk 2 j) (Proj.sk_lt (N := 4) hi) (Proj.sk_lt (N := 4) hj)
      rw [hg i j hi hj]
      have q : ∀ i, i < 3 → (if Proj.sk 2 i = 0 then t 0 else if Proj.sk 2 i = 1 then t 1 else if Proj.sk 2 i = 2 then s else t 2) = t i := fun i hi => by
        have : i = 0 ∨ i = 1 ∨ i = 2 := by omega
        rcases this with rfl | rfl | rfl <;> rfl
      change satO ((if Proj.sk 2 i = 0 then t 0 else if Proj.sk 2 i = 1 then t 1 else if Proj.sk 2 i = 2 then s else t 2) - (if Proj.sk 2 j = 0 then t 0 else if Proj.sk 2 j = 1 then t 1 else if Proj.sk 2 j = 2 then s else t 2)) (mx 4 C (Proj.sk 2 i) (Proj.sk 2 j)) at k
      rw [q i hi, q j hj] at k; exact k
  · rintro h t ⟨s, hs⟩
    obtain ⟨C, hC⟩ := close_some (N := 4) h0 ((hT t s).2 hs)
    unfold Proj.drop at h
    rw [if_pos h0, if_neg (by omega)] at h
    change (match closeL 4 L with | some c => ((4 : Int) - 1, Proj.dropL 4 2 c, (0 : Int)) | none => (0, [], 6)).2.2 = 6 at h
    rw [hC] at h
    cases h
theorem comp_ok {a b : Zn} (ha : Zo.chk a = 0) (hb : Zo.chk b = 0) :
    ((comp a b).2 = 0 → Zo.chk (comp a b).1 = 0 ∧ ∀ t, Fz (comp a b).1 t ↔ Thru (Fz a) (Fz b) t) ∧ ((comp a b).2 = 6 → ∀ t, ¬ Thru (Fz a) (Fz b) t) := by
  obtain ⟨d1, d2⟩ := drop_fits ha hb
  unfold comp
  rw [if_pos ⟨ha, hb⟩]
  generalize mat a b = L at d1 d2 ⊢
  by_cases he : (Proj.drop 4 L 2).2.2 = 0
  · rw [if_pos he]
    obtain ⟨_, _, _, C, hC, e⟩ := Proj.drop_ok he
    have e3 : (Proj.drop 4 L 2).1 = 3 := by rw [e]; rfl
    rw [e3]
    exact ⟨fun h => ⟨(of_ok h).1, fun t => ((of_ok h).2 t).trans (d1 he t)⟩, fun h t ht => of_none h t ((d1 he t).2 ht)⟩
  · rw [if_neg he]
    exact ⟨fun h => absurd h he, fun h => d2 h⟩
end Cmp
namespace Zs
open Mi Dbm Cmp
theorem comp_pts {l m : List Zn} (h : (comp l m).2 = 0) : Fine (comp l m).1 ∧ ∀ t, Pts (comp l m).1 t ↔ Thru (Pts l) (Pts m) t := by
  obtain ⟨h0, h2, h3, h4⟩ := paired_ok h
  obtain ⟨c1, c2⟩ := checked2 h0
  refine ⟨h2, fun t => (h4 t).trans ?_⟩
  constructor
  · rintro ⟨x, y, hx, hy, he, hf⟩
    obtain ⟨s, h5, h6⟩ := (((comp_ok (c1 x hx) (c2 y hy)).1 he).2 t).1 hf
    exact ⟨s, ⟨x, hx, h5⟩, ⟨y, hy, h6⟩⟩
  · rintro ⟨s, ⟨x, hx, h5⟩, ⟨y, hy, h6⟩⟩
    rcases h3 x y hx hy with he | he
    · exact ⟨x, y, hx, hy, he, (((comp_ok (c1 x hx) (c2 y hy)).1 he).2 t).2 ⟨s, h5, h6⟩⟩
    · exact absurd ⟨s, h5, h6⟩ ((comp_ok (c1 x hx) (c2 y hy)).2 he t)
end Zs
end Go.Proofs.YtjbhpfmnfdebkaaGreat

namespace Go.Proofs.YtjbhpfmnfdebkaaGreat
set_option linter.unusedVariables false
set_option linter.unusedSimpArgs false
set_option maxRecDepth 100000
open Go.RowKit Go.Proofs.YtjbhpfmnfdebkaaGreat.Eng Enc

instance encBool : Enc Bool := ⟨fun x => [.bool x], 1, fun _ => rfl, by decide, fun _ v hv => by rw [List.mem_singleton.1 hv]; rfl, fun x => .bool x⟩
abbrev TBo : TypeId := 4
theorem elIn : ElOk Tryz.prog 41 TKi 1 8 := elOk (z := .int .i64 0) Tryz.underlying41 (by kernel_rfl) rfl (by decide)
theorem cellsBool (l : List Bool) : cellsL l = l.map Value.bool := by
  induction l with
  | nil => rfl
  | cons x l ih => simp only [cellsL, ih, List.map_cons]; rfl
def BRow (W : World) (g : Nat) (l : List Bool) : Prop := ∃ cur : Array Value, W.heap[g]? = some (.cells cur TBo (0, 0)) ∧ ∀ (k : Nat) (x : Bool), l[k]? = some x → cur[k]? = some (.bool x)
theorem BRow.lt {W : World} {g : Nat} {l : List Bool} (h : BRow W g l) : g < W.heap.size := by
  obtain ⟨cur, c, _⟩ := h
  exact (Array.getElem?_eq_some_iff.1 c).1
theorem BRow.kept {W X : World} {g : Nat} {l : List Bool} (h : BRow W g l) (e : X.heap[g]? = W.heap[g]?) : BRow X g l := by
  obtain ⟨cur, c, d⟩ := h
  exact ⟨cur, e.trans c, d⟩
theorem BRow.below {W X : World} {g : Nat} {l : List Bool} (h : BRow W g l) (hB : Below W.heap.size W X) : BRow X g l := h.kept (hB.block _ h.lt)
theorem BRow.at {w0 : Base} {hp : List LB} {r L : List Nat} {w w1 : World} {g : Nat} {l : List Bool} (h : BRow w g l) (h1 : At w0 hp r L w w1) (hL : g ∉ L) : BRow w1 g l := h.kept (h1.step g h.lt hL)
theorem BRow.cell {W : World} {g : Nat} {l : List Bool} (h : BRow W g l) {k : Nat} {x : Bool} (hk : l[k]? = some x) : W.cell? ⟨g, k, none⟩ = some (.bool x) := by
  obtain ⟨cur, c, d⟩ := h
  simp [World.cell?, c, d k x hk]
theorem BRow.frozen {W : World} {g : Nat} {l : List Bool} (h : BRow W g l) (j : Nat) : W.frozen? ⟨g, j, none⟩ = false := by
  obtain ⟨cur, c, _⟩ := h
  simp [World.frozen?, c]
theorem BRow.set {W : World} {g : Nat} {l : List Bool} (h : BRow W g l) {k : Nat} (hk : k < l.length) (x : Bool) : BRow (W.setCell ⟨g, k, none⟩ (.bool x)) g (l.set k x) := by
  obtain ⟨cur, c, d⟩ := h
  have hks : k < cur.size := by
    have := d k _ (List.getElem?_eq_getElem hk)
    exact (Array.getElem?_eq_some_iff.1 this).1
  refine ⟨cur.setIfInBounds k (.bool x), ?_, fun i y hi => ?_⟩
  · simp only [World.setCell]
    rw [Array.getElem?_modify, if_pos rfl, c]
    rfl
  · by_cases hik : i = k
    · subst hik
      rw [List.getElem?_set_self hk] at hi
      injection hi with hi; subst hi
      simp [hks]
    · rw [List.getElem?_set_ne (fun h => hik h.symm)] at hi
      rw [Array.getElem?_setIfInBounds_ne (fun h => hik h.symm)]
      exact d i y hi
theorem BRow.other {W : World} {g q j : Nat} {l : List Bool} {v : Value} (h : BRow W g l) (hne : g ≠ q) : BRow (W.setCell ⟨q, j, none⟩ v) g l := h.kept (setCell_neM hne)
theorem BRow.of {base : Nat} {W : World} {a : Option Addr} {c : Nat} {l : List Bool} (h : Own TBo base W (.slice a l.length c) l) (hn : 0 < l.length) : ∃ g, a = some ⟨g, 0, none⟩ ∧ base ≤ g ∧ l.length ≤ c ∧ c ≤ maxLen ∧ BRow W g l := by
  obtain ⟨hl, ⟨e, h0⟩ | ⟨g, cap, cur, e1, e2, e3, e4, e5, e6, e7⟩⟩ := h
  · omega
  · injection e1 with e1 e1' e1''
    subst e1''
    refine ⟨g, e1, e2, e4, e5, cur, e3, fun k x hk => ?_⟩
    rw [cellsBool] at e7
    have e7' : cur.toList.take l.length = l.map Value.bool := by simpa [Enc.size] using e7
    have h1 : (cur.toList.take l.length)[k]? = some (.bool x) := by rw [e7', List.getElem?_map, hk]; rfl
    rw [List.getElem?_take] at h1
    split at h1
    · rw [← h1, Array.getElem?_toList]
    · cases h1
theorem BRow.sl {W : World} {g c : Nat} {l : List Bool} (h : BRow W g l) (h1 : l.length ≤ c) (h2 : c ≤ maxLen) : Sl W.heap.size W (.slice (some ⟨g, 0, none⟩) l.length c) l := by
  refine ⟨_, _, rfl, h1, h2, (fun e => nomatch e), fun k x hk => ⟨g, 0, rfl, h.lt, fun i c hi => ?_⟩⟩
  have hc := h.cell hk
  match i, hi with
  | 0, hi =>
    injection hi with hi; subst hi
    rw [show 0 + (k * size Bool + 0) = k by show 0 + (k * 1 + 0) = k; omega]
    exact hc
end Go.Proofs.YtjbhpfmnfdebkaaGreat

namespace Go.Proofs.YtjbhpfmnfdebkaaGreat
set_option linter.unusedVariables false
set_option linter.unusedSimpArgs false
set_option maxRecDepth 100000
open Go.RowKit Go.Proofs.YtjbhpfmnfdebkaaGreat.Eng Enc

theorem rsame14_any (l m : List Int) (a : Option Addr) (cap : Nat) (b : Option Addr) (cb : Nat) (w : World) (hS : Sl w.heap.size w (.slice a l.length cap) l) (hT : Sl w.heap.size w (.slice b m.length cb) m) :
    Calls Tryz.prog 40 #[.slice a l.length cap, .slice b m.length cb] w fun e w' => e = .returned (.bool (decide (l = m))) ∧ Below w.heap.size w w' := by
  refine fun_eq 0 w Tryz.func40 (args := [.val (.slice a l.length cap), .val (.slice b m.length cb)]) rfl rfl ?_
  obtain ⟨_, _, hfe, hcap1, hcap2, _⟩ := hS.form
  injection hfe with _ _ hfe
  subst hfe
  unfold maxLen at hcap2
  refine Branch.mk (fun hc => ?_) (fun hc => ?_)
  · have hne : l.length ≠ m.length := by have := of_decide_eq_true hc; omega
    refine EndI.mk fun w9 h9 => ?_
    rw [decide_eq_false (fun e => hne (by rw [e]))]
  have hlm : l.length = m.length := by have := of_decide_eq_false hc; omega
  refine LoopI.invC (α := Nat × World) (fun y => [(5, .val (.int .i64 y.1))]) (fun y => y.2) (fun y => y.1 ≤ l.length ∧ Below w.heap.size w y.2 ∧ l.take y.1 = m.take y.1) (fun y => l.length - y.1) ?_ ?_
  · intro w1 h1
    exact ⟨(0, w1), Cov.mk (by repeat' (first | exact trivial | refine And.intro rfl ?_)) rfl rfl rfl rfl rfl, rfl, Nat.zero_le _, h1.below, rfl⟩
  rintro ⟨k, V⟩ ⟨hk, hV, hall⟩
  simp only at hk hV hall
  refine Branch.mk (fun hc2 => ?_) (fun hc2 => ?_)
  · have hlt : k < l.length := by have := of_decide_eq_true hc2; simp only at this; omega
    have hx := List.getElem?_eq_getElem (l := l) (i := k) hlt
    have hy := List.getElem?_eq_getElem (l := m) (i := k) (by omega)
    generalize l[k] = x at hx
    generalize m[k]'(by omega) = y at hy
    refine DrawI.go (.tk 0 (.tk 1 (.tk 2 (.tk 3 (.tk 4 (.tk 5 (.tk 6 (.tk 7 (.tk 8 .done))))))))) (by kernel_rfl) fun w4 h4 => ?_
    have hg4 : Below V.heap.size V w4 := h4.go
    have hw4 := hV.trans (hg4.mono hV.size)
    have hS4 := hS.go hw4 hw4.size
    have hT4 := hT.go hw4 hw4.size
    refine hS4.idx hx fun ad had => ?_
    refine hS4.ld1 hx had (Below.refl _ _) (by simp) ?_
    refine hT4.idx hy fun ad2 had2 => ?_
    refine hT4.ld1 hy had2 (Below.refl _ _) (by simp) ?_
    refine Branch.mk (fun hc3 => ?_) (fun hc3 => ?_)
    · have hne : x ≠ y := by simpa using hc3
      refine EndI.mk fun w9 h9 => ?_
      rw [decide_eq_false (fun e => hne (by rw [e, hy] at hx; injection hx with hx; exact hx.symm))]
    · have he : x = y := by simpa using hc3
      refine Need.mk (by simp only [inK]; omega) (EndI.mk fun w9 h9 => ⟨(k + 1, w9), Cov.mk (by repeat' (first | exact trivial | refine And.intro rfl ?_)) rfl rfl rfl rfl rfl, rfl, ⟨hlt, h9.below, ?_⟩, by simp only; omega⟩)
      simp only
      rw [List.take_add_one, List.take_add_one, hall, hx, hy, he]
  · have hge : k = l.length := by have := of_decide_eq_false hc2; simp only at this; omega
    subst hge
    rw [List.take_length, hlm, List.take_length] at hall
    refine EndI.mk fun w9 h9 => ?_
    rw [decide_eq_true hall]
namespace Rg
end Rg
end Go.Proofs.YtjbhpfmnfdebkaaGreat

namespace Go.Proofs.YtjbhpfmnfdebkaaGreat
set_option linter.unusedVariables false
set_option linter.unusedSimpArgs false
set_option maxRecDepth 100000
open Go.RowKit Go.Proofs.YtjbhpfmnfdebkaaGreat.Eng Enc

namespace Rg
end Rg
def BOwn (base : Nat) (W : World) (v : Value) (s : List Bool) : Prop := ∃ g c, v = .slice (some ⟨g, 0, none⟩) s.length c ∧ s.length ≤ c ∧ c ≤ maxLen ∧ base ≤ g ∧ BRow W g s
theorem BOwn.sl {base : Nat} {W : World} {v : Value} {s : List Bool} (h : BOwn base W v s) : Sl W.heap.size W v s := by
  obtain ⟨g, c, rfl, h1, h2, h3, h4⟩ := h
  exact h4.sl h1 h2
end Go.Proofs.YtjbhpfmnfdebkaaGreat

namespace Go.Proofs.YtjbhpfmnfdebkaaGreat
set_option linter.unusedVariables false
set_option linter.unusedSimpArgs false
set_option maxRecDepth 100000
open Go.RowKit Go.Proofs.YtjbhpfmnfdebkaaGreat.Eng Enc

namespace Fr
def made (W p d : Int) : Rt × Bool :=
  if 1048576 < d ∨ 2305843009213693952 < W ∨ W < -2305843009213693952 then (⟨0, 0⟩, false)
  else if inI (W * d + p) = true then (⟨W * d + p, d⟩, okB (W * d + p) d) else (⟨0, 0⟩, false)
end Fr
namespace Fr
end Fr
end Go.Proofs.YtjbhpfmnfdebkaaGreat

namespace Go.Proofs.YtjbhpfmnfdebkaaGreat
set_option linter.unusedVariables false
set_option linter.unusedSimpArgs false
set_option maxRecDepth 100000
open Go.RowKit Go.Proofs.YtjbhpfmnfdebkaaGreat.Eng Enc

namespace Rg
def six (n : Nat) : Rt := ⟨(n : Int).tdiv (Int.gcd ((n : Int) % 6) 6 : Nat), (6 : Int).tdiv (Int.gcd ((n : Int) % 6) 6 : Nat)⟩
theorem six_all : ((List.range 97).all fun n : Nat => decide (Fr.of (n : Int) 6 = (six n, 0)) && (six n).ok && decide (1 ≤ Int.gcd ((n : Int) % 6) 6) && decide (Int.gcd ((n : Int) % 6) 6 ≤ 6)) = true := by decide +kernel
theorem six_at {n : Nat} (hn : n < 97) : Fr.of (n : Int) 6 = (six n, 0) ∧ (six n).ok = true ∧ 1 ≤ Int.gcd ((n : Int) % 6) 6 ∧ Int.gcd ((n : Int) % 6) 6 ≤ 6 := by
  have := List.all_eq_true.1 six_all n (List.mem_range.2 hn)
  simp only [Bool.and_eq_true, decide_eq_true_eq] at this
  exact ⟨this.1.1.1, this.1.1.2, this.1.2, this.2⟩
theorem six_ins {n : Nat} (hn : n < 97) : (six n).ins := by
  obtain ⟨h1, h2, h3, h4⟩ := six_at hn
  have e6 : (6 : Int).tdiv (Int.gcd ((n : Int) % 6) 6 : Nat) = 6 / (Int.gcd ((n : Int) % 6) 6 : Nat) := Int.tdiv_eq_ediv_of_nonneg (by omega)
  have en : (n : Int).tdiv (Int.gcd ((n : Int) % 6) 6 : Nat) = n / (Int.gcd ((n : Int) % 6) 6 : Nat) := Int.tdiv_eq_ediv_of_nonneg (by omega)
  have b6 : 0 ≤ (6 : Int) / (Int.gcd ((n : Int) % 6) 6 : Nat) ∧ (6 : Int) / (Int.gcd ((n : Int) % 6) 6 : Nat) ≤ 6 := ⟨Int.ediv_nonneg (by omega) (by omega), Int.ediv_le_self _ (by omega)⟩
  have bn : 0 ≤ (n : Int) / (Int.gcd ((n : Int) % 6) 6 : Nat) ∧ (n : Int) / (Int.gcd ((n : Int) % 6) 6 : Nat) ≤ n := ⟨Int.ediv_nonneg (by omega) (by omega), Int.ediv_le_self _ (by omega)⟩
  unfold six
  exact ⟨by rw [en]; simp only [inK]; omega, by rw [e6]; simp only [inK]; omega⟩
end Rg
end Go.Proofs.YtjbhpfmnfdebkaaGreat

namespace Go.Proofs.YtjbhpfmnfdebkaaGreat
set_option linter.unusedVariables false
set_option linter.unusedSimpArgs false
set_option maxRecDepth 100000
open Go.RowKit Go.Proofs.YtjbhpfmnfdebkaaGreat.Eng Enc

namespace Rg
end Rg
namespace Rg
def done (f : Int → Bool) (M k : Nat) : List Bool := (List.range M).map fun n : Nat => decide (n < k) && f n
end Rg
theorem Rg.pt_fine {n long : Int} (hl : 1 ≤ long ∧ long ≤ 16) (hn : 0 ≤ n ∧ n < 3 * (2 * long + 1) * (2 * long + 1)) : (Rg.pt n long).ins ∧ (Rg.pt n long).t.ok = true ∧ (Rg.pt n long).u.ok = true := by
  have hs : Rg.sides long = 2 * long + 1 := rfl
  have ht : 0 ≤ n / 3 / Rg.sides long ∧ n / 3 / Rg.sides long ≤ 1000 := by
    have h1 : 0 ≤ n / 3 / Rg.sides long := Int.ediv_nonneg (by omega) (by omega)
    have h2 : n / 3 / Rg.sides long < Rg.sides long := by
      refine Int.ediv_lt_of_lt_mul (by omega) ?_
      have : n < 3 * (Rg.sides long * Rg.sides long) := by rw [← Int.mul_assoc]; exact hn.2
      omega
    omega
  have hu : 0 ≤ n / 3 % Rg.sides long ∧ n / 3 % Rg.sides long ≤ 1000 := by
    have h1 := Int.emod_nonneg (n / 3) (b := Rg.sides long) (by omega)
    have h2 := Int.emod_lt_of_pos (n / 3) (b := Rg.sides long) (by omega)
    omega
  have h3 := Rg.parts_three (r := n % 3) (by omega)
  have hp : (0 ≤ (Rg.parts (n % 3)).1 ∧ (Rg.parts (n % 3)).1 ≤ 10) ∧ (0 ≤ (Rg.parts (n % 3)).2.1 ∧ (Rg.parts (n % 3)).2.1 ≤ 10) ∧ (1 ≤ (Rg.parts (n % 3)).2.2 ∧ (Rg.parts (n % 3)).2.2 ≤ 10) := by
    rcases (by omega : n % 3 = 0 ∨ n % 3 = 1 ∨ n % 3 = 2) with h | h | h <;> rw [h] <;> simp [Rg.parts]
  exact ⟨⟨Rg.time_ins ht hp.1 hp.2.2, Rg.time_ins hu hp.2.1 hp.2.2⟩, (Rg.time_doc ht h3.1).2, (Rg.time_doc hu h3.2).2⟩
end Go.Proofs.YtjbhpfmnfdebkaaGreat

namespace Go.Proofs.YtjbhpfmnfdebkaaGreat
set_option linter.unusedVariables false
set_option linter.unusedSimpArgs false
set_option maxRecDepth 100000
open Go.RowKit Go.Proofs.YtjbhpfmnfdebkaaGreat.Eng Enc

namespace Rg
def mayAt (l : List Int) (long : Int) (k : Nat) : Bool := decide ((askPoint (l[k]?.getD 0) long).2 = 0) && (decide (k = 0) || decide (l[k - 1]?.getD 0 < l[k]?.getD 0))
def mayTo (l : List Int) (long : Int) (k : Nat) : Bool := (List.range k).all fun n => mayAt l long n
def mayL (l : List Int) (long : Int) : Bool := mayTo l long l.length
theorem mayTo_step (l : List Int) (long : Int) (k : Nat) : mayTo l long (k + 1) = (mayTo l long k && mayAt l long k) := by
  unfold mayTo
  rw [List.range_succ, List.all_append]
  simp
theorem mayTo_no {l : List Int} {long : Int} {k m : Nat} (h : mayAt l long k = false) (hk : k < m) : mayTo l long m = false := by
  cases he : mayTo l long m with
  | false => rfl
  | true => exact absurd (List.all_eq_true.1 he k (List.mem_range.2 hk)) (by rw [h]; decide)
theorem mayTo_at {l : List Int} {long : Int} {k m : Nat} (h : mayTo l long m = true) (hk : k < m) : mayAt l long k = true := List.all_eq_true.1 h k (List.mem_range.2 hk)
theorem mayTo_in {l : List Int} {long : Int} {m : Nat} (h : mayTo l long m = true) {x : Int} (hx : x ∈ l.take m) : (askPoint x long).2 = 0 := by
  obtain ⟨k, hk⟩ := List.getElem?_of_mem hx
  rw [List.getElem?_take] at hk
  split at hk
  · rename_i hkm
    have := mayTo_at h hkm
    unfold mayAt at this
    rw [hk] at this
    simp only [Option.getD_some, Bool.and_eq_true, decide_eq_true_eq] at this
    exact this.1
  · cases hk
end Rg
end Go.Proofs.YtjbhpfmnfdebkaaGreat

namespace Go.Proofs.YtjbhpfmnfdebkaaGreat
set_option linter.unusedVariables false
set_option linter.unusedSimpArgs false
open Go.RowKit Go.Proofs.YtjbhpfmnfdebkaaGreat.Eng Enc
namespace Wn
open Mi Dbm
theorem less_get (z : Zn) {i j : Nat} (hi : i < 6) (hj : j < 6) (x : Int) : Zo.get (less z i x) j = if j = i then min (Zo.get z i) x else Zo.get z j := get_set z hi hj _
theorem less2_fz {z : Zn} (hz : Zo.chk z = 0) {i j : Nat} (hi : i < 6) (hj : j < 6) (hij : i ≠ j) {x y : Int} (hx : x = NO ∨ x < NO) (hy : y = NO ∨ y < NO) (t : Nat → Rat) :
    Fz (less (less z i x) j y) t ↔ Fz z t ∧ satO (dif i t) (ob x) ∧ satO (dif j t) (ob y) := by
  have hc := (Zo.clo hz).1
  rw [fz_iff, fz_iff]
  have g : ∀ k, k < 6 → Zo.get (less (less z i x) j y) k = if k = j then min (Zo.get z j) y else if k = i then min (Zo.get z i) x else Zo.get z k := fun k hk => by
    rw [less_get _ hj hk]
    by_cases h : k = j
    · rw [if_pos h, if_pos h, less_get _ hi hj, if_neg (fun e => hij e.symm)]
    · rw [if_neg h, if_neg h, less_get _ hi hk]
  have hm := fun (k : Nat) (hk : k < 6) (b : Int) hb => satO_min (dif k t) (Zo.get z k) b (lim_lt (get_lim hc hk) (by omega)) hb
  constructor
  · intro h
    have h1 := h i hi
    have h2 := h j hj
    rw [g i hi, if_neg hij, if_pos rfl] at h1
    rw [g j hj, if_pos rfl] at h2
    refine ⟨fun k hk => ?_, ((hm i hi x hx).1 h1).2, ((hm j hj y hy).1 h2).2⟩
    have h3 := h k hk
    rw [g k hk] at h3
    by_cases e1 : k = j
    · subst e1; exact ((hm k hk y hy).1 h2).1
    · rw [if_neg e1] at h3
      by_cases e2 : k = i
      · subst e2; exact ((hm k hk x hx).1 h1).1
      · rw [if_neg e2] at h3; exact h3
  · rintro ⟨h, h1, h2⟩ k hk
    rw [g k hk]
    by_cases e1 : k = j
    · subst e1; rw [if_pos rfl]; exact (hm k hk y hy).2 ⟨h k hk, h2⟩
    · rw [if_neg e1]
      by_cases e2 : k = i
      · subst e2; rw [if_pos rfl]; exact (hm k hk x hx).2 ⟨h k hk, h1⟩
      · rw [if_neg e2]; exact h k hk
theorem with2_ok {z : Zn} (hz : Zo.chk z = 0) {i j : Nat} (hi : i < 6) (hj : j < 6) (hij : i ≠ j) {x y : Int} (hx : x = NO ∨ x < NO) (hy : y = NO ∨ y < NO) :
    ((with2 z i x j y).2 = 0 → Zo.chk (with2 z i x j y).1 = 0 ∧ ∀ t, Fz (with2 z i x j y).1 t ↔ Fz z t ∧ satO (dif i t) (ob x) ∧ satO (dif j t) (ob y)) ∧
    ((with2 z i x j y).2 = 6 → ∀ t, ¬ (Fz z t ∧ satO (dif i t) (ob x) ∧ satO (dif j t) (ob y))) := by
  have hp := less2_fz hz hi hj hij hx hy
  unfold with2
  generalize less (less z i x) j y = q at hp ⊢
  unfold Zo.mat
  by_cases hq : Dbm.chk 3 (Zo.matL q) = 0
  · rw [if_pos hq]
    show ((if (0 : Int) = 0 then Zo.of 3 (Zo.matL q) else _).2 = 0 → _) ∧ ((if (0 : Int) = 0 then Zo.of 3 (Zo.matL q) else _).2 = 6 → _)
    rw [if_pos rfl]
    constructor
    · intro h
      obtain ⟨h1, h2⟩ := of_ok h
      exact ⟨h1, fun t => (h2 t).trans (hp t)⟩
    · intro h t ht
      exact of_none h t ((hp t).2 ht)
  · rw [if_neg hq]
    show ((if (8 : Int) = 0 then Zo.of 0 [] else (Zo.nought, 8)).2 = 0 → _) ∧ ((if (8 : Int) = 0 then Zo.of 0 [] else (Zo.nought, 8)).2 = 6 → _)
    rw [if_neg (by decide)]
    exact ⟨fun h => absurd h (by decide), fun h => absurd h (by decide)⟩
def InW (lo hi : Int) (t : Nat → Rat) : Prop := (lo : Rat) < t 2 - t 0 ∧ t 2 - t 0 ≤ (hi : Rat)
theorem fits_iff {n : Int} : fits n = true ↔ -288230376151711744 ≤ n ∧ n ≤ 288230376151711744 := by simp [fits]
theorem window_ok {z : Zn} {lo hi : Int} (hz : Zo.chk z = 0) :
    ((window z lo hi).2 = 0 → (fits lo = true ∧ fits hi = true ∧ lo < hi) ∧ Zo.chk (window z lo hi).1 = 0 ∧ ∀ t, Fz (window z lo hi).1 t ↔ Fz z t ∧ InW lo hi t) ∧
    ((window z lo hi).2 = 6 → (fits lo = true ∧ fits hi = true ∧ lo < hi) ∧ ∀ t, ¬ (Fz z t ∧ InW lo hi t)) := by
  unfold window
  rw [if_pos hz]
  by_cases hf : fits lo = true ∧ fits hi = true ∧ lo < hi
  · rw [if_pos hf]
    obtain ⟨f1, f2, f3⟩ := hf
    have k1 := fits_iff.1 f1
    have k2 := fits_iff.1 f2
    have e1 : (Bd.made hi false).1 = hi * 2 + 1 := by
      unfold Bd.made Num.okB
      rw [if_pos (by simp; omega)]; rfl
    have e2 : (Bd.made (-lo) true).1 = -lo * 2 := by
      unfold Bd.made Num.okB
      rw [if_pos (by simp; omega)]; rfl
    have hx : hi * 2 + 1 = NO ∨ hi * 2 + 1 < NO := by unfold NO; omega
    have hy : -lo * 2 = NO ∨ -lo * 2 < NO := by unfold NO; omega
    obtain ⟨w1, w2⟩ := with2_ok hz (i := 2) (j := 3) (by decide) (by decide) (by decide) hx hy
    have hin : ∀ t, satO (dif 2 t) (ob (hi * 2 + 1)) ∧ satO (dif 3 t) (ob (-lo * 2)) ↔ InW lo hi t := fun t => by
      have o1 : ob (hi * 2 + 1) = some (hi * 2 + 1) := by unfold ob; rw [if_neg (by unfold NO; omega)]
      have o2 : ob (-lo * 2) = some (-lo * 2) := by unfold ob; rw [if_neg (by unfold NO; omega)]
      rw [o1, o2]
      unfold satO Bd.st
      simp only
      rw [if_neg (by simp <;> omega), if_pos (by simp), show (hi * 2 + 1) / 2 = hi by omega, show -lo * 2 / 2 = -lo by omega]
      show t 2 - t 0 ≤ _ ∧ t 0 - t 2 < _ ↔ _
      unfold InW
      rw [Rat.intCast_neg]
      constructor
      · rintro ⟨h1, h2⟩; exact ⟨by grind, h1⟩
      · rintro ⟨h1, h2⟩; exact ⟨h2, by grind⟩
    rw [e1, e2]
    refine ⟨fun h => ⟨⟨f1, f2, f3⟩, (w1 h).1, fun t => ((w1 h).2 t).trans (by rw [hin])⟩, fun h => ⟨⟨f1, f2, f3⟩, fun t ht => w2 h t (by rw [hin]; exact ht)⟩⟩
  · rw [if_neg hf]
    exact ⟨fun h => absurd h (by decide), fun h => absurd h (by decide)⟩
def InS (s : Sp) (t : Nat → Rat) : Prop := (Zo.btw s).2.2 = 0 ∧ satO (dif 4 t) (ob ((Zo.btw s).2.1[2]?.getD 0)) ∧ satO (dif 5 t) (ob ((Zo.btw s).2.1[1]?.getD 0))
theorem btw_lt (s : Sp) (k : Nat) (hk : k < 4) : (Zo.btw s).2.1[k]?.getD 0 = NO ∨ (Zo.btw s).2.1[k]?.getD 0 < NO := by
  unfold Zo.btw Tg.between
  have z0 : ∀ q : Nat, ([] : List Int)[q]?.getD 0 = NO ∨ ([] : List Int)[q]?.getD 0 < NO := fun q => .inr (by simp [NO])
  split
  · split
    · split
      · unfold Dbm.close
        split
        · rename_i h0
          split
          · rename_i L hL
            have hc : Clo 2 L := close_clo (N := 2) h0 hL
            have := hc.lim (k / 2) (k % 2) (by omega) (by omega)
            rw [Nat.div_add_mod' k 2] at this
            exact lim_lt this (by omega)
          · exact z0 k
        · exact z0 k
      · exact z0 k
    · exact z0 k
  · exact z0 k
theorem within_ok {z : Zn} {s : Sp} (hz : Zo.chk z = 0) :
    ((within z s).2 = 0 → Zo.chk (within z s).1 = 0 ∧ ∀ t, Fz (within z s).1 t ↔ Fz z t ∧ InS s t) ∧ ((within z s).2 = 6 → ∀ t, ¬ (Fz z t ∧ InS s t)) := by
  unfold within InS
  rw [if_pos hz]
  have b2 := btw_lt s 2 (by decide)
  have b1 := btw_lt s 1 (by decide)
  generalize Zo.btw s = X at *
  obtain ⟨n, D, e⟩ := X
  simp only at b1 b2 ⊢
  by_cases he : e = 0
  · rw [if_pos he]
    obtain ⟨w1, w2⟩ := with2_ok hz (i := 4) (j := 5) (by decide) (by decide) (by decide) b2 b1
    exact ⟨fun h => ⟨(w1 h).1, fun t => ((w1 h).2 t).trans ⟨fun k => ⟨k.1, he, k.2⟩, fun k => ⟨k.1, k.2.2⟩⟩⟩, fun h t ht => w2 h t ⟨ht.1, ht.2.2⟩⟩
  · rw [if_neg he]
    exact ⟨fun h => absurd h he, fun h t ht => he ht.2.1⟩
end Wn
namespace Zs
open Mi Dbm
theorem checked1 {l : List Zn} (h : Cv.checked [l] = 0) : ∀ z, z ∈ l → Zo.chk z = 0 := (checked_ok.1 h l (by simp)).2
theorem each_ok {f : Zn → Zn × Int} {l : List Zn} (h : (each f l).2 = 0) : Cv.checked [l] = 0 ∧ ((f free).2 = 0 ∨ (f free).2 = 6) ∧ Fine (each f l).1 ∧ (∀ x, x ∈ l → (f x).2 = 0 ∨ (f x).2 = 6) ∧ ∀ t, Pts (each f l).1 t ↔ ∃ x, x ∈ l ∧ (f x).2 = 0 ∧ Fz (f x).1 t := by
  unfold each at h ⊢
  by_cases h0 : Cv.checked [l] = 0
  case neg => rw [if_neg h0] at h; exact absurd h h0
  rw [if_pos h0] at h ⊢
  by_cases h1 : (f free).2 ≠ 0 ∧ (f free).2 ≠ 6
  · rw [if_pos h1] at h; exact absurd h h1.1
  rw [if_neg h1] at h ⊢
  obtain ⟨⟨m, hm1, hm2⟩, k2, k3⟩ := come_ok f l [] h
  refine ⟨h0, by omega, by rw [hm2]; exact fine_prune hm1, k2, fun t => (k3 t).trans ⟨fun k => k.elim (fun ⟨z, hz, _⟩ => (nomatch hz)) id, .inr⟩⟩
theorem window_pts {l : List Zn} {lo hi : Int} (h : (window l lo hi).2 = 0) : lo < hi ∧ Fine (window l lo hi).1 ∧ ∀ t, Pts (window l lo hi).1 t ↔ Pts l t ∧ Wn.InW lo hi t := by
  obtain ⟨h0, h1, h2, h3, h4⟩ := each_ok h
  have hc := checked1 h0
  obtain ⟨f1, f2⟩ := Wn.window_ok (lo := lo) (hi := hi) free_chk
  have hlt : lo < hi := by
    rcases h1 with h1 | h1
    · exact (f1 h1).1.2.2
    · exact (f2 h1).1.2.2
  refine ⟨hlt, h2, fun t => (h4 t).trans ?_⟩
  constructor
  · rintro ⟨x, hx, he, hf⟩
    have := (((Wn.window_ok (hc x hx)).1 he).2.2 t).1 hf
    exact ⟨⟨x, hx, this.1⟩, this.2⟩
  · rintro ⟨⟨x, hx, hf⟩, hw⟩
    rcases h3 x hx with he | he
    · exact ⟨x, hx, he, (((Wn.window_ok (hc x hx)).1 he).2.2 t).2 ⟨hf, hw⟩⟩
    · exact absurd ⟨hf, hw⟩ (((Wn.window_ok (hc x hx)).2 he).2 t)
theorem within_pts {l : List Zn} {s : Sp} (h : (within l s).2 = 0) : Fine (within l s).1 ∧ ∀ t, Pts (within l s).1 t ↔ Pts l t ∧ Wn.InS s t := by
  obtain ⟨h0, h1, h2, h3, h4⟩ := each_ok h
  have hc := checked1 h0
  refine ⟨h2, fun t => (h4 t).trans ?_⟩
  constructor
  · rintro ⟨x, hx, he, hf⟩
    have := (((Wn.within_ok (hc x hx)).1 he).2 t).1 hf
    exact ⟨⟨x, hx, this.1⟩, this.2⟩
  · rintro ⟨⟨x, hx, hf⟩, hw⟩
    rcases h3 x hx with he | he
    · exact ⟨x, hx, he, (((Wn.within_ok (hc x hx)).1 he).2 t).2 ⟨hf, hw⟩⟩
    · exact absurd ⟨hf, hw⟩ ((Wn.within_ok (hc x hx)).2 he t)
end Zs
end Go.Proofs.YtjbhpfmnfdebkaaGreat

namespace Go.Proofs.YtjbhpfmnfdebkaaGreat
set_option linter.unusedVariables false
set_option linter.unusedSimpArgs false
open Go.RowKit Go.Proofs.YtjbhpfmnfdebkaaGreat.Eng Enc
namespace Dbm
theorem cyc {N : Nat} {L C : List Int} (h0 : chk N L = 0) (h : closeL N L = some C) {i j : Nat} (hi : i < N) (hj : j < N) (hij : i ≠ j) : ole (some 1) (oadd (mx N L i j) (mx N L j i)) := by
  obtain ⟨L1, a2, a3, inv, hl, hE⟩ := close_inv h0 h
  have c1 := inv.closed i i j hi hi hj
  rw [inv.diag i hi] at c1
  have e1 : mx N L1 i j = mx N L i j := by unfold mx; rw [a3 i j hi hj, if_neg hij]
  have e2 : mx N L1 j i = mx N L j i := by unfold mx; rw [a3 j i hj hi, if_neg (fun e => hij e.symm)]
  have l1 := inv.low i j hi hj
  have l2 := inv.low j i hj hi
  rw [e1] at l1
  rw [e2] at l2
  exact ole_trans c1 (oadd_mono l1 l2)
theorem ob1 : ob 1 = some 1 := by unfold ob; rw [if_neg (by unfold NO; decide)]
theorem lim1 {m : Int} (h : 1 ≤ m) : lim m 1 := .inr (by omega)
theorem clo2 {p q : Int} (hp : lim 864691128455135232 p) (hq : lim 864691128455135232 q) (h : ole (some 1) (oadd (ob p) (ob q))) : Clo 2 [1, p, q, 1] := by
  have h' : ole (some 1) (oadd (ob q) (ob p)) := by rw [oadd_comm]; exact h
  refine ⟨rfl, fun i hi => ?_, fun i j a hi hj ha => ?_, fun i j hi hj => ?_⟩
  · rcases (by omega : i = 0 ∨ i = 1) with rfl | rfl <;> rfl
  · rcases (by omega : i = 0 ∨ i = 1) with rfl | rfl <;> rcases (by omega : j = 0 ∨ j = 1) with rfl | rfl <;> rcases (by omega : a = 0 ∨ a = 1) with rfl | rfl <;> simp [mx, ob1, oadd_one, one_oadd, ole_refl, h, h']
  · rcases (by omega : i = 0 ∨ i = 1) with rfl | rfl <;> rcases (by omega : j = 0 ∨ j = 1) with rfl | rfl <;> first | exact lim1 (by decide) | exact hp | exact hq
end Dbm
namespace Wn
open Mi Dbm
def spMay (s : Sp) : Bool := decide (-288230376151711744 ≤ s.lo) && decide (s.lo ≤ 288230376151711744) && (if s.op = true then decide (s.hi = 0) && !s.hs else decide (s.lo ≤ s.hi) && decide (s.hi ≤ 288230376151711744))
theorem mayC_of {b : Int} (h : b = NO ∨ (-288230376151711744 ≤ b / 2 ∧ b / 2 ≤ 288230376151711744)) : Dbm.mayC b = true := by
  unfold Dbm.mayC
  rcases h with h | h
  · rw [h]; decide
  · simp [h]
theorem ab_lim {s : Sp} (h : spMay s = true) : Rg.ab s = NO ∨ (-288230376151711744 ≤ Rg.ab s / 2 ∧ Rg.ab s / 2 ≤ 288230376151711744) := by
  unfold spMay at h
  unfold Rg.ab
  split
  · exact .inl rfl
  · rename_i ho
    rw [if_neg ho] at h
    simp only [Bool.and_eq_true, decide_eq_true_eq] at h
    right
    unfold Bd.mk
    split <;> omega
theorem be_lim {s : Sp} (h : spMay s = true) : -288230376151711744 ≤ Rg.be s / 2 ∧ Rg.be s / 2 ≤ 288230376151711744 := by
  unfold spMay at h
  simp only [Bool.and_eq_true, decide_eq_true_eq] at h
  unfold Rg.be Bd.mk
  split <;> omega
theorem sides_may (s : Sp) : (Tg.sides s).2.2 = spMay s ∧ (spMay s = true → Tg.sides s = (Rg.be s, Rg.ab s, true)) := by
  have hof : ∀ c b, -288230376151711744 ≤ c → c ≤ 288230376151711744 → Tg.of c b = Bd.mk c b := fun c b h1 h2 => by
    unfold Tg.of Bd.made Num.okB
    rw [if_pos (by simp; omega)]
  constructor
  · unfold Tg.sides spMay Tg.bad
    by_cases ho : s.op = true
    · rw [if_pos ho, if_pos ho]
      split
      · rename_i hb
        simp only [Bool.or_eq_true, decide_eq_true_eq] at hb
        symm
        simp only [Bool.and_eq_false_iff, decide_eq_false_iff_not]
        omega
      · rename_i hb
        simp only [Bool.or_eq_true, decide_eq_true_eq] at hb
        simp only
        rw [decide_eq_true (by omega : -288230376151711744 ≤ s.lo), decide_eq_true (by omega : s.lo ≤ 288230376151711744)]
        simp
    · rw [if_neg ho, if_neg ho]
      split
      · rename_i hb
        simp only [Bool.or_eq_true, decide_eq_true_eq] at hb
        symm
        simp only [Bool.and_eq_false_iff, decide_eq_false_iff_not]
        omega
      · rename_i hb
        simp only [Bool.or_eq_true, decide_eq_true_eq] at hb
        simp only
        rw [decide_eq_true (by omega : -288230376151711744 ≤ s.lo), decide_eq_true (by omega : s.lo ≤ 288230376151711744), decide_eq_true (by omega : s.hi ≤ 288230376151711744)]
        simp
  · intro h
    have h' := h
    unfold spMay at h
    simp only [Bool.and_eq_true, decide_eq_true_eq] at h
    have hnb : ¬ Tg.bad s = true := by
      unfold Tg.bad
      simp only [Bool.or_eq_true, decide_eq_true_eq]
      by_cases ho : s.op = true
      · rw [if_pos ho] at h; simp at h; omega
      · rw [if_neg ho] at h; simp at h; omega
    unfold Tg.sides
    rw [if_neg hnb]
    by_cases ho : s.op = true
    · rw [if_pos ho] at h ⊢
      unfold Rg.ab
      rw [if_pos ho, hof _ _ (by omega) (by omega), h.2]
      unfold Rg.be
      rw [Int.zero_sub]
    · rw [if_neg ho] at h ⊢
      simp at h
      unfold Rg.ab
      rw [if_neg ho, hof _ _ (by omega) (by omega), hof _ _ (by omega) (by omega), decide_eq_true (by omega : s.lo ≤ s.hi)]
      unfold Rg.be
      rw [Int.zero_sub]
def spOk (s : Sp) : Prop := ole (some 1) (oadd (ob (Rg.be s)) (ob (Rg.ab s)))
theorem lim_of {b : Int} (h : b = NO ∨ (-288230376151711744 ≤ b / 2 ∧ b / 2 ≤ 288230376151711744)) : lim 864691128455135232 b := by
  rcases h with h | h
  · exact .inl h
  · exact .inr (by omega)
theorem btw_may {s : Sp} (h : spMay s = true) : (spOk s ∧ Zo.btw s = (2, [1, Rg.be s, Rg.ab s, 1], 0)) ∨ (¬ spOk s ∧ Zo.btw s = (0, [], 6)) := by
  obtain ⟨_, h2⟩ := sides_may s
  have hs := h2 h
  have ha := ab_lim h
  have hb := be_lim h
  have k0 : Dbm.chk 2 (Dbm.topL 2) = 0 := by decide
  have ht : Dbm.topL 2 = [1, NO, NO, 1] := by decide
  have m1 : min NO (Rg.be s) = Rg.be s := by unfold NO; omega
  have m2 : min NO (Rg.ab s) = Rg.ab s := by rcases ha with ha | ha <;> unfold NO at * <;> omega
  have hmore : Tg.more (Dbm.topL 2) [⟨1, Rg.be s⟩, ⟨1 * 2, Rg.ab s⟩] = [1, Rg.be s, Rg.ab s, 1] := by
    rw [ht]
    simp [Tg.more, List.set, m1, m2]
  have hck : Dbm.chk 2 [1, Rg.be s, Rg.ab s, 1] = 0 := by
    refine chk_iff.2 ⟨by decide, by decide, rfl, ?_⟩
    have e1 : mayC 1 = true := by decide
    simp only [List.any_cons, List.any_nil, e1, mayC_of (.inr hb), mayC_of ha, Bool.not_true, Bool.or_false]
  have hbt : Zo.btw s = Dbm.close 2 [1, Rg.be s, Rg.ab s, 1] := by
    unfold Zo.btw Tg.between
    rw [if_pos k0, if_pos ⟨by decide, by decide⟩, hs, if_pos rfl, hmore]
  rw [hbt]
  unfold Dbm.close
  rw [if_pos hck]
  by_cases hok : spOk s
  · left
    have hc : Clo 2 [1, Rg.be s, Rg.ab s, 1] := clo2 (lim_of (.inr hb)) (lim_of ha) hok
    refine ⟨hok, ?_⟩
    show (match closeL 2 _ with | some L' => ((2 : Int), L', (0 : Int)) | none => (0, [], 6)) = _
    rw [hc.close]
  · right
    refine ⟨hok, ?_⟩
    show (match closeL 2 _ with | some L' => ((2 : Int), L', (0 : Int)) | none => (0, [], 6)) = _
    cases hC : closeL 2 [1, Rg.be s, Rg.ab s, 1] with
    | none => rfl
    | some C => exact absurd (cyc (N := 2) hck hC (i := 0) (j := 1) (by decide) (by decide) (by decide)) hok
theorem btw_bad {s : Sp} (h : spMay s = false) : Zo.btw s = (0, [], 8) := by
  have k0 : Dbm.chk 2 (Dbm.topL 2) = 0 := by decide
  unfold Zo.btw Tg.between
  rw [if_pos k0, if_pos ⟨by decide, by decide⟩, (sides_may s).1, h, if_neg (by decide)]
end Wn
end Go.Proofs.YtjbhpfmnfdebkaaGreat

namespace Go.Proofs.YtjbhpfmnfdebkaaGreat
set_option linter.unusedVariables false
set_option linter.unusedSimpArgs false
set_option maxRecDepth 100000
open Go.RowKit Go.Proofs.YtjbhpfmnfdebkaaGreat.Eng Enc

end Go.Proofs.YtjbhpfmnfdebkaaGreat

namespace Go.Proofs.YtjbhpfmnfdebkaaGreat
set_option linter.unusedVariables false
set_option linter.unusedSimpArgs false
set_option maxRecDepth 100000
open Go.RowKit Go.Proofs.YtjbhpfmnfdebkaaGreat.Eng Enc

namespace Cmp
open Dbm
end Cmp
end Go.Proofs.YtjbhpfmnfdebkaaGreat

namespace Go.Proofs.YtjbhpfmnfdebkaaGreat
set_option linter.unusedVariables false
set_option linter.unusedSimpArgs false
open Go.RowKit Go.Proofs.YtjbhpfmnfdebkaaGreat.Eng Enc
namespace Cmp
open Dbm
end Cmp
end Go.Proofs.YtjbhpfmnfdebkaaGreat

namespace Go.Proofs.YtjbhpfmnfdebkaaGreat
set_option linter.unusedVariables false
set_option linter.unusedSimpArgs false
set_option maxRecDepth 100000
open Go.RowKit Go.Proofs.YtjbhpfmnfdebkaaGreat.Eng Enc

end Go.Proofs.YtjbhpfmnfdebkaaGreat

namespace Go.Proofs.YtjbhpfmnfdebkaaGreat
set_option linter.unusedVariables false
set_option linter.unusedSimpArgs false
set_option maxRecDepth 100000
open Go.RowKit Go.Proofs.YtjbhpfmnfdebkaaGreat.Eng Enc

namespace Mi
open Dbm
structure LSit (w w2 V : World) (Bb : Nat) (b : Zn) (sv : Value) (out : List Zn) (X : World) : Prop where
  below : Below w.heap.size w X
  size : w2.heap.size ≤ X.heap.size
  size0 : V.heap.size ≤ X.heap.size
  ha : Holds X Bb b
  own : Own 104 w2.heap.size X sv out
section
variable {w w2 V X Y : World} {Bb : Nat} {b : Zn} {sv : Value} {out : List Zn}
theorem LSit.at {hp : List LB} {r L : List Nat} (s : LSit w w2 V Bb b sv out X) (h : At ⟨w, w.heap.size, Nat.le_refl _⟩ hp r L X Y) (hL : ∀ x, x ∈ L → X.heap.size ≤ x ∨ x ≠ Bb ∧ sv.ownBlock ≠ some x) : LSit w w2 V Bb b sv out Y := by
  refine ⟨h.below, Nat.le_trans s.size h.size, Nat.le_trans s.size0 h.size, s.ha.same (h.step Bb s.ha.lt fun hm => ?_), ?_⟩
  · rcases hL _ hm with h1 | h1
    · have := s.ha.lt; omega
    · exact h1.1 rfl
  · obtain ⟨hl, h0 | ⟨g, cap, cur, e1, e2, e3, e4⟩⟩ := s.own
    · exact ⟨hl, .inl h0⟩
    · have hg := (Array.getElem?_eq_some_iff.1 e3).1
      refine ⟨hl, .inr ⟨g, cap, cur, e1, e2, (h.step g hg (fun e => ?_)).trans e3, e4⟩⟩
      rcases hL g e with h1 | h1
      · omega
      · exact h1.2 (by rw [e1]; rfl)
theorem LSit.go (s : LSit w w2 V Bb b sv out X) (hw : w.heap.size ≤ w2.heap.size) (hB : Below X.heap.size X Y) : LSit w w2 V Bb b sv out Y :=
  ⟨s.below.trans (hB.mono s.below.size), Nat.le_trans s.size hB.size, Nat.le_trans s.size0 hB.size, s.ha.below hB, s.own.below hB⟩
theorem LSit.grow {Z : World} {tv : Value} {out2 : List Zn} (s : LSit w w2 V Bb b sv out Y) (hw : w.heap.size ≤ w2.heap.size) (hBb : sv.ownBlock ≠ some Bb) (hg : Y.grownBy Z sv.ownBlock) (hO : Own 104 w2.heap.size Z tv out2) : LSit w w2 V Bb b tv out2 Z :=
  ⟨⟨hg.os.trans s.below.os, hg.tape.trans s.below.tape, hg.output.trans s.below.output, Nat.le_trans s.below.size hg.size, fun k hk => (hg.block k (Nat.lt_of_lt_of_le hk s.below.size) (fun e => by have := (s.own.lt k e.symm).1; omega)).trans (s.below.block k hk)⟩,
    Nat.le_trans s.size hg.size, Nat.le_trans s.size0 hg.size, s.ha.same (hg.block Bb s.ha.lt (fun e => hBb e.symm)), hO⟩
end
end Mi
end Go.Proofs.YtjbhpfmnfdebkaaGreat

namespace Go.Proofs.YtjbhpfmnfdebkaaGreat
set_option linter.unusedVariables false
set_option linter.unusedSimpArgs false
set_option maxRecDepth 100000
open Go.RowKit Go.Proofs.YtjbhpfmnfdebkaaGreat.Eng Enc

end Go.Proofs.YtjbhpfmnfdebkaaGreat

namespace Go.Proofs.YtjbhpfmnfdebkaaGreat
set_option linter.unusedVariables false
set_option linter.unusedSimpArgs false
set_option maxRecDepth 100000
open Go.RowKit Go.Proofs.YtjbhpfmnfdebkaaGreat.Eng Enc

namespace Cv
end Cv
end Go.Proofs.YtjbhpfmnfdebkaaGreat

namespace Go.Proofs.YtjbhpfmnfdebkaaGreat
set_option linter.unusedVariables false
set_option linter.unusedSimpArgs false
set_option maxRecDepth 100000
open Go.RowKit Go.Proofs.YtjbhpfmnfdebkaaGreat.Eng Enc

end Go.Proofs.YtjbhpfmnfdebkaaGreat

namespace Go.Proofs.YtjbhpfmnfdebkaaGreat
set_option linter.unusedVariables false
set_option linter.unusedSimpArgs false
set_option maxRecDepth 100000
open Go.RowKit Go.Proofs.YtjbhpfmnfdebkaaGreat.Eng Enc

end Go.Proofs.YtjbhpfmnfdebkaaGreat

namespace Go.Proofs.YtjbhpfmnfdebkaaGreat
set_option linter.unusedVariables false
set_option linter.unusedSimpArgs false
open Go.RowKit

namespace Cv
open Zo
def Nx (out : List Zn) (x : Zn) : Prop := ∀ y, out.getLast? = some y → Lt y x
def Sc (l out : List Zn) (i : Nat) (b : Int) : Prop :=
  (b = -1 ∧ ∀ k x, k < i → l[k]? = some x → ¬ Nx out x) ∨
  (∃ j y, b = (j : Nat) ∧ j < i ∧ l[j]? = some y ∧ Nx out y ∧ ∀ k x, k < i → l[k]? = some x → Nx out x → ¬ Lt x y)
theorem Sc.start (l out : List Zn) : Sc l out 0 (-1) := .inl ⟨rfl, fun k x h => by omega⟩
theorem Sc.skip {l out : List Zn} {i : Nat} {b : Int} {x : Zn} (h : Sc l out i b) (hx : l[i]? = some x) (hn : ¬ Nx out x) : Sc l out (i + 1) b := by
  rcases h with ⟨rfl, h⟩ | ⟨j, y, rfl, hj, hy, hn2, h⟩
  · refine .inl ⟨rfl, fun k x' hk hx' => ?_⟩
    by_cases e : k = i
    · subst e; rw [hx] at hx'; cases hx'; exact hn
    · exact h k x' (by omega) hx'
  · refine .inr ⟨j, y, rfl, by omega, hy, hn2, fun k x' hk hx' hn' => ?_⟩
    by_cases e : k = i
    · subst e; rw [hx] at hx'; cases hx'; exact absurd hn' hn
    · exact h k x' (by omega) hx' hn'
theorem Sc.first {l out : List Zn} {i : Nat} {x : Zn} (h : Sc l out i (-1)) (hx : l[i]? = some x) (hn : Nx out x) : Sc l out (i + 1) (i : Nat) := by
  rcases h with ⟨_, h⟩ | ⟨j, y, e, _⟩
  · refine .inr ⟨i, x, rfl, by omega, hx, hn, fun k x' hk hx' hn' => ?_⟩
    by_cases e : k = i
    · subst e; rw [hx] at hx'; cases hx'; exact Lt.irrefl _
    · exact absurd hn' (h k x' (by omega) hx')
  · omega
theorem Sc.keep {l out : List Zn} {i j : Nat} {x y : Zn} (h : Sc l out i (j : Nat)) (hx : l[i]? = some x) (hy : l[j]? = some y) (hn : ¬ Lt x y) : Sc l out (i + 1) (j : Nat) := by
  rcases h with ⟨e, _⟩ | ⟨j', y', e, hj, hy', hn2, h⟩
  · omega
  · have : j' = j := by omega
    subst this
    rw [hy] at hy'; cases hy'
    refine .inr ⟨j', y, rfl, by omega, hy, hn2, fun k x' hk hx' hn' => ?_⟩
    by_cases e : k = i
    · subst e; rw [hx] at hx'; cases hx'; exact hn
    · exact h k x' (by omega) hx' hn'
theorem Sc.less {l out : List Zn} {i j : Nat} {x y : Zn} (h : Sc l out i (j : Nat)) (hx : l[i]? = some x) (hy : l[j]? = some y) (hN : Nx out x) (hn : Lt x y) : Sc l out (i + 1) (i : Nat) := by
  rcases h with ⟨e, _⟩ | ⟨j', y', e, hj, hy', hn2, h⟩
  · omega
  · have : j' = j := by omega
    subst this
    rw [hy] at hy'; cases hy'
    refine .inr ⟨i, x, rfl, by omega, hx, hN, fun k x' hk hx' hn' hlt => ?_⟩
    by_cases e : k = i
    · subst e; rw [hx] at hx'; cases hx'; exact Lt.irrefl _ hlt
    · exact h k x' (by omega) hx' hn' (Lt.trans hlt hn)
theorem last_take {S : List Zn} {p : Nat} (hp : p ≤ S.length) : (S.take p).getLast? = if p = 0 then none else S[p - 1]? := by
  rw [List.getLast?_eq_getElem?, List.length_take, Nat.min_eq_left hp]
  by_cases h : p = 0
  · subst h; simp
  · rw [if_neg h, List.getElem?_take, if_pos (by omega)]
theorem strict_at {S : List Zn} (h : S.Pairwise Lt) {i j : Nat} {x y : Zn} (hx : S[i]? = some x) (hy : S[j]? = some y) (hij : i < j) : Lt x y := by
  obtain ⟨h1, rfl⟩ := List.getElem?_eq_some_iff.1 hx
  obtain ⟨h2, rfl⟩ := List.getElem?_eq_some_iff.1 hy
  exact List.pairwise_iff_getElem.1 h i j h1 h2 hij
theorem nx_at {S : List Zn} (h : S.Pairwise Lt) {p j : Nat} {x : Zn} (hp : p ≤ S.length) (hx : S[j]? = some x) : Nx (S.take p) x ↔ p ≤ j := by
  unfold Nx
  rw [last_take hp]
  constructor
  · intro hn
    by_cases e : p = 0
    · omega
    rw [if_neg e] at hn
    obtain ⟨y, hy⟩ : ∃ y, S[p - 1]? = some y := ⟨_, List.getElem?_eq_getElem (by omega)⟩
    have hlt := hn y hy
    refine Nat.le_of_not_lt fun hj => ?_
    by_cases e2 : j = p - 1
    · subst e2; rw [hx] at hy; cases hy; exact Lt.irrefl _ hlt
    · exact Lt.irrefl _ (Lt.trans hlt (strict_at h hx hy (by omega)))
  · intro hpj y hy
    by_cases e : p = 0
    · rw [if_pos e] at hy; cases hy
    · rw [if_neg e] at hy
      exact strict_at h hy hx (by omega)
theorem Sc.done {l : List Zn} {p : Nat} (hp : p ≤ (sorted l).length) (h : Sc l ((sorted l).take p) l.length (-1)) : (sorted l).take p = sorted l := by
  rcases h with ⟨_, h⟩ | ⟨j, y, e, _⟩
  · refine List.take_of_length_le (Nat.le_of_not_lt fun hlt => ?_)
    have hx := List.getElem?_eq_getElem hlt
    obtain ⟨k, hk⟩ := List.mem_iff_getElem?.1 ((sorted_mem l _).1 (List.mem_of_getElem? hx))
    exact h k _ (List.getElem?_eq_some_iff.1 hk).1 hk ((nx_at (sorted_strict l) hp hx).2 (Nat.le_refl _))
  · omega
theorem Sc.more {l : List Zn} {p j : Nat} {y : Zn} (hp : p ≤ (sorted l).length) (h : Sc l ((sorted l).take p) l.length (j : Nat)) (hy : l[j]? = some y) : (sorted l)[p]? = some y := by
  rcases h with ⟨e, _⟩ | ⟨j', y', e, hj, hy', hn2, h⟩
  · omega
  · have : j' = j := by omega
    subst this
    rw [hy] at hy'; cases hy'
    obtain ⟨q, hq⟩ := List.mem_iff_getElem?.1 ((sorted_mem l y).2 (List.mem_of_getElem? hy))
    have hpq := (nx_at (sorted_strict l) hp hq).1 hn2
    by_cases e : p = q
    · rw [e]; exact hq
    have hql := (List.getElem?_eq_some_iff.1 hq).1
    have hx := List.getElem?_eq_getElem (l := sorted l) (i := p) (by omega)
    obtain ⟨k, hk⟩ := List.mem_iff_getElem?.1 ((sorted_mem l _).1 (List.mem_of_getElem? hx))
    exact absurd (strict_at (sorted_strict l) hx hq (by omega)) (h k _ (List.getElem?_eq_some_iff.1 hk).1 hk ((nx_at (sorted_strict l) hp hx).2 (Nat.le_refl _)))
end Cv
end Go.Proofs.YtjbhpfmnfdebkaaGreat

namespace Go.Proofs.YtjbhpfmnfdebkaaGreat
set_option linter.unusedVariables false
set_option linter.unusedSimpArgs false
set_option maxRecDepth 100000
open Go.RowKit Go.Proofs.YtjbhpfmnfdebkaaGreat.Eng Enc

namespace Zo
end Zo
namespace Cv
theorem Sc.neg {l out : List Zn} {i : Nat} {b : Int} (h : Sc l out i b) (hb : b < 0) : b = -1 := by
  rcases h with ⟨rfl, _⟩ | ⟨j, y, rfl, _⟩ <;> omega
theorem Sc.pos {l out : List Zn} {i : Nat} {b : Int} (h : Sc l out i b) (hb : ¬ b < 0) : ∃ j y, b = (j : Nat) ∧ j < i ∧ l[j]? = some y := by
  rcases h with ⟨rfl, _⟩ | ⟨j, y, rfl, hj, hy, _⟩
  · omega
  · exact ⟨j, y, rfl, hj, hy⟩
end Cv
end Go.Proofs.YtjbhpfmnfdebkaaGreat

namespace Go.Proofs.YtjbhpfmnfdebkaaGreat
set_option linter.unusedVariables false
set_option linter.unusedSimpArgs false
set_option maxRecDepth 100000
open Go.RowKit Go.Proofs.YtjbhpfmnfdebkaaGreat.Eng Enc

end Go.Proofs.YtjbhpfmnfdebkaaGreat

namespace Go.Proofs.YtjbhpfmnfdebkaaGreat
set_option linter.unusedVariables false
set_option linter.unusedSimpArgs false
set_option maxRecDepth 100000
open Go.RowKit Go.Proofs.YtjbhpfmnfdebkaaGreat.Eng Enc

end Go.Proofs.YtjbhpfmnfdebkaaGreat

namespace Go.Proofs.YtjbhpfmnfdebkaaGreat
set_option linter.unusedVariables false
set_option linter.unusedSimpArgs false
set_option maxRecDepth 100000
open Go.RowKit Go.Proofs.YtjbhpfmnfdebkaaGreat.Eng Enc

end Go.Proofs.YtjbhpfmnfdebkaaGreat

namespace Go.Proofs.YtjbhpfmnfdebkaaGreat
set_option linter.unusedVariables false
set_option linter.unusedSimpArgs false
set_option maxRecDepth 100000
open Go.RowKit Go.Proofs.YtjbhpfmnfdebkaaGreat.Eng Enc

namespace Zs
end Zs
end Go.Proofs.YtjbhpfmnfdebkaaGreat

namespace Go.Proofs.YtjbhpfmnfdebkaaGreat
set_option linter.unusedVariables false
set_option linter.unusedSimpArgs false
set_option maxRecDepth 100000
open Go.RowKit Go.Proofs.YtjbhpfmnfdebkaaGreat.Eng Enc

namespace Fr
end Fr
def Dbm.kp (L : List Int) (M : List Rt) (i j : Nat) : Bool := (Fr.keeps (M[i]?.getD ⟨0, 1⟩) (M[j]?.getD ⟨0, 1⟩) (L[i * 3 + j]?.getD 0)).1
end Go.Proofs.YtjbhpfmnfdebkaaGreat

namespace Go.Proofs.YtjbhpfmnfdebkaaGreat
set_option linter.unusedVariables false
set_option linter.unusedSimpArgs false
set_option maxRecDepth 100000
open Go.RowKit Go.Proofs.YtjbhpfmnfdebkaaGreat.Eng Enc

namespace Zs
end Zs
end Go.Proofs.YtjbhpfmnfdebkaaGreat

namespace Go.Proofs.YtjbhpfmnfdebkaaGreat
set_option linter.unusedVariables false
set_option linter.unusedSimpArgs false
set_option maxRecDepth 100000
open Go.RowKit Go.Proofs.YtjbhpfmnfdebkaaGreat.Eng Enc

namespace Rg
end Rg
end Go.Proofs.YtjbhpfmnfdebkaaGreat

namespace Go.Proofs.YtjbhpfmnfdebkaaGreat
set_option linter.unusedVariables false
set_option linter.unusedSimpArgs false
set_option maxRecDepth 100000
open Go.RowKit Go.Proofs.YtjbhpfmnfdebkaaGreat.Eng Enc

namespace Rg
def btw (a b : List Int) (long : Int) (x : Int) : Bool := isR long x && (List.range (6 * long + 1).toNat).any fun n => decide (number ⟨(pt x long).t, six n⟩ long ∈ a) && decide (number ⟨six n, (pt x long).u⟩ long ∈ b)
def comp (a b : List Int) (long : Int) : List Int × Int :=
  if fits long = false then ([], 2) else if mayL a long = true ∧ mayL b long = true then (up long (btw a b long), 0) else ([], 8)
theorem ask_in0 {x long : Int} (h : (askPoint x long).2 = 0) : 0 ≤ x ∧ x < (many long).1 := by
  unfold askPoint at h
  split at h
  · cases h
  · rename_i hn
    simp only [not_or, Int.not_lt, Int.not_le] at hn
    omega
theorem may_in {l : List Int} {long : Int} (h : mayL l long = true) {x : Int} (hx : x ∈ l) : 0 ≤ x ∧ x < (many long).1 := ask_in0 (mayTo_in h (by rw [List.take_length]; exact hx))
end Rg
end Go.Proofs.YtjbhpfmnfdebkaaGreat

namespace Go.Proofs.YtjbhpfmnfdebkaaGreat
set_option linter.unusedVariables false
set_option linter.unusedSimpArgs false
open Go.RowKit Go.Proofs.YtjbhpfmnfdebkaaGreat.Eng Enc
namespace Ky
open Dbm Mi Cv Zs Cmp
theorem tvs_one (a b : Rt) : Dbm.tvs [a, b] 1 = Fr.v a := rfl
theorem tvs_two (a b : Rt) : Dbm.tvs [a, b] 2 = Fr.v b := rfl
theorem many2 {long : Int} (hl : 1 ≤ long ∧ long ≤ 16) : (Rg.many long).2 = 0 := by rw [Rg.many_doc hl]
theorem pl_nonneg {x : Rat} (h : 0 ≤ pl x) : 0 ≤ x := by
  have e := eq_fr x
  have f := fr_nonneg x
  have h1 : (0 : Int) ≤ x.floor := by unfold pl at h; split at h <;> omega
  have h2 : (0 : Rat) ≤ (x.floor : Rat) := by exact_mod_cast h1
  generalize fr x = r at *
  generalize (x.floor : Rat) = y at *
  grind
theorem pl_le {x : Rat} {L : Int} (h : pl x ≤ 2 * L) : x ≤ (L : Rat) := by
  have e := eq_fr x
  have f := fr_lt x
  unfold pl at h
  split at h
  · rename_i hz
    have h1 : x.floor ≤ L := by omega
    have h2 : (x.floor : Rat) ≤ (L : Rat) := by exact_mod_cast h1
    rw [hz] at e
    grind
  · have h1 : x.floor + 1 ≤ L := by omega
    have h2 : ((x.floor + 1 : Int) : Rat) ≤ (L : Rat) := by exact_mod_cast h1
    rw [Rat.intCast_add, show ((1 : Int) : Rat) = 1 from rfl] at h2
    generalize fr x = r at *
    generalize (x.floor : Rat) = y at *
    grind
theorem reg_pt {long n : Int} (hl : 1 ≤ long ∧ long ≤ 16) (h : n ∈ regs long) : (Rg.pt n long).t.ok = true ∧ (Rg.pt n long).u.ok = true ∧ Rg.number (Rg.pt n long) long = n ∧ 0 ≤ n ∧ 0 ≤ rep n long 1 ∧ rep n long 1 < rep n long 2 ∧ rep n long 2 ≤ (long : Rat) := by
  have hR := mem_regs.1 h
  obtain ⟨h0, h1⟩ := isR_lt hR
  unfold Rg.isR at hR
  simp only [Bool.and_eq_true, decide_eq_true_eq] at hR
  have hp := hR.2
  unfold Rg.point at hp
  have hn : Rg.number (Rg.pt n long) long = n := of_decide_eq_true hp
  obtain ⟨k1, k2, k3, k4⟩ := Rg.number_back hn h0 hl
  obtain ⟨ht, hu, _⟩ := Rg.cmp_lt k1
  have hs : Rg.sides long = 2 * long + 1 := rfl
  have hk1 := (Rg.cmp_iff ht hu).1 k1
  obtain ⟨a1, a2, a3⟩ := v_parts ht
  obtain ⟨b1, b2, b3⟩ := v_parts hu
  have hlt : Fr.v (Rg.pt n long).t < Fr.v (Rg.pt n long).u := by
    have := (lt_key (Fr.v (Rg.pt n long).t) (Fr.v (Rg.pt n long).u) 0).2 (by
      rw [a1, b1]
      rcases hk1 with h | ⟨h, h'⟩
      · exact .inl (by omega)
      · exact .inr ⟨by omega, (fr_v_lt ht hu).1.2 h'⟩)
    rw [Rat.intCast_zero] at this
    grind
  have hpos : 0 ≤ Rg.place (Rg.pt n long).t := by rw [k2]; exact Int.ediv_nonneg (Int.ediv_nonneg h0 (by omega)) (by omega)
  have hT : 0 ≤ Fr.v (Rg.pt n long).t := pl_nonneg (by rw [pl_place ht]; exact hpos)
  have hub : Rg.place (Rg.pt n long).u < Rg.sides long := by rw [k3]; exact Int.emod_lt_of_pos _ (by omega)
  have hU : Fr.v (Rg.pt n long).u ≤ (long : Rat) := pl_le (by rw [pl_place hu]; omega)
  have e1 : rep n long 1 = Fr.v (Rg.pt n long).t := tvs_one _ _
  have e2 : rep n long 2 = Fr.v (Rg.pt n long).u := tvs_two _ _
  rw [e1, e2]
  exact ⟨ht, hu, hn, h0, hT, hlt, hU⟩
theorem num_of {p : Pt} {long : Int} (hl : 1 ≤ long ∧ long ≤ 16) (ht : p.t.ok = true) (hu : p.u.ok = true) (h1 : 0 ≤ Fr.v p.t) (h2 : Fr.v p.t < Fr.v p.u) (h3 : Fr.v p.u ≤ (long : Rat)) : 0 ≤ Rg.number p long := by
  have hs : Rg.sides long = 2 * long + 1 := rfl
  obtain ⟨a1, a2, a3⟩ := v_parts ht
  obtain ⟨b1, b2, b3⟩ := v_parts hu
  have k1 : (Fr.cmp p.t p.u).1 < 0 := by
    refine (Rg.cmp_iff ht hu).2 ?_
    have := (lt_key (Fr.v p.t) (Fr.v p.u) 0).1 (by rw [Rat.intCast_zero]; grind)
    rw [a1, b1] at this
    rcases this with h | ⟨h, h'⟩
    · exact .inl (by omega)
    · exact .inr ⟨by omega, (fr_v_lt ht hu).1.1 h'⟩
  have f1 : 0 ≤ (Fr.v p.t).floor := Rat.le_floor_iff.2 (by rw [Rat.intCast_zero]; exact h1)
  have f2 : (Fr.v p.u).floor ≤ long := by
    have := Rat.floor_le (Fr.v p.u)
    have h : ((Fr.v p.u).floor : Rat) ≤ (long : Rat) := by grind
    exact_mod_cast h
  have f4 : (Fr.v p.u).floor = long → fr (Fr.v p.u) = 0 := fun h => by
    have e2 := eq_fr (Fr.v p.u)
    have n2 := fr_nonneg (Fr.v p.u)
    rw [h] at e2; grind
  have p1 : 0 ≤ Rg.place p.t := by rw [← pl_place ht]; unfold pl; split <;> omega
  have p2 : Rg.place p.u < Rg.sides long := by
    rw [← pl_place hu, hs]; unfold pl
    split
    · omega
    · rename_i hz
      have : (Fr.v p.u).floor ≠ long := fun h => hz (f4 h)
      omega
  have ho := Rg.order_three p
  have hm : 0 ≤ Rg.place p.t * Rg.sides long := Int.mul_nonneg p1 (by omega)
  have p3 : 0 ≤ Rg.place p.u := by
    rw [← pl_place hu]; unfold pl
    have : 0 ≤ (Fr.v p.u).floor := Rat.le_floor_iff.2 (by rw [Rat.intCast_zero]; grind)
    split <;> omega
  unfold Rg.number
  rw [if_neg (by omega)]
  omega
theorem num_rep {p : Pt} {long : Int} (hl : 1 ≤ long ∧ long ≤ 16) (ht : p.t.ok = true) (hu : p.u.ok = true) (h : 0 ≤ Rg.number p long) : Rg.number p long ∈ regs long ∧ ∀ z, Fz z (Dbm.tvs [p.t, p.u]) ↔ Fz z (rep (Rg.number p long) long) := by
  obtain ⟨r1, r2, r3, r4, r5, r6, r7, r8, r9⟩ := Rg.rep_of hl h
  refine ⟨mem_regs.2 (by unfold Rg.isR; rw [decide_eq_true r3, decide_eq_true r4, r2]; rfl), fun z => Alike.fz (alike_of (tvs_zero _) (tvs_zero _) ?_ ?_ ?_) z⟩
  · exact (pl_place ht).trans (r7.symm.trans (pl_place r5).symm)
  · exact (pl_place hu).trans (r8.symm.trans (pl_place r6).symm)
  · exact (od_order ht hu).trans (r9.symm.trans (od_order r5 r6).symm)
theorem inL_pts {l : List Zn} (hc : ∀ z, z ∈ l → Zo.chk z = 0) {long n : Int} (hl : 1 ≤ long ∧ long ≤ 16) (hn : n ∈ regs long) : Rg.inL l long n = true ↔ Pts l (rep n long) := by
  obtain ⟨ht, hu, _⟩ := reg_pt hl hn
  unfold Rg.inL
  rw [mem_regs.1 hn, Bool.true_and, List.any_eq_true]
  constructor
  · rintro ⟨z, hz, h⟩
    exact ⟨z, hz, (Zo.has_ok (hc z hz) ht hu).2.1 h⟩
  · rintro ⟨z, hz, h⟩
    exact ⟨z, hz, (Zo.has_ok (hc z hz) ht hu).2.2 h⟩
theorem inL_reg {l : List Zn} {long n : Int} (h : Rg.inL l long n = true) : n ∈ regs long := by
  unfold Rg.inL at h
  simp only [Bool.and_eq_true] at h
  exact mem_regs.2 h.1
def rl (l : List Zn) (long : Int) : List Int := Rg.up long (Rg.inL l long)
theorem list_rl {l : List Zn} (hc : ∀ z, z ∈ l → Zo.chk z = 0) {long : Int} (hl : 1 ≤ long ∧ long ≤ 16) : Rg.list l long = (rl l long, 0) := by
  unfold Rg.list
  rw [if_neg (by rw [many2 hl]; decide), if_neg]
  · rfl
  · intro h
    obtain ⟨z, hz, h⟩ := List.any_eq_true.1 h
    simp [hc z hz] at h
theorem mem_rl {l : List Zn} (hc : ∀ z, z ∈ l → Zo.chk z = 0) {long n : Int} (hl : 1 ≤ long ∧ long ≤ 16) : n ∈ rl l long ↔ n ∈ regs long ∧ Pts l (rep n long) := by
  unfold rl
  rw [Rg.mem_up (fun x h => Rg.inL_in h)]
  constructor
  · intro h
    exact ⟨inL_reg h, (inL_pts hc hl (inL_reg h)).1 h⟩
  · rintro ⟨h1, h2⟩
    exact (inL_pts hc hl h1).2 h2
theorem rl_rising (l : List Zn) (long : Int) : (rl l long).Pairwise fun x y => x < y := Rg.up_rising _ _
theorem rising_eq : ∀ {l m : List Int}, l.Pairwise (fun x y => x < y) → m.Pairwise (fun x y => x < y) → (∀ x, x ∈ l ↔ x ∈ m) → l = m
  | [], [], _, _, _ => rfl
  | [], y :: m, _, _, h => by have := (h y).2 (by simp); simp at this
  | x :: l, [], _, _, h => by have := (h x).1 (by simp); simp at this
  | x :: l, y :: m, hl, hm, h => by
    rw [List.pairwise_cons] at hl hm
    have hxy : x = y := by
      have h1 := (h x).1 (by simp)
      have h2 := (h y).2 (by simp)
      rcases List.mem_cons.1 h1 with e | h1
      · exact e
      · rcases List.mem_cons.1 h2 with e | h2
        · exact e.symm
        · have := hl.1 y h2; have := hm.1 x h1; omega
    subst hxy
    congr 1
    refine rising_eq hl.2 hm.2 fun z => ?_
    constructor
    · intro hz
      rcases List.mem_cons.1 ((h z).1 (by simp [hz])) with e | h1
      · have := hl.1 z hz; omega
      · exact h1
    · intro hz
      rcases List.mem_cons.1 ((h z).2 (by simp [hz])) with e | h1
      · have := hm.1 z hz; omega
      · exact h1
theorem may_rising {l : List Int} {long : Int} (hl : 1 ≤ long ∧ long ≤ 16) (h : l.Pairwise fun x y => x < y) (hr : ∀ x, x ∈ l → x ∈ regs long) : Rg.mayL l long = true := by
  unfold Rg.mayL Rg.mayTo
  rw [List.all_eq_true]
  intro k hk
  have hk := List.mem_range.1 hk
  unfold Rg.mayAt
  rw [List.getElem?_eq_getElem hk, Option.getD_some]
  have hR := mem_regs.1 (hr _ (List.getElem_mem hk))
  generalize hx : l[k] = x at hR
  unfold Rg.isR at hR
  simp only [Bool.and_eq_true, decide_eq_true_eq] at hR
  have ha : (Rg.askPoint x long).2 = 0 := by
    unfold Rg.askPoint
    rw [if_neg (by rw [many2 hl]; omega), if_pos hR.2]
  rw [decide_eq_true ha, Bool.true_and]
  by_cases h0 : k = 0
  · rw [decide_eq_true h0]; rfl
  · rw [List.getElem?_eq_getElem (by omega), Option.getD_some]
    rw [List.pairwise_iff_getElem] at h
    have := h (k - 1) k (by omega) hk (by omega)
    rw [hx] at this
    rw [decide_eq_true this, Bool.or_true]
theorem may_rl {l : List Zn} (hc : ∀ z, z ∈ l → Zo.chk z = 0) {long : Int} (hl : 1 ≤ long ∧ long ≤ 16) : Rg.mayL (rl l long) long = true := may_rising hl (rl_rising l long) fun x hx => ((mem_rl hc hl).1 hx).1
theorem time_fr {p a o : Int} (hp : 0 ≤ p ∧ p ≤ 32) (h : (a = 1 ∧ o = 3) ∨ (a = 2 ∧ o = 3) ∨ (a = 1 ∧ o = 2)) : fr (Fr.v (Rg.time p a o)) = 0 ∨ fr (Fr.v (Rg.time p a o)) = ((a : Int) : Rat) / ((o : Int) : Rat) := by
  have key : ∀ (a o : Int), ((List.range 33).all fun n : Nat => decide (fr (Fr.v (Rg.time n a o)) = 0) || decide (fr (Fr.v (Rg.time n a o)) = ((a : Int) : Rat) / ((o : Int) : Rat))) = true → fr (Fr.v (Rg.time p a o)) = 0 ∨ fr (Fr.v (Rg.time p a o)) = ((a : Int) : Rat) / ((o : Int) : Rat) := fun a o h => by
    have := List.all_eq_true.1 h p.toNat (List.mem_range.2 (by omega))
    rw [Int.toNat_of_nonneg hp.1] at this
    simpa using this
  rcases h with ⟨rfl, rfl⟩ | ⟨rfl, rfl⟩ | ⟨rfl, rfl⟩
  · exact key 1 3 (by decide +kernel)
  · exact key 2 3 (by decide +kernel)
  · exact key 1 2 (by decide +kernel)
theorem rep_fr {long n : Int} (hl : 1 ≤ long ∧ long ≤ 16) (hn : n ∈ regs long) :
    (fr (rep n long 1) = 0 ∨ fr (rep n long 1) = 1/3 ∨ fr (rep n long 1) = 1/2 ∨ fr (rep n long 1) = 2/3) ∧ (fr (rep n long 2) = 0 ∨ fr (rep n long 2) = 1/3 ∨ fr (rep n long 2) = 1/2 ∨ fr (rep n long 2) = 2/3) ∧
    ((fr (rep n long 1) = 1/2 → fr (rep n long 2) = 0 ∨ fr (rep n long 2) = 1/2) ∧ (fr (rep n long 2) = 1/2 → fr (rep n long 1) = 0 ∨ fr (rep n long 1) = 1/2)) := by
  obtain ⟨ht, hu, hnum, h0, _⟩ := reg_pt hl hn
  obtain ⟨_, h1⟩ := isR_lt (mem_regs.1 hn)
  have hs : Rg.sides long = 2 * long + 1 := rfl
  rw [Rg.many_doc hl] at h1
  simp only at h1
  have hT : 0 ≤ n / 3 / Rg.sides long ∧ n / 3 / Rg.sides long ≤ 32 := by
    have a1 : 0 ≤ n / 3 / Rg.sides long := Int.ediv_nonneg (Int.ediv_nonneg h0 (by omega)) (by omega)
    have a2 : n / 3 / Rg.sides long < Rg.sides long := by
      refine Int.ediv_lt_of_lt_mul (by omega) ?_
      have : n < 3 * (Rg.sides long * Rg.sides long) := by rw [hs, ← Int.mul_assoc]; exact h1
      omega
    omega
  have hU : 0 ≤ n / 3 % Rg.sides long ∧ n / 3 % Rg.sides long ≤ 32 := by
    have a1 := Int.emod_nonneg (n / 3) (b := Rg.sides long) (by omega)
    have a2 := Int.emod_lt_of_pos (n / 3) (b := Rg.sides long) (by omega)
    omega
  have e1 : rep n long 1 = Fr.v (Rg.time (n / 3 / Rg.sides long) (Rg.parts (n % 3)).1 (Rg.parts (n % 3)).2.2) := tvs_one _ _
  have e2 : rep n long 2 = Fr.v (Rg.time (n / 3 % Rg.sides long) (Rg.parts (n % 3)).2.1 (Rg.parts (n % 3)).2.2) := tvs_two _ _
  have c1 : (((1 : Int) : Rat) / ((3 : Int) : Rat)) = 1/3 := by decide +kernel
  have c2 : (((2 : Int) : Rat) / ((3 : Int) : Rat)) = 2/3 := by decide +kernel
  have c3 : (((1 : Int) : Rat) / ((2 : Int) : Rat)) = 1/2 := by decide +kernel
  have n1 : (1 : Rat)/3 ≠ 1/2 := by decide +kernel
  have n2 : (2 : Rat)/3 ≠ 1/2 := by decide +kernel
  have n3 : (0 : Rat) ≠ 1/2 := by decide +kernel
  rw [e1, e2]
  generalize n / 3 / Rg.sides long = T at *
  generalize n / 3 % Rg.sides long = U at *
  have p0 : Rg.parts 0 = (1, 2, 3) := rfl
  have p1 : Rg.parts 1 = (1, 1, 2) := rfl
  have p2 : Rg.parts 2 = (2, 1, 3) := rfl
  clear e1 e2
  rcases (by omega : n % 3 = 0 ∨ n % 3 = 1 ∨ n % 3 = 2) with h | h | h <;> rw [h] <;> simp only [p0, p1, p2]
  · have q1 := time_fr (a := 1) (o := 3) hT (by omega)
    have q2 := time_fr (a := 2) (o := 3) hU (by omega)
    rw [c1] at q1
    rw [c2] at q2
    refine ⟨by rcases q1 with e | e <;> simp [e], by rcases q2 with e | e <;> simp [e], fun e => ?_, fun e => ?_⟩
    · exact absurd e (by rcases q1 with e | e <;> rw [e] <;> assumption)
    · exact absurd e (by rcases q2 with e | e <;> rw [e] <;> assumption)
  · have q1 := time_fr (a := 1) (o := 2) hT (by omega)
    have q2 := time_fr (a := 1) (o := 2) hU (by omega)
    rw [c3] at q1 q2
    exact ⟨by rcases q1 with e | e <;> simp [e], by rcases q2 with e | e <;> simp [e], fun _ => q2, fun _ => q1⟩
  · have q1 := time_fr (a := 2) (o := 3) hT (by omega)
    have q2 := time_fr (a := 1) (o := 3) hU (by omega)
    rw [c2] at q1
    rw [c1] at q2
    refine ⟨by rcases q1 with e | e <;> simp [e], by rcases q2 with e | e <;> simp [e], fun e => ?_, fun e => ?_⟩
    · exact absurd e (by rcases q1 with e | e <;> rw [e] <;> assumption)
    · exact absurd e (by rcases q2 with e | e <;> rw [e] <;> assumption)
theorem six_v {k : Nat} (hk : k < 97) : Fr.v (Rg.six k) = (k : Rat) / 6 := by
  have h : ((List.range 97).all fun n : Nat => decide (Fr.v (Rg.six n) = (n : Rat) / 6)) = true := by decide +kernel
  have := List.all_eq_true.1 h k (List.mem_range.2 hk)
  exact of_decide_eq_true this
end Ky
end Go.Proofs.YtjbhpfmnfdebkaaGreat

namespace Go.Proofs.YtjbhpfmnfdebkaaGreat
set_option linter.unusedVariables false
set_option linter.unusedSimpArgs false
open Go.RowKit Go.Proofs.YtjbhpfmnfdebkaaGreat.Eng Enc
namespace Ky
open Dbm Mi Cv Zs Cmp
def Ah (l : List Zn) : Prop := ∀ z, z ∈ l → Zo.chk z = 0 ∧ z.f ≤ 0
theorem Ah.chk {l : List Zn} (h : Ah l) : ∀ z, z ∈ l → Zo.chk z = 0 := fun z hz => (h z hz).1
theorem ahead_lt {z : Zn} (h : z.f ≤ 0) {t : Nat → Rat} (ht : Fz z t) : t 1 < t 2 := by
  have k := (fz_iff z t).1 ht
  have k5 := satO_below (k 5 (by decide)) (show Zo.get z 5 ≤ 0 from h) (by decide)
  have s0 : Bd.st 0 = true := by decide
  unfold satO at k5
  simp only [s0, if_true] at k5
  have e0 : (((0 : Int) / 2 : Int) : Rat) = 0 := by decide +kernel
  rw [e0] at k5
  have d5 : dif 5 t = t 1 - t 2 := rfl
  rw [d5] at k5
  grind
def sx (k : Nat) : Rat := (k : Rat) / 6
theorem sx_split (f g : Nat) (hg : g < 6) : (sx (6 * f + g)).floor = f ∧ fr (sx (6 * f + g)) = (g : Rat) / 6 := by
  have h0 : (0 : Rat) ≤ (g : Rat) := by exact_mod_cast Nat.zero_le g
  have h1 : (g : Rat) ≤ 5 := by exact_mod_cast (by omega : g ≤ 5)
  have e : sx (6 * f + g) = ((f : Int) : Rat) + (g : Rat) / 6 := by
    unfold sx
    have : ((6 * f + g : Nat) : Rat) = 6 * ((f : Int) : Rat) + (g : Rat) := by norm_cast
    rw [this]; grind
  rw [e]
  exact fl_add (by grind) (by grind)
theorem six_between {long n : Int} (hl : 1 ≤ long ∧ long ≤ 16) (hn : n ∈ regs long) {s : Rat} (h1 : rep n long 1 < s) (h2 : s < rep n long 2) :
    ∃ k : Nat, (k : Int) < 6 * long + 1 ∧ Alike (t3 0 (rep n long 1) s) (t3 0 (rep n long 1) (sx k)) ∧ Alike (t3 0 s (rep n long 2)) (t3 0 (sx k) (rep n long 2)) := by
  obtain ⟨_, _, _, _, r1, r2, r3⟩ := reg_pt hl hn
  obtain ⟨p1, p2, p3⟩ := rep_fr hl hn
  generalize rep n long 1 = T at *
  generalize rep n long 2 = U at *
  have hs0 : 0 ≤ s := by grind
  obtain ⟨g, hg, q1, q2, q3, q4, q5⟩ := sixth_of (r := fr s) p1 p2 p3 (fr_nonneg s) (fr_lt s)
  have f0 : 0 ≤ s.floor := Rat.le_floor_iff.2 (by rw [Rat.intCast_zero]; exact hs0)
  have f1 : s.floor < long := Rat.floor_lt_iff.2 (by grind)
  obtain ⟨f, hf⟩ : ∃ f : Nat, s.floor = f := ⟨s.floor.toNat, by omega⟩
  obtain ⟨x1, x2⟩ := sx_split f g hg
  have z : fr (0 : Rat) = 0 := fr_int 0
  have nT := fr_nonneg T
  have nU := fr_nonneg U
  have ns := fr_nonneg s
  have ng : 0 ≤ (g : Rat) / 6 := by rw [← x2]; exact fr_nonneg _
  have c0 : ∀ a b : Rat, t3 0 a b 0 = 0 := fun a b => rfl
  have c1 : ∀ a b : Rat, t3 0 a b 1 = a := fun a b => rfl
  have c2 : ∀ a b : Rat, t3 0 a b 2 = b := fun a b => rfl
  refine ⟨6 * f + g, by omega, ⟨fun i hi => ?_, fun i j hi hj => ?_⟩, ⟨fun i hi => ?_, fun i j hi hj => ?_⟩⟩
  · rcases (by omega : i = 0 ∨ i = 1 ∨ i = 2) with rfl | rfl | rfl
    · rfl
    · rfl
    · rw [c2, c2, x1, hf]; rfl
  · rcases (by omega : i = 0 ∨ i = 1 ∨ i = 2) with rfl | rfl | rfl <;> rcases (by omega : j = 0 ∨ j = 1 ∨ j = 2) with rfl | rfl | rfl <;> simp only [c0, c1, c2, x2, z]
    · exact ⟨fun _ => ng, fun _ => ns⟩
    · exact q2
    · exact q5
    · exact q1
    · exact ⟨fun _ => Rat.le_refl, fun _ => Rat.le_refl⟩
  · rcases (by omega : i = 0 ∨ i = 1 ∨ i = 2) with rfl | rfl | rfl
    · rfl
    · rw [c1, c1, x1, hf]; rfl
    · rfl
  · rcases (by omega : i = 0 ∨ i = 1 ∨ i = 2) with rfl | rfl | rfl <;> rcases (by omega : j = 0 ∨ j = 1 ∨ j = 2) with rfl | rfl | rfl <;> simp only [c0, c1, c2, x2, z]
    · exact ⟨fun _ => ng, fun _ => ns⟩
    · exact q5
    · exact ⟨fun _ => Rat.le_refl, fun _ => Rat.le_refl⟩
    · exact q3
    · exact q4
theorem fz_ext (z : Zn) {t t' : Nat → Rat} (h0 : t 0 = t' 0) (h1 : t 1 = t' 1) (h2 : t 2 = t' 2) : Fz z t ↔ Fz z t' := by
  have e : ∀ i, i < 3 → t i = t' i := fun i hi => by rcases (by omega : i = 0 ∨ i = 1 ∨ i = 2) with rfl | rfl | rfl <;> assumption
  unfold Fz Dbm.Fits
  constructor
  · intro h i j hi hj; rw [← e i hi, ← e j hj]; exact h i j hi hj
  · intro h i j hi hj; rw [e i hi, e j hj]; exact h i j hi hj
theorem tvs_t3 (z : Zn) (a b : Rt) {x y : Rat} (h1 : Fr.v a = x) (h2 : Fr.v b = y) : Fz z (Dbm.tvs [a, b]) ↔ Fz z (t3 0 x y) := fz_ext z (t := Dbm.tvs [a, b]) (t' := t3 0 x y) (tvs_zero _) h1 h2
theorem btw_pts {a b : List Zn} (ha : Ah a) (hb : Ah b) {long n : Int} (hl : 1 ≤ long ∧ long ≤ 16) (hn : n ∈ regs long) : Rg.btw (rl a long) (rl b long) long n = true ↔ Thru (Pts a) (Pts b) (rep n long) := by
  obtain ⟨ht, hu, hnum, h0, r1, r2, r3⟩ := reg_pt hl hn
  have e1 : rep n long 1 = Fr.v (Rg.pt n long).t := tvs_one _ _
  have e2 : rep n long 2 = Fr.v (Rg.pt n long).u := tvs_two _ _
  have e0 : rep n long 0 = 0 := tvs_zero _
  unfold Rg.btw
  rw [mem_regs.1 hn, Bool.true_and, List.any_eq_true]
  constructor
  · rintro ⟨k, hk, h⟩
    have hk := List.mem_range.1 hk
    have hk97 : k < 97 := by omega
    simp only [Bool.and_eq_true, decide_eq_true_eq] at h
    obtain ⟨hA, hB⟩ := h
    obtain ⟨s1, s2, _, _⟩ := Rg.six_at hk97
    have hA' := (mem_rl ha.chk hl).1 hA
    have hB' := (mem_rl hb.chk hl).1 hB
    have nA := num_rep (p := ⟨(Rg.pt n long).t, Rg.six k⟩) hl ht s2 (isR_lt (mem_regs.1 hA'.1)).1
    have nB := num_rep (p := ⟨Rg.six k, (Rg.pt n long).u⟩) hl s2 hu (isR_lt (mem_regs.1 hB'.1)).1
    refine ⟨Fr.v (Rg.six k), ?_, ?_⟩
    · obtain ⟨z, hz, hf⟩ := hA'.2
      exact ⟨z, hz, by rw [e0]; exact (tvs_t3 z (Rg.pt n long).t (Rg.six k) e1.symm rfl).1 ((nA.2 z).2 hf)⟩
    · obtain ⟨z, hz, hf⟩ := hB'.2
      exact ⟨z, hz, by rw [e0]; exact (tvs_t3 z (Rg.six k) (Rg.pt n long).u rfl e2.symm).1 ((nB.2 z).2 hf)⟩
  · rintro ⟨s, ⟨z, hz, hf⟩, ⟨y, hy, hg⟩⟩
    have l1 := ahead_lt (ha z hz).2 hf
    have l2 := ahead_lt (hb y hy).2 hg
    have l1' : rep n long 1 < s := l1
    have l2' : s < rep n long 2 := l2
    obtain ⟨k, hk, A1, A2⟩ := six_between hl hn l1' l2'
    rw [e0] at hf hg
    have hk97 : k < 97 := by omega
    obtain ⟨s1, s2, _, _⟩ := Rg.six_at hk97
    have hv := six_v hk97
    have hf' := (A1.fz z).1 hf
    have hg' := (A2.fz y).1 hg
    have m1 := ahead_lt (ha z hz).2 hf'
    have m2 := ahead_lt (hb y hy).2 hg'
    have m1' : rep n long 1 < sx k := m1
    have m2' : sx k < rep n long 2 := m2
    have hvs : Fr.v (Rg.six k) = sx k := hv
    refine ⟨k, List.mem_range.2 (by omega), ?_⟩
    simp only [Bool.and_eq_true, decide_eq_true_eq]
    constructor
    · have p0 : 0 ≤ Rg.number ⟨(Rg.pt n long).t, Rg.six k⟩ long := num_of hl ht s2 r1 (by show Fr.v (Rg.pt n long).t < Fr.v (Rg.six k); rw [hvs]; exact m1') (by show Fr.v (Rg.six k) ≤ _; rw [hvs]; grind)
      obtain ⟨q1, q2⟩ := num_rep (p := ⟨(Rg.pt n long).t, Rg.six k⟩) hl ht s2 p0
      exact (mem_rl ha.chk hl).2 ⟨q1, z, hz, (q2 z).1 ((tvs_t3 z (Rg.pt n long).t (Rg.six k) e1.symm hvs).2 hf')⟩
    · have p0 : 0 ≤ Rg.number ⟨Rg.six k, (Rg.pt n long).u⟩ long := num_of hl s2 hu (by show 0 ≤ Fr.v (Rg.six k); rw [hvs]; grind) (by show Fr.v (Rg.six k) < Fr.v (Rg.pt n long).u; rw [hvs]; exact m2') r3
      obtain ⟨q1, q2⟩ := num_rep (p := ⟨Rg.six k, (Rg.pt n long).u⟩) hl s2 hu p0
      exact (mem_rl hb.chk hl).2 ⟨q1, y, hy, (q2 y).1 ((tvs_t3 y (Rg.six k) (Rg.pt n long).u hvs e2.symm).2 hg')⟩
theorem comp_rl {a b : List Zn} (ha : Ah a) (hb : Ah b) (h : (Zs.comp a b).2 = 0) {long : Int} (hl : 1 ≤ long ∧ long ≤ 16) : Rg.comp (rl a long) (rl b long) long = (rl (Zs.comp a b).1 long, 0) := by
  obtain ⟨hF, hP⟩ := comp_pts h
  unfold Rg.comp
  rw [if_neg (by rw [Rg.fits_iff.2 hl]; decide), if_pos ⟨may_rl ha.chk hl, may_rl hb.chk hl⟩]
  congr 1
  refine rising_eq (Rg.up_rising _ _) (rl_rising _ _) fun x => ?_
  have hbR : ∀ x, Rg.btw (rl a long) (rl b long) long x = true → x ∈ regs long := fun x hx => by
    unfold Rg.btw at hx
    simp only [Bool.and_eq_true] at hx
    exact mem_regs.2 hx.1
  rw [Rg.mem_up (fun x hx => isR_lt (mem_regs.1 (hbR x hx))), mem_rl hF.2.1 hl]
  constructor
  · intro hx
    exact ⟨hbR x hx, (hP _).2 ((btw_pts ha hb hl (hbR x hx)).1 hx)⟩
  · rintro ⟨h1, h2⟩
    exact (btw_pts ha hb hl h1).2 ((hP _).1 h2)
end Ky
end Go.Proofs.YtjbhpfmnfdebkaaGreat

namespace Go.Proofs.YtjbhpfmnfdebkaaGreat
set_option linter.unusedVariables false
set_option linter.unusedSimpArgs false
set_option maxRecDepth 100000
open Go.RowKit Go.Proofs.YtjbhpfmnfdebkaaGreat.Eng Enc

theorem indexFunc_any (l : List Int) (so : Int → Bool) (p1 p2 : Option Addr) (a : Option Addr) (ca : Nat) (w : World) (hS : Sl w.heap.size w (.slice a l.length ca) l)
    (hF : ∀ x, x ∈ l → ∀ W, Below w.heap.size w W → Calls Tryz.prog 159 #[.int .i64 x, .pointer p1, .pointer p2] W fun e w' => e = .returned (.bool (so x)) ∧ Below W.heap.size W w') :
    Calls Tryz.prog 222 #[.slice a l.length ca, .func (.func 159) #[] #[.pointer p1, .pointer p2]] w (Ret w fun v w' => (v = .int .i64 (-1) ∧ ∀ y, y ∈ l → so y = false) ∨ ∃ i x, v = .int .i64 ((i : Nat) : Int) ∧ l[i]? = some x ∧ so x = true ∧ ∀ y, y ∈ l.take i → so y = false) := by
  refine fun_ret 0 w Tryz.func222 (args := [.val (.slice a l.length ca), .fn 159 [.val (.pointer p1), .val (.pointer p2)]]) rfl rfl ?_
  obtain ⟨_, _, hfe, hcap1, hcap2, _⟩ := hS.form
  injection hfe with _ _ hfe
  subst hfe
  unfold maxLen at hcap2
  refine LoopI.invC (α := Nat × World) (fun y => [(8, .val (.int .i64 y.1))]) (fun y => y.2) (fun y => y.1 ≤ l.length ∧ Below w.heap.size w y.2 ∧ ∀ x, x ∈ l.take y.1 → so x = false) (fun y => l.length - y.1) ?_ ?_
  · intro w5 h5
    exact ⟨(0, w5), Cov.mk (by repeat' (first | exact trivial | refine And.intro rfl ?_)) rfl rfl rfl rfl rfl, rfl, Nat.zero_le _, h5.below, by simp⟩
  rintro ⟨k, V⟩ ⟨hk, hV, hno⟩
  simp only at hk hV hno
  refine Branch.mk (fun hc2 => ?_) (fun hc2 => ?_)
  · have hlt : k < l.length := by have := of_decide_eq_true hc2; simp only at this; omega
    have hx := List.getElem?_eq_getElem (l := l) (i := k) hlt
    have hxm := List.getElem_mem hlt
    generalize l[k] = x at hx hxm
    have hts : l.take (k + 1) = l.take k ++ [x] := by rw [List.take_add_one, hx]; rfl
    have hSV := hS.go hV hV.size
    refine hSV.idx hx fun ad had => ?_
    refine hSV.ld1 hx had (Below.refl _ _) (by simp) ?_
    apply CallI.use1
    focus (exact fun w5 h5 => hF x hxm w5 h5.below)
    intro w5 v5 h5 hB5
    refine Branch.mk (fun c1 => ?_) (fun c1 => ?_)
    · exact EndI.mk fun w9 h9 => .inr ⟨k, x, rfl, hx, c1, hno⟩
    · refine Need.mk (by simp only [inK]; omega) (EndI.mk fun w11 h11 => ⟨(k + 1, w11), Cov.mk (by repeat' (first | exact trivial | refine And.intro rfl ?_)) rfl rfl rfl rfl rfl, rfl, ⟨hlt, h11.below, fun y hy => ?_⟩, by simp only; omega⟩)
      rw [hts] at hy
      rcases List.mem_append.1 hy with h | h
      · exact hno y h
      · rw [List.mem_singleton.1 h]; exact c1
  · have hge : k = l.length := by have := of_decide_eq_false hc2; simp only at this; omega
    subst hge
    rw [List.take_length] at hno
    exact EndI.mk fun w9 h9 => .inl ⟨rfl, hno⟩
theorem cellsIntD (l : List Int) : cellsL l = l.map (Value.int .i64) := by
  induction l with
  | nil => rfl
  | cons x l ih => simp only [cellsL, ih, List.map_cons]; rfl
theorem Own.setAt {base : Nat} {W : World} {g n cap : Nat} {l : List Int} (h : Own TKi base W (.slice (some ⟨g, 0, none⟩) n cap) l) {k : Nat} (hk : k < l.length) (x : Int) : Own TKi base (W.setCell ⟨g, k, none⟩ (.int .i64 x)) (.slice (some ⟨g, 0, none⟩) n cap) (l.set k x) := by
  obtain ⟨rfl, hb, hlt, cur, hg, hn, hm, hs, ht⟩ := h.at0
  refine ⟨by rw [cellsL_len, List.length_set], .inr ⟨g, cap, cur.setIfInBounds k (.int .i64 x), by rw [List.length_set], hb, ?_, by rw [List.length_set]; exact hn, hm, by simpa using hs, ?_⟩⟩
  · simp only [World.setCell]
    rw [Array.getElem?_modify, if_pos rfl, hg]
    rfl
  · rw [cellsIntD] at ht ⊢
    rw [List.length_set, Array.toList_setIfInBounds, List.take_set, ht, List.map_set]
theorem Own.cellAt {base : Nat} {W : World} {g n cap : Nat} {l : List Int} (h : Own TKi base W (.slice (some ⟨g, 0, none⟩) n cap) l) {k : Nat} {x : Int} (hk : l[k]? = some x) : W.cell? ⟨g, k, none⟩ = some (.int .i64 x) ∧ W.frozen? ⟨g, k, none⟩ = false := by
  obtain ⟨rfl, hb, hlt, cur, hg, hn, hm, hs, ht⟩ := h.at0
  have hkl := (List.getElem?_eq_some_iff.1 hk).1
  rw [cellsIntD] at ht
  have e : (cur.toList.take (l.length * size Int))[k]? = some (.int .i64 x) := by rw [ht, List.getElem?_map, hk]; rfl
  rw [List.getElem?_take_of_lt (by show k < l.length * 1; omega), Array.getElem?_toList] at e
  exact ⟨by simp [World.cell?, hg, e], by simp [World.frozen?, hg]⟩
end Go.Proofs.YtjbhpfmnfdebkaaGreat

namespace Go.Proofs.YtjbhpfmnfdebkaaGreat
set_option linter.unusedVariables false
set_option linter.unusedSimpArgs false
set_option maxRecDepth 100000
open Go.RowKit Go.Proofs.YtjbhpfmnfdebkaaGreat.Eng Enc

theorem tyDI2 : TyOk Tryz.prog TKi ⟨[.int .i64 0], false⟩ := tyOk_one Tryz.zeroValue3 Tryz.sizeOf3 Tryz.isAgg3 rfl
def dfF (so : Int → Bool) (l : List Int) (j : Nat) : List Int := (l.take j).filter fun x => !so x
theorem dfF_step {so : Int → Bool} {l : List Int} {j : Nat} {x : Int} (hx : l[j]? = some x) : dfF so l (j + 1) = if so x = true then dfF so l j else dfF so l j ++ [x] := by
  unfold dfF
  rw [List.take_add_one, hx, List.filter_append]
  cases h : so x <;> simp [h]
set_option maxHeartbeats 1000000 in
theorem deleteFunc_any (l : List Int) (so : Int → Bool) (p1 p2 : Option Addr) (g cap base B : Nat) (w : World) (hB : B ≤ w.heap.size) (hg : B ≤ g) (hO : Own TKi base w (.slice (some ⟨g, 0, none⟩) l.length cap) l) (hlen : l.length ≤ 1000000)
    (hF : ∀ x, x ∈ l → ∀ W, w.grownBy W (some g) → Calls Tryz.prog 159 #[.int .i64 x, .pointer p1, .pointer p2] W fun e w' => e = .returned (.bool (so x)) ∧ Below W.heap.size W w') :
    Calls Tryz.prog 157 #[.slice (some ⟨g, 0, none⟩) l.length cap, .func (.func 159) #[] #[.pointer p1, .pointer p2]] w fun e w' => ∃ v, e = .returned v ∧ Below B w w' ∧ v = .slice (some ⟨g, 0, none⟩) (dfF so l l.length).length cap ∧ Own TKi base w' (.slice (some ⟨g, 0, none⟩) (dfF so l l.length).length cap) (dfF so l l.length) ∧ w.grownBy w' (some g) := by
  obtain ⟨_, hbg, hgl, cur0, _, hcap, hmax, _, _⟩ := hO.at0
  have hm : cap ≤ 9223372036854775807 := by unfold maxLen at hmax; omega
  refine fun_at 0 B w hB Tryz.func157 (args := [.val (.slice (some ⟨g, 0, none⟩) l.length cap), .fn 159 [.val (.pointer p1), .val (.pointer p2)]]) rfl rfl ?_
  apply CallI.use
  focus (exact fun w1 h1 => indexFunc_any l so p1 p2 (some ⟨g, 0, none⟩) cap w1 (hO.below (at_belowM h1 (by simp))).sl (fun x hx W hW => hF x hx W (grown_below (grown_below (grown_refl w (some g)) (at_belowM h1 (by simp))) hW)))
  rintro v w1 v1 h1 hB1 hidx
  have g1 : w.grownBy v1 (some g) := grown_below (grown_below (grown_refl w (some g)) (at_belowM h1 (by simp))) hB1
  have hO1 := (hO.below (at_belowM h1 (by simp))).below hB1
  rcases hidx with ⟨rfl, hall⟩ | ⟨i, x0, rfl, hi0, hso, hall⟩
  · refine Branch.yes rfl ?_
    have he : dfF so l l.length = l := by
      unfold dfF
      rw [List.take_length, List.filter_eq_self]
      intro y hy; rw [hall y hy]; rfl
    rw [he]
    exact EndI.mk fun w9 h9 => ⟨rfl, hO1.below (at_belowM h9 (by simp)), grown_below g1 (at_belowM h9 (by simp))⟩
  · have hil := (List.getElem?_eq_some_iff.1 hi0).1
    refine Branch.no (by simp) ?_
    refine Need.mk (by simp only [inK]; omega) ?_
    have hFi : dfF so l i = l.take i := by
      unfold dfF
      rw [List.filter_eq_self]
      intro y hy; rw [hall y hy]; rfl
    have hFi1 : dfF so l (i + 1) = l.take i := by rw [dfF_step hi0, if_pos hso, hFi]
    refine LoopI.invC (α := Nat × Nat × World) (fun y => [(6, .val (.int .i64 (y.1 : Nat))), (5, .val (.int .i64 (y.2.1 : Nat)))]) (fun y => y.2.2) (fun y => i + 1 ≤ y.1 ∧ y.1 ≤ l.length ∧ Below B w y.2.2 ∧ w.grownBy y.2.2 (some g) ∧ (dfF so l y.1).length < y.1 ∧ y.2.1 = (dfF so l y.1).length ∧ Own TKi base y.2.2 (.slice (some ⟨g, 0, none⟩) l.length cap) (dfF so l y.1 ++ l.drop (dfF so l y.1).length)) (fun y => l.length - y.1) ?_ ?_
    · intro w5 h5
      refine ⟨(i + 1, i, w5), Cov.mk (by repeat' (first | exact trivial | refine And.intro rfl ?_)) rfl rfl rfl rfl rfl, rfl, Nat.le_refl _, by simp only; omega, h5.below, grown_below g1 (at_belowM h5 (by simp)), ?_, by simp only [hFi1]; rw [List.length_take]; omega, ?_⟩
      · simp only [hFi1]; rw [List.length_take]; omega
      · have : dfF so l (i + 1) ++ l.drop (dfF so l (i + 1)).length = l := by
          rw [hFi1, List.length_take, Nat.min_eq_left (by omega)]; exact List.take_append_drop i l
        simp only [this]
        exact hO1.below (at_belowM h5 (by simp))
    rintro ⟨j, c, V⟩ ⟨hij, hjl, hV, gV, hlt, hc, hOV⟩
    simp only at hij hjl hV gV hlt hc hOV
    refine Branch.mk (fun hc2 => ?_) (fun hc2 => ?_)
    · have hjl' : j < l.length := by have := of_decide_eq_true hc2; simp only at this; omega
      have hx := List.getElem?_eq_getElem (l := l) (i := j) hjl'
      have hxm := List.getElem_mem hjl'
      generalize l[j] = x at hx hxm
      have hes := dfF_step (so := so) hx
      have hxV : (dfF so l j ++ l.drop (dfF so l j).length)[j]? = some x := by
        rw [List.getElem?_append_right (by omega), List.getElem?_drop, show (dfF so l j).length + (j - (dfF so l j).length) = j by omega]
        exact hx
      have hSV := hOV.sl
      refine hSV.idx hxV fun ad had => ?_
      refine hSV.ld1 hxV had (Below.refl _ _) (by simp) ?_
      apply CallI.use1
      focus (exact fun w5 h5 => hF x hxm w5 (grown_below gV (at_belowM h5 (by simp))))
      intro w5 v5 h5 hB5
      have g5 : w.grownBy v5 (some g) := grown_below (grown_below gV (at_belowM h5 (by simp))) hB5
      have hO5 := (hOV.below (at_belowM h5 (by simp))).below hB5
      have hV5 : Below B w v5 := h5.below.trans (hB5.mono (Nat.le_trans hB h5.below.size))
      refine Branch.mk (fun c1 => ?_) (fun c1 => ?_)
      · have c1' : so x = false := by simpa using c1
        rw [if_neg (by rw [c1']; decide)] at hes
        have hcl : c < l.length := by omega
        refine IdxI.mk ⟨_, ⟨rfl, by omega, by simp only; omega⟩, ?_⟩
        refine StoreI.mk fun w6 h6 => ?_
        rw [show ((⟨g, 0, none⟩ : Addr).add ((c : Int).toNat * 1)) = ⟨g, c, none⟩ by simp [addr_addL]]
        have hO6 := hO5.below (at_belowM h6 (by simp))
        have hll : c < (dfF so l j ++ l.drop (dfF so l j).length).length := by
          rw [List.length_append, List.length_drop]; omega
        obtain ⟨q1, q2⟩ := hO6.cellAt (List.getElem?_eq_getElem hll)
        refine ⟨⟨⟨_, q1⟩, q2⟩, keep_set hg (by simp), ?_⟩
        have hO7 := hO6.setAt hll x
        have hls : (dfF so l j ++ l.drop (dfF so l j).length).set c x = dfF so l (j + 1) ++ l.drop (dfF so l (j + 1)).length := by
          rw [hes, hc, List.set_append_right _ _ (Nat.le_refl _), Nat.sub_self, List.length_append, List.append_assoc]
          congr 1
          rw [List.drop_eq_getElem_cons (by omega : (dfF so l j).length < l.length)]
          rfl
        have g7 : w.grownBy (w6.setCell ⟨g, c, none⟩ (.int .i64 x)) (some g) := by
          have e := grown_below g5 (at_belowM h6 (by simp))
          exact grown_trans e ⟨rfl, rfl, rfl, by simp [World.setCell], fun k _ hk => setCell_neM (fun h => hk (by rw [h]))⟩
        have hV7 : Below B w (w6.setCell ⟨g, c, none⟩ (.int .i64 x)) := h6.below.setCell (p := ⟨g, c, none⟩) hg _
        rw [hls] at hO7
        generalize w6.setCell ⟨g, c, none⟩ (.int .i64 x) = w7 at hO7 g7 hV7
        refine Need.mk (by simp only [inK]; omega) ?_
        refine Need.mk (by simp only [inK]; omega) (EndI.mk fun w8 h8 => ⟨(j + 1, c + 1, w8), Cov.mk (by repeat' (first | exact trivial | refine And.intro rfl ?_)) rfl rfl rfl rfl rfl, rfl, ⟨by simp only; omega, by simp only; omega, h8.below, grown_below g7 (at_belowM h8 (by simp)), ?_, ?_, hO7.below (at_belowM h8 (by simp))⟩, by simp only; omega⟩)
        · simp only [hes, List.length_append, List.length_singleton]; omega
        · simp only [hes, List.length_append, List.length_singleton]; omega
      · have c1' : so x = true := by simpa using c1
        rw [if_pos c1'] at hes
        refine Need.mk (by simp only [inK]; omega) (EndI.mk fun w8 h8 => ⟨(j + 1, c, w8), Cov.mk (by repeat' (first | exact trivial | refine And.intro rfl ?_)) rfl rfl rfl rfl rfl, rfl, ⟨by simp only; omega, by simp only; omega, h8.below, grown_below g5 (at_belowM h8 (by simp)), ?_, ?_, ?_⟩, by simp only; omega⟩)
        · simp only [hes]; omega
        · simp only [hes]; omega
        · simp only [hes]; exact hO5.below (at_belowM h8 (by simp))
    · have hge : j = l.length := by have := of_decide_eq_false hc2; simp only at this; omega
      subst hge
      have hFl : (dfF so l l.length).length < l.length := hlt
      refine Need.mk ⟨by simp only; omega, by simp only; omega, by omega⟩ ?_
      have hll : (dfF so l l.length ++ l.drop (dfF so l l.length).length).length = l.length := by
        rw [List.length_append, List.length_drop]; omega
      have hT : Own TKi base V (.slice (some ⟨g, 0, none⟩) (dfF so l l.length ++ l.drop (dfF so l l.length).length).length cap) (dfF so l l.length ++ l.drop (dfF so l l.length).length) := by rw [hll]; exact hOV
      have hT := hT.take (dfF so l l.length).length (by rw [hll]; omega)
      rw [List.take_left' rfl] at hT
      have hcF := hc
      generalize dfF so l l.length = F at *
      subst hc
      refine GenN.mk fun w4 h4 => ?_
      have hO4 := hT.below (at_belowM h4 (by simp))
      have g4 : w.grownBy w4 (some g) := grown_below gV (at_belowM h4 (by simp))
      obtain ⟨_, _, hgl4, cur, hc4, _, _, hs4, _⟩ := hO4.at0
      have hroom : F.length * 1 + (l.length - F.length) * 1 ≤ cur.size := by
        have : cur.size = cap * 1 := hs4
        omega
      obtain ⟨vs, hvl, hrun⟩ := run_clear (P := Tryz.prog) (c := cap - F.length) elIn.ht tyDI2 (by decide) (o := F.length * 1) (n := l.length - F.length) hc4 hroom (by omega)
      have hvl' : vs.length = (l.length - F.length) * 1 := hvl
      refine ⟨_, _, hrun _ _ _ ?_, ⟨below_setRow (Below.refl _ _) hg _, fun b hb => by cases hb⟩, ?_⟩
      · show Value.slice (if cap = _ then _ else _) _ _ = _
        rw [if_neg (by simp only [Int.toNat_natCast]; omega)]
        simp only [Int.toNat_natCast, Option.map_some, addr_addL, Nat.zero_add, Value.slice.injEq, true_and]
      refine Need.mk ⟨by omega, by omega, by simp only; omega⟩ ?_
      refine EndI.mk fun w5 h5 => ?_
      have hO5 := (hO4.setRow hc4 (F.length * 1) vs (Nat.le_refl _) (by rw [hvl']; exact hroom)).below (at_belowM h5 (by simp))
      exact ⟨rfl, hO5, grown_below (grown_trans g4 (grown_setRow w4 g _)) (at_belowM h5 (by simp))⟩
end Go.Proofs.YtjbhpfmnfdebkaaGreat

namespace Go.Proofs.YtjbhpfmnfdebkaaGreat
set_option linter.unusedVariables false
set_option linter.unusedSimpArgs false
set_option maxRecDepth 100000
open Go.RowKit Go.Proofs.YtjbhpfmnfdebkaaGreat.Eng Enc

theorem marked_any (l : List Int) (hlen : l.length ≤ 1000000) (hi : ∀ x, x ∈ l → inK .i64 x) (long : Int) (a : Option Addr) (ca : Nat) (w : World) (hS : Sl w.heap.size w (.slice a l.length ca) l) :
    Calls Tryz.prog 83 #[.slice a l.length ca, .int .i64 long] w (Ret w fun v w' => if Rg.mayL l long = true then ∃ b, v = .tuple #[.map (some b), .bool true] ∧ w.heap.size ≤ b ∧ MSet w' b l.length (fun x => decide (x ∈ l)) else v = .tuple #[.map none, .bool false]) := by
  refine fun_ret 0 w Tryz.func83 (args := [.val (.slice a l.length ca), .val (.int .i64 long)]) rfl rfl ?_
  obtain ⟨_, _, hfe, hcap1, hcap2, _⟩ := hS.form
  injection hfe with _ _ hfe
  subst hfe
  unfold maxLen at hcap2
  refine ⟨fun w3 h3 => ⟨_, _, run_makeMap _ w3, KpOk.ok h3 ((Below.refl _ _).alloc (Nat.le_refl _) _), ?_⟩⟩
  have hms := MSet.made w3
  have hb3 : Below w.heap.size w (w3.alloc (.map #[] 0)) := h3.below.alloc h3.below.size _
  have hwb : w.heap.size ≤ w3.heap.size := h3.below.size
  generalize w3.alloc (.map #[] 0) = w4 at hms hb3 ⊢
  generalize w3.heap.size = B at hms hwb ⊢
  refine LoopI.invC (α := Nat × World) (fun y => [(14, .val (.int .i64 y.1))]) (fun y => y.2) (fun y => y.1 ≤ l.length ∧ Below w.heap.size w y.2 ∧ Rg.mayTo l long y.1 = true ∧ MSet y.2 B y.1 (fun x => decide (x ∈ l.take y.1))) (fun y => l.length - y.1) ?_ ?_
  · intro w5 h5
    exact ⟨(0, w5), Cov.mk (by repeat' (first | exact trivial | refine And.intro rfl ?_)) rfl rfl rfl rfl rfl, rfl, Nat.zero_le _, h5.below, rfl, by simpa using hms.below (at_belowM h5 (by simp))⟩
  rintro ⟨k, V⟩ ⟨hk, hV, hall, hM⟩
  simp only at hk hV hall hM
  refine Branch.mk (fun hc2 => ?_) (fun hc2 => ?_)
  · have hlt : k < l.length := by have := of_decide_eq_true hc2; simp only at this; omega
    have hx := List.getElem?_eq_getElem (l := l) (i := k) hlt
    have hxm := List.getElem_mem hlt
    generalize l[k] = x at hx hxm
    have hts : l.take (k + 1) = l.take k ++ [x] := by rw [List.take_add_one, hx]; rfl
    have hes := Rg.mayTo_step l long k
    rw [hall, Bool.true_and] at hes
    have hno : Rg.mayAt l long k = false → Rg.mayL l long = false := fun h => Rg.mayTo_no h hlt
    unfold Rg.mayAt at hes hno
    rw [hx] at hes hno
    simp only [Option.getD_some] at hes hno
    have hSV := hS.go hV hV.size
    have hBV := hM.lt
    refine hSV.idx hx fun ad had => ?_
    refine hSV.ld1 hx had (Below.refl _ _) (by simp) ?_
    apply CallI.use1
    focus (exact fun w5 h5 => rpoint_any x long w5)
    intro w5 v5 h5 hB5
    refine NewI.mk fun b2 hb2 => ?_
    have hb2' : v5.heap.size ≤ b2 := hb2
    have hM5 := (hM.at h5 (by simp)).below hB5
    have hV5 : Below w.heap.size w v5 := h5.below.trans (hB5.mono h5.below.size)
    have hS5 := hS.go hV5 hV5.size
    have hnB : B ≠ b2 := by have := hM5.lt; omega
    refine Branch.mk (fun c1 => ?_) (fun c1 => ?_)
    · have c1' : (Rg.askPoint x long).2 ≠ 0 := of_decide_eq_true c1
      exact EndI.mk fun w9 h9 => by
        rw [if_neg (by rw [hno (by rw [decide_eq_false c1']; rfl)]; decide)]
    · have c1' : (Rg.askPoint x long).2 = 0 := by simpa using c1
      rw [decide_eq_true c1', Bool.true_and] at hes hno
      have put : ∀ {K : Prop}, K → K := fun h => h
      refine Branch.mk (fun c2 => ?_) (fun c2 => ?_)
      · obtain ⟨m, rfl⟩ : ∃ m, k = m + 1 := ⟨k - 1, by have := of_decide_eq_true c2; simp only at this; omega⟩
        have hy := List.getElem?_eq_getElem (l := l) (i := m) (by omega)
        generalize l[m]'(by omega) = y at hy
        rw [Nat.add_sub_cancel, hy] at hes hno
        refine Need.mk (by simp only [inK]; omega) ?_
        rw [show (((m + 1 : Nat) : Int) - 1) = (m : Int) by omega]
        refine hS5.idx hy fun ad2 had2 => ?_
        refine hS5.ld1 hy had2 (Below.refl _ _) (by simpa using hb2') ?_
        rw [decide_eq_false (by omega : ¬ m + 1 = 0), Bool.false_or] at hes hno
        refine Branch.mk (fun c3 => ?_) (fun c3 => ?_)
        · have c3' : x ≤ y := of_decide_eq_true c3
          exact EndI.mk fun w9 h9 => by
            rw [if_neg (by rw [hno (decide_eq_false (by omega : ¬ y < x))]; decide)]
        · have c3' : ¬ x ≤ y := of_decide_eq_false c3
          have hes' := hes.trans (decide_eq_true (by omega : y < x))
          refine ⟨fun w9 h9 => ?_⟩
          have hM9 := hM5.at h9 (by simp <;> omega)
          have hs9 := h9.size
          obtain ⟨w10, hrun, hput, hgr⟩ := hM9.put x (hi x hxm) (by omega)
          refine ⟨w10, hrun, keep_grown h9 hgr (fun q hq => by injection hq with hq; subst hq; exact ⟨hwb, by simp; exact hnB⟩), ?_⟩
          refine Need.mk (by simp only [inK]; omega) (EndI.mk fun w11 h11 => ⟨(m + 1 + 1, w11), Cov.mk (by repeat' (first | exact trivial | refine And.intro rfl ?_)) rfl rfl rfl rfl rfl, rfl, ⟨hlt, h11.below, hes', ?_⟩, by simp only; omega⟩)
          have := hput.at h11 (by simp <;> omega)
          simp only [hts, List.mem_append, List.mem_singleton, Bool.decide_or]
          exact this
      · have c2' : k = 0 := by have := of_decide_eq_false c2; simp only at this; omega
        have hes' : Rg.mayTo l long (k + 1) = true := by rw [hes, decide_eq_true c2']; rfl
        refine ⟨fun w9 h9 => ?_⟩
        have hM9 := hM5.at h9 (by simp <;> omega)
        have hs9 := h9.size
        obtain ⟨w10, hrun, hput, hgr⟩ := hM9.put x (hi x hxm) (by omega)
        refine ⟨w10, hrun, keep_grown h9 hgr (fun q hq => by injection hq with hq; subst hq; exact ⟨hwb, by simp; exact hnB⟩), ?_⟩
        refine Need.mk (by simp only [inK]; omega) (EndI.mk fun w11 h11 => ⟨(k + 1, w11), Cov.mk (by repeat' (first | exact trivial | refine And.intro rfl ?_)) rfl rfl rfl rfl rfl, rfl, ⟨hlt, h11.below, hes', ?_⟩, by simp only; omega⟩)
        have := hput.at h11 (by simp <;> omega)
        simp only [hts, List.mem_append, List.mem_singleton, Bool.decide_or]
        exact this
  · have hge : k = l.length := by have := of_decide_eq_false hc2; simp only at this; omega
    subst hge
    rw [List.take_length] at hM
    exact EndI.mk fun w9 h9 => by
      rw [if_pos (show Rg.mayL l long = true from hall)]
      exact ⟨B, rfl, hwb, hM.at h9 (by simp)⟩
end Go.Proofs.YtjbhpfmnfdebkaaGreat

namespace Go.Proofs.YtjbhpfmnfdebkaaGreat
set_option linter.unusedVariables false
set_option linter.unusedSimpArgs false
set_option maxRecDepth 100000
open Go.RowKit Go.Proofs.YtjbhpfmnfdebkaaGreat.Eng Enc

theorem elI : ElOk Tryz.prog 41 3 1 8 := elOk (z := .int .i64 0) Tryz.underlying41 (by kernel_rfl) rfl (by decide)
theorem cloneI_any (l : List Int) (a : Option Addr) (cap : Nat) (w : World) (hS : Sl w.heap.size w (.slice a l.length cap) l) (hlen : l.length ≤ 1000000) :
    Calls Tryz.prog 158 #[.slice a l.length cap] w (Ret w fun v w' => Own 3 w.heap.size w' v l) := by
  refine fun_ret 0 w Tryz.func158 (args := [.val (.slice a l.length cap)]) rfl rfl ?_
  refine GenV.to (fun w1 => Lib.run_eql_slice_nil w1 41 3 a l.length cap 0 0 Tryz.underlying41) fun w1 h1 => ?_
  refine Branch.mk (fun hb => ?_) (fun hb => ?_)
  · refine EndI.mk fun w2 h2 => ?_
    have ha : a = none := by cases a <;> simp_all
    obtain ⟨a', cap', e', hcap, hmax, hn⟩ := hS.form
    injection e' with e1 e2 e3
    subst e1; subst e3
    have h0 := hn ha
    obtain rfl : l = [] := List.eq_nil_of_length_eq_zero (by omega)
    exact Own.nil
  · refine NewI.mk fun b hb1 => ?_
    have hsrc : ∀ w2, At ⟨w, w.heap.size, Nat.le_refl _⟩ [⟨[], 3⟩] [b] [] w1 w2 → SrcC w2 (.slice a l.length cap) 1 l.length (cellsL l) := fun w2 h2 => (hS.below h2.below).src
    refine GenN.appF (α := Int) elI [] l w.heap.size rfl (fun w2 h2 => ?_) hsrc ?_ ?_ (fun w2 h2 => h2.below.size) fun v' w2 w3 h2 hB ho => ?_
    · exact ⟨rfl, .inr ⟨b, 0, #[], rfl, h2.fresh b (by simp), h2.blk 0 b _ rfl rfl, Nat.le_refl _, by simp [maxLen], rfl, rfl⟩⟩
    · simp [maxLen]; omega
    · simp; omega
    · exact EndI.mk fun w4 h4 => ho.below h4.go
end Go.Proofs.YtjbhpfmnfdebkaaGreat

namespace Go.Proofs.YtjbhpfmnfdebkaaGreat
set_option linter.unusedVariables false
set_option linter.unusedSimpArgs false
set_option maxRecDepth 100000
open Go.RowKit Go.Proofs.YtjbhpfmnfdebkaaGreat.Eng Enc

theorem among1N_any (q1 q2 : Option Addr) (p1 p2 : Nat) (soP : Pt → Bool) (long : Int) (hl : 1 ≤ long ∧ long ≤ 16) (x : Int) (hx : 0 ≤ x ∧ x < (Rg.many long).1) (W : World)
    (hc1 : W.cell? ⟨p1, 0, none⟩ = some (.int .i64 long)) (hc2 : W.cell? ⟨p2, 0, none⟩ = some (.func (.func 92) #[] #[.pointer q1, .pointer q2]))
    (hF : ∀ X, Below W.heap.size W X → Calls Tryz.prog 92 #[.agg #[.int .i64 (Rg.pt x long).t.num, .int .i64 (Rg.pt x long).t.den, .int .i64 (Rg.pt x long).u.num, .int .i64 (Rg.pt x long).u.den], .pointer q1, .pointer q2] X fun e w' => e = .returned (.bool (soP (Rg.pt x long))) ∧ Below X.heap.size X w') :
    Calls Tryz.prog 159 #[.int .i64 x, .pointer (some ⟨p1, 0, none⟩), .pointer (some ⟨p2, 0, none⟩)] W fun e w' => e = .returned (.bool (!soP (Rg.pt x long))) ∧ Below W.heap.size W w' := by
  have l1 := World.block_lt_of_cell? _ _ hc1
  have l2 := World.block_lt_of_cell? _ _ hc2
  simp only at l1 l2
  refine fun_eq 0 W Tryz.func159 (args := [.val (.int .i64 x), .val (.pointer (some ⟨p1, 0, none⟩)), .val (.pointer (some ⟨p2, 0, none⟩))]) rfl rfl ?_
  refine LoadI.mk ⟨_, ⟨hc1, by simp⟩, ?_⟩
  apply CallI.use1
  focus (exact fun w5 h5 => point_any x long hl hx w5)
  intro w5 v5 h5 hB5
  refine NewI.mk fun b2 hb2 => ?_
  have hb2' : v5.heap.size ≤ b2 := hb2
  have hW5 : Below W.heap.size W v5 := h5.below.trans (hB5.mono h5.below.size)
  have hc2' : v5.cell? ⟨p2, 0, none⟩ = some (.func (.func 92) #[] #[.pointer q1, .pointer q2]) := (hW5.cell (p := ⟨p2, 0, none⟩) l2).trans hc2
  refine LoadI.mk ⟨_, ⟨hc2', by have := hW5.size; simp; omega⟩, ?_⟩
  refine Need.mk (enters_of Tryz.func92 (by kernel_rfl) rfl) ?_
  apply CallI.use1
  focus (exact fun w7 h7 => hF w7 h7.below)
  intro w7 v7 h7 hB7
  exact EndI.mk fun w9 h9 => rfl
theorem among1W_any (q1 q2 : Option Addr) (p1 p2 : Nat) (soP : Pt → Bool) (long : Int) (hl : 1 ≤ long ∧ long ≤ 16) (x : Int) (hx : 0 ≤ x ∧ x < (Rg.many long).1) (W : World)
    (hc1 : W.cell? ⟨p1, 0, none⟩ = some (.int .i64 long)) (hc2 : W.cell? ⟨p2, 0, none⟩ = some (.func (.func 89) #[] #[.pointer q1, .pointer q2]))
    (hF : ∀ X, Below W.heap.size W X → Calls Tryz.prog 89 #[.agg #[.int .i64 (Rg.pt x long).t.num, .int .i64 (Rg.pt x long).t.den, .int .i64 (Rg.pt x long).u.num, .int .i64 (Rg.pt x long).u.den], .pointer q1, .pointer q2] X fun e w' => e = .returned (.bool (soP (Rg.pt x long))) ∧ Below X.heap.size X w') :
    Calls Tryz.prog 159 #[.int .i64 x, .pointer (some ⟨p1, 0, none⟩), .pointer (some ⟨p2, 0, none⟩)] W fun e w' => e = .returned (.bool (!soP (Rg.pt x long))) ∧ Below W.heap.size W w' := by
  have l1 := World.block_lt_of_cell? _ _ hc1
  have l2 := World.block_lt_of_cell? _ _ hc2
  simp only at l1 l2
  refine fun_eq 0 W Tryz.func159 (args := [.val (.int .i64 x), .val (.pointer (some ⟨p1, 0, none⟩)), .val (.pointer (some ⟨p2, 0, none⟩))]) rfl rfl ?_
  refine LoadI.mk ⟨_, ⟨hc1, by simp⟩, ?_⟩
  apply CallI.use1
  focus (exact fun w5 h5 => point_any x long hl hx w5)
  intro w5 v5 h5 hB5
  refine NewI.mk fun b2 hb2 => ?_
  have hb2' : v5.heap.size ≤ b2 := hb2
  have hW5 : Below W.heap.size W v5 := h5.below.trans (hB5.mono h5.below.size)
  have hc2' : v5.cell? ⟨p2, 0, none⟩ = some (.func (.func 89) #[] #[.pointer q1, .pointer q2]) := (hW5.cell (p := ⟨p2, 0, none⟩) l2).trans hc2
  refine LoadI.mk ⟨_, ⟨hc2', by have := hW5.size; simp; omega⟩, ?_⟩
  refine Need.mk (enters_of Tryz.func89 (by kernel_rfl) rfl) ?_
  apply CallI.use1
  focus (exact fun w7 h7 => hF w7 h7.below)
  intro w7 v7 h7 hB7
  exact EndI.mk fun w9 h9 => rfl
theorem deleteNil_any (p1 p2 : Option Addr) (w : World) : Calls Tryz.prog 157 #[.slice none 0 0, .func (.func 159) #[] #[.pointer p1, .pointer p2]] w fun e w' => e = .returned (.slice none 0 0) ∧ Below w.heap.size w w' := by
  refine fun_eq 0 w Tryz.func157 (args := [.val (.slice none 0 0), .fn 159 [.val (.pointer p1), .val (.pointer p2)]]) rfl rfl ?_
  apply CallI.use
  focus (exact fun w1 h1 => indexFunc_any [] (fun _ => false) p1 p2 none 0 w1 Sl.nil (fun x hx => by cases hx))
  rintro v w1 v1 h1 hB1 hidx
  rcases hidx with ⟨rfl, _⟩ | ⟨i, x0, rfl, hi0, _⟩
  · refine Branch.yes rfl ?_
    exact EndI.mk fun w9 h9 => rfl
  · cases hi0
namespace Rg
def amg (l : List Int) (long : Int) (so : Pt → Bool) : List Int × Int :=
  if fits long = false then ([], 2) else if mayL l long = true then (l.filter fun x => so (pt x long), 0) else ([], 8)
end Rg
theorem amongN_any (l : List Int) (hlen : l.length ≤ 1000000) (hi : ∀ x, x ∈ l → inK .i64 x) (long : Int) (soP : Pt → Bool) (q1 q2 : Option Addr) (a : Option Addr) (ca : Nat) (w : World) (hS : Sl w.heap.size w (.slice a l.length ca) l)
    (hC : ∀ x, 0 ≤ x → x < (Rg.many long).1 → ∀ X, Below w.heap.size w X → Calls Tryz.prog 92 #[.agg #[.int .i64 (Rg.pt x long).t.num, .int .i64 (Rg.pt x long).t.den, .int .i64 (Rg.pt x long).u.num, .int .i64 (Rg.pt x long).u.den], .pointer q1, .pointer q2] X fun e w' => e = .returned (.bool (soP (Rg.pt x long))) ∧ Below X.heap.size X w') :
    Calls Tryz.prog 88 #[.slice a l.length ca, .int .i64 long, .func (.func 92) #[] #[.pointer q1, .pointer q2]] w (Ret w fun v w' => ∃ a' c', v = .tuple #[.slice a' (Rg.amg l long soP).1.length c', .int .i64 (Rg.amg l long soP).2] ∧ Own TKi w.heap.size w' (.slice a' (Rg.amg l long soP).1.length c') (Rg.amg l long soP).1) := by
  refine fun_ret 0 w Tryz.func88 (args := [.val (.slice a l.length ca), .val (.int .i64 long), .val (.func (.func 92) #[] #[.pointer q1, .pointer q2])]) rfl rfl ?_
  have st := Stay.first (w := w)
  refine NewI.mk fun b1 hb1 => ?_
  have hb1' : w.heap.size ≤ b1 := hb1
  refine NewI.mk fun b2 hb2 => ?_
  have hb2' : w.heap.size ≤ b2 := hb2
  apply CallI.use1
  focus (exact fun w2 h2 => fits_any long w2)
  intro w2 v2 h2 hB2
  have st := st.next h2 (fun x hx => by simp at hx <;> omega) hB2
  unfold Rg.amg
  refine Branch.mk (fun hc => ?_) (fun hc => ?_)
  · have hf : Rg.fits long = false := by simpa using hc
    rw [if_pos hf]
    exact EndI.mk fun w9 h9 => ⟨_, _, rfl, Own.nil⟩
  have hf : Rg.fits long = true := by simpa using hc
  have hl := Rg.fits_iff.1 hf
  rw [if_neg (by rw [hf]; decide)]
  apply CallI.use
  focus (exact fun w3 h3 => marked_any l hlen hi long a ca w3 (hS.go h3.below h3.below.size))
  rintro v w3 v3 h3 hB3 hmk
  by_cases hmay : Rg.mayL l long = true
  case neg =>
    rw [if_neg hmay] at hmk
    subst hmk
    rw [if_neg hmay]
    refine Branch.yes rfl ?_
    exact EndI.mk fun w9 h9 => ⟨_, _, rfl, Own.nil⟩
  rw [if_pos hmay] at hmk
  obtain ⟨bm, rfl, hbm, hM⟩ := hmk
  rw [if_pos hmay]
  refine Branch.no rfl ?_
  have hV3 : Below w.heap.size w v3 := h3.below.trans (hB3.mono h3.below.size)
  apply CallI.use
  focus (exact fun w4 h4 => cloneI_any l a ca w4 (hS.go h4.below h4.below.size) hlen)
  rintro v w4 v4 h4 hB4 hO4
  obtain ⟨_, ⟨rfl, hl0⟩ | ⟨g, cap, cur, rfl, hgw, hgc, hn, hm, hs, ht⟩⟩ := id hO4
  · have hnil : l = [] := by
      apply List.eq_nil_of_length_eq_zero
      simpa using hl0
    subst hnil
    apply CallI.use1
    focus (exact fun w5 h5 => deleteNil_any (some ⟨b1, 0, none⟩) (some ⟨b2, 0, none⟩) w5)
    intro w5 v5 h5 hB5
    exact EndI.mk fun w9 h9 => ⟨_, _, rfl, Own.nil⟩
  · have hgl : g < v4.heap.size := (Array.getElem?_eq_some_iff.1 hgc).1
    have hgb : g ≠ b1 ∧ g ≠ b2 := by
      have e1 := h4.lt b1 (by simp)
      have e2 := h4.lt b2 (by simp)
      omega
    have hgW : w.heap.size ≤ g := Nat.le_trans h4.below.size hgw
    have hO4' : Own TKi w4.heap.size v4 (.slice (some ⟨g, 0, none⟩) l.length cap) l := hO4
    apply CallI.mk
    intro w5 h5
    have c1 : w5.heap[b1]? = some (.cells #[.int .i64 long] 3 (0, 0)) := h5.blk 0 b1 _ rfl rfl
    have c2 : w5.heap[b2]? = some (.cells #[.func (.func 92) #[] #[.pointer q1, .pointer q2]] 140 (0, 0)) := h5.blk 1 b2 _ rfl rfl
    have hB5 := at_belowM h5 (by simp)
    refine (deleteFunc_any l (fun x => !soP (Rg.pt x long)) (some ⟨b1, 0, none⟩) (some ⟨b2, 0, none⟩) g cap w4.heap.size w.heap.size w5 h5.below.size hgW (hO4'.below hB5) hlen (fun x hx W hW => ?_)).mono ?_
    · have e1 := h5.lt b1 (by simp)
      have e2 := h5.lt b2 (by simp)
      have d1 : W.heap[b1]? = _ := (hW.block b1 e1 (fun h => hgb.1 (by injection h with h; exact h.symm))).trans c1
      have d2 : W.heap[b2]? = _ := (hW.block b2 e2 (fun h => hgb.2 (by injection h with h; exact h.symm))).trans c2
      have hin := Rg.may_in hmay hx
      have hwW : Below w.heap.size w W := grown_belowM h5.below hW (fun k hk => by injection hk with hk; omega) h5.below.size
      exact among1N_any q1 q2 b1 b2 soP long hl x hin W (by simp [World.cell?, d1]) (by simp [World.cell?, d2]) (fun X hX => hC x hin.1 hin.2 X (hwW.trans (hX.mono hwW.size)))
    · rintro e w6 ⟨v, rfl, hB6, rfl, hO6, hG6⟩
      refine ⟨⟨hB6, fun b hb => hG6.block b (h5.lt b hb) (fun e => ?_)⟩, _, rfl, ?_⟩
      · injection e with e
        subst e
        simp at hb
        omega
      · have hfl : dfF (fun x => !soP (Rg.pt x long)) l l.length = l.filter fun x => soP (Rg.pt x long) := by
          unfold dfF
          rw [List.take_length]
          congr 1
          funext y
          simp
        rw [hfl] at hO6 ⊢
        refine EndI.mk fun w9 h9 => ⟨_, _, rfl, ?_⟩
        exact (hO6.lower h4.below.size).below (at_belowM h9 (by simp))
theorem amongW_any (l : List Int) (hlen : l.length ≤ 1000000) (hi : ∀ x, x ∈ l → inK .i64 x) (long : Int) (soP : Pt → Bool) (q1 q2 : Option Addr) (a : Option Addr) (ca : Nat) (w : World) (hS : Sl w.heap.size w (.slice a l.length ca) l)
    (hC : ∀ x, 0 ≤ x → x < (Rg.many long).1 → ∀ X, Below w.heap.size w X → Calls Tryz.prog 89 #[.agg #[.int .i64 (Rg.pt x long).t.num, .int .i64 (Rg.pt x long).t.den, .int .i64 (Rg.pt x long).u.num, .int .i64 (Rg.pt x long).u.den], .pointer q1, .pointer q2] X fun e w' => e = .returned (.bool (soP (Rg.pt x long))) ∧ Below X.heap.size X w') :
    Calls Tryz.prog 88 #[.slice a l.length ca, .int .i64 long, .func (.func 89) #[] #[.pointer q1, .pointer q2]] w (Ret w fun v w' => ∃ a' c', v = .tuple #[.slice a' (Rg.amg l long soP).1.length c', .int .i64 (Rg.amg l long soP).2] ∧ Own TKi w.heap.size w' (.slice a' (Rg.amg l long soP).1.length c') (Rg.amg l long soP).1) := by
  refine fun_ret 0 w Tryz.func88 (args := [.val (.slice a l.length ca), .val (.int .i64 long), .val (.func (.func 89) #[] #[.pointer q1, .pointer q2])]) rfl rfl ?_
  have st := Stay.first (w := w)
  refine NewI.mk fun b1 hb1 => ?_
  have hb1' : w.heap.size ≤ b1 := hb1
  refine NewI.mk fun b2 hb2 => ?_
  have hb2' : w.heap.size ≤ b2 := hb2
  apply CallI.use1
  focus (exact fun w2 h2 => fits_any long w2)
  intro w2 v2 h2 hB2
  have st := st.next h2 (fun x hx => by simp at hx <;> omega) hB2
  unfold Rg.amg
  refine Branch.mk (fun hc => ?_) (fun hc => ?_)
  · have hf : Rg.fits long = false := by simpa using hc
    rw [if_pos hf]
    exact EndI.mk fun w9 h9 => ⟨_, _, rfl, Own.nil⟩
  have hf : Rg.fits long = true := by simpa using hc
  have hl := Rg.fits_iff.1 hf
  rw [if_neg (by rw [hf]; decide)]
  apply CallI.use
  focus (exact fun w3 h3 => marked_any l hlen hi long a ca w3 (hS.go h3.below h3.below.size))
  rintro v w3 v3 h3 hB3 hmk
  by_cases hmay : Rg.mayL l long = true
  case neg =>
    rw [if_neg hmay] at hmk
    subst hmk
    rw [if_neg hmay]
    refine Branch.yes rfl ?_
    exact EndI.mk fun w9 h9 => ⟨_, _, rfl, Own.nil⟩
  rw [if_pos hmay] at hmk
  obtain ⟨bm, rfl, hbm, hM⟩ := hmk
  rw [if_pos hmay]
  refine Branch.no rfl ?_
  have hV3 : Below w.heap.size w v3 := h3.below.trans (hB3.mono h3.below.size)
  apply CallI.use
  focus (exact fun w4 h4 => cloneI_any l a ca w4 (hS.go h4.below h4.below.size) hlen)
  rintro v w4 v4 h4 hB4 hO4
  obtain ⟨_, ⟨rfl, hl0⟩ | ⟨g, cap, cur, rfl, hgw, hgc, hn, hm, hs, ht⟩⟩ := id hO4
  · have hnil : l = [] := by
      apply List.eq_nil_of_length_eq_zero
      simpa using hl0
    subst hnil
    apply CallI.use1
    focus (exact fun w5 h5 => deleteNil_any (some ⟨b1, 0, none⟩) (some ⟨b2, 0, none⟩) w5)
    intro w5 v5 h5 hB5
    exact EndI.mk fun w9 h9 => ⟨_, _, rfl, Own.nil⟩
  · have hgl : g < v4.heap.size := (Array.getElem?_eq_some_iff.1 hgc).1
    have hgb : g ≠ b1 ∧ g ≠ b2 := by
      have e1 := h4.lt b1 (by simp)
      have e2 := h4.lt b2 (by simp)
      omega
    have hgW : w.heap.size ≤ g := Nat.le_trans h4.below.size hgw
    have hO4' : Own TKi w4.heap.size v4 (.slice (some ⟨g, 0, none⟩) l.length cap) l := hO4
    apply CallI.mk
    intro w5 h5
    have c1 : w5.heap[b1]? = some (.cells #[.int .i64 long] 3 (0, 0)) := h5.blk 0 b1 _ rfl rfl
    have c2 : w5.heap[b2]? = some (.cells #[.func (.func 89) #[] #[.pointer q1, .pointer q2]] 140 (0, 0)) := h5.blk 1 b2 _ rfl rfl
    have hB5 := at_belowM h5 (by simp)
    refine (deleteFunc_any l (fun x => !soP (Rg.pt x long)) (some ⟨b1, 0, none⟩) (some ⟨b2, 0, none⟩) g cap w4.heap.size w.heap.size w5 h5.below.size hgW (hO4'.below hB5) hlen (fun x hx W hW => ?_)).mono ?_
    · have e1 := h5.lt b1 (by simp)
      have e2 := h5.lt b2 (by simp)
      have d1 : W.heap[b1]? = _ := (hW.block b1 e1 (fun h => hgb.1 (by injection h with h; exact h.symm))).trans c1
      have d2 : W.heap[b2]? = _ := (hW.block b2 e2 (fun h => hgb.2 (by injection h with h; exact h.symm))).trans c2
      have hin := Rg.may_in hmay hx
      have hwW : Below w.heap.size w W := grown_belowM h5.below hW (fun k hk => by injection hk with hk; omega) h5.below.size
      exact among1W_any q1 q2 b1 b2 soP long hl x hin W (by simp [World.cell?, d1]) (by simp [World.cell?, d2]) (fun X hX => hC x hin.1 hin.2 X (hwW.trans (hX.mono hwW.size)))
    · rintro e w6 ⟨v, rfl, hB6, rfl, hO6, hG6⟩
      refine ⟨⟨hB6, fun b hb => hG6.block b (h5.lt b hb) (fun e => ?_)⟩, _, rfl, ?_⟩
      · injection e with e
        subst e
        simp at hb
        omega
      · have hfl : dfF (fun x => !soP (Rg.pt x long)) l l.length = l.filter fun x => soP (Rg.pt x long) := by
          unfold dfF
          rw [List.take_length]
          congr 1
          funext y
          simp
        rw [hfl] at hO6 ⊢
        refine EndI.mk fun w9 h9 => ⟨_, _, rfl, ?_⟩
        exact (hO6.lower h4.below.size).below (at_belowM h9 (by simp))
end Go.Proofs.YtjbhpfmnfdebkaaGreat

namespace Go.Proofs.YtjbhpfmnfdebkaaGreat
set_option linter.unusedVariables false
set_option linter.unusedSimpArgs false
set_option maxRecDepth 100000
open Go.RowKit Go.Proofs.YtjbhpfmnfdebkaaGreat.Eng Enc

namespace Rg
def inWin (lo hi : Int) (u : Rt) : Bool := (decide (lo < (Fr.floor u).1) || (decide ((Fr.floor u).1 = lo) && decide (u.den ≠ 1))) && (decide ((Fr.floor u).1 < hi) || (decide ((Fr.floor u).1 = hi) && decide (u.den = 1)))
def winF (lo hi long : Int) (x : Int) : Bool := inWin lo hi (pt x long).u
def window (a : List Int) (lo hi long : Int) : List Int × Int :=
  if fits long = false then ([], 2) else if mayL a long = true then (if hi ≤ lo then ([], 2) else (a.filter (winF lo hi long), 0)) else ([], 8)
end Rg
end Go.Proofs.YtjbhpfmnfdebkaaGreat

namespace Go.Proofs.YtjbhpfmnfdebkaaGreat
set_option linter.unusedVariables false
set_option linter.unusedSimpArgs false
set_option maxRecDepth 100000
open Go.RowKit Go.Proofs.YtjbhpfmnfdebkaaGreat.Eng Enc

namespace Rg
def inSp (s : Sp) (a : Rt) : Bool := (Fr.keeps ⟨0, 1⟩ a (be s)).1 && (Fr.keeps a ⟨0, 1⟩ (ab s)).1
theorem may_half {b : Int} (h : b = 9223372036854775807 ∨ (-288230376151711744 ≤ b / 2 ∧ b / 2 ≤ 288230376151711744)) : Bd.may b = true ∧ inK .i64 b := by
  refine ⟨?_, by simp only [inK]; omega⟩
  unfold Bd.may Num.okB
  rcases h with h | h
  · rw [h]; rfl
  · simp; right; omega
end Rg
end Go.Proofs.YtjbhpfmnfdebkaaGreat

namespace Go.Proofs.YtjbhpfmnfdebkaaGreat
set_option linter.unusedVariables false
set_option linter.unusedSimpArgs false
set_option maxRecDepth 100000
open Go.RowKit Go.Proofs.YtjbhpfmnfdebkaaGreat.Eng Enc

namespace Rg
theorem add_low {a b : Rt} (ha : a.ok = true) (hb : b.ok = true) (h1 : -2000 ≤ a.num ∧ a.num ≤ 2000) (h2 : -2000 ≤ b.num ∧ b.num ≤ 2000) (h3 : a.den ≤ 3) (h4 : b.den ≤ 3) : (Fr.add a b).1.ok = true ∧ (Fr.add a b).2 = 0 := by
  have o1 := (Fr.ok_bd ha).1
  have o2 := (Fr.ok_bd hb).1
  unfold Fr.add
  rw [if_pos ⟨ha, hb⟩]
  have hn : -12000 ≤ Fr.tn a b ∧ Fr.tn a b ≤ 12000 := by
    unfold Fr.tn
    rcases (by omega : a.den = 1 ∨ a.den = 2 ∨ a.den = 3) with e | e | e <;> rcases (by omega : b.den = 1 ∨ b.den = 2 ∨ b.den = 3) with f | f | f <;> rw [e, f] <;> omega
  have hd : 1 ≤ Fr.dn a b 1 ∧ Fr.dn a b 1 ≤ 9 := by
    unfold Fr.dn
    rcases (by omega : a.den = 1 ∨ a.den = 2 ∨ a.den = 3) with e | e | e <;> rcases (by omega : b.den = 1 ∨ b.den = 2 ∨ b.den = 3) with f | f | f <;> rw [e, f] <;> decide
  unfold Fr.sum
  generalize Fr.tn a b = n at *
  generalize Fr.dn a b 1 = d at *
  have hg : 0 < Int.gcd n d := Int.gcd_pos_of_ne_zero_right _ (by omega)
  have hcop := Int.gcd_ediv_gcd_ediv_gcd (i := n) (j := d) hg
  obtain ⟨q, hq⟩ : (Int.gcd n d : Int) ∣ d := Int.gcd_dvd_right _ _
  have hg9 : (Int.gcd n d : Int) ≤ 9 := by
    have := Int.le_of_dvd (by omega) (Int.gcd_dvd_right n d)
    omega
  generalize Int.gcd n d = g at *
  have e1 : d / (g : Int) = q := by rw [hq]; exact Int.mul_ediv_cancel_left _ (by omega)
  have hq1 : 1 ≤ q ∧ q ≤ 9 := by
    rcases (by omega : g = 1 ∨ g = 2 ∨ g = 3 ∨ g = 4 ∨ g = 5 ∨ g = 6 ∨ g = 7 ∨ g = 8 ∨ g = 9) with e | e | e | e | e | e | e | e | e <;> subst e <;> omega
  have hng : -12000 ≤ n / (g : Int) ∧ n / (g : Int) ≤ 12000 := by
    rcases (by omega : g = 1 ∨ g = 2 ∨ g = 3 ∨ g = 4 ∨ g = 5 ∨ g = 6 ∨ g = 7 ∨ g = 8 ∨ g = 9) with e | e | e | e | e | e | e | e | e <;> subst e <;> omega
  have hk := (of_low (n := n / (g : Int)) (d := d / (g : Int)) (by omega) (by omega) hcop).2
  have hi : Fr.inI (n / (g : Int)) = true := by unfold Fr.inI; simp; omega
  rw [if_pos ⟨hk, hi⟩]
  exact ⟨hk, rfl⟩
theorem pt_low {n long : Int} (hl : 1 ≤ long ∧ long ≤ 16) (hn : 0 ≤ n ∧ n < 3 * (2 * long + 1) * (2 * long + 1)) : (0 ≤ (pt n long).t.num ∧ (pt n long).t.num ≤ 2000 ∧ 1 ≤ (pt n long).t.den ∧ (pt n long).t.den ≤ 3) ∧ (0 ≤ (pt n long).u.num ∧ (pt n long).u.num ≤ 2000 ∧ 1 ≤ (pt n long).u.den ∧ (pt n long).u.den ≤ 3) := by
  have hs : sides long = 2 * long + 1 := rfl
  have ht : 0 ≤ n / 3 / sides long ∧ n / 3 / sides long ≤ 1000 := by
    have h1 : 0 ≤ n / 3 / sides long := Int.ediv_nonneg (by omega) (by omega)
    have h2 : n / 3 / sides long < sides long := by
      refine Int.ediv_lt_of_lt_mul (by omega) ?_
      have : n < 3 * (sides long * sides long) := by rw [← Int.mul_assoc]; exact hn.2
      omega
    omega
  have hu : 0 ≤ n / 3 % sides long ∧ n / 3 % sides long ≤ 1000 := by
    have h1 := Int.emod_nonneg (n / 3) (b := sides long) (by omega)
    have h2 := Int.emod_lt_of_pos (n / 3) (b := sides long) (by omega)
    omega
  have h3 := parts_three (r := n % 3) (by omega)
  have low : ∀ {pl pa d : Int}, 0 ≤ pl ∧ pl ≤ 1000 → Three pa d → 0 ≤ (time pl pa d).num ∧ (time pl pa d).num ≤ 2000 ∧ 1 ≤ (time pl pa d).den ∧ (time pl pa d).den ≤ 3 := fun {pl pa d} h hd => by
    rw [(time_doc h hd).1]
    split
    · simp only; omega
    · rcases hd with ⟨rfl, rfl⟩ | ⟨rfl, rfl⟩ | ⟨rfl, rfl⟩ <;> simp only <;> omega
  exact ⟨low ht h3.1, low hu h3.2⟩
def gap (n long : Int) : Rt := (Fr.add (pt n long).u ⟨0 - (pt n long).t.num, (pt n long).t.den⟩).1
def spF (s : Sp) (long : Int) (x : Int) : Bool := inSp s (gap x long)
def within (a : List Int) (s : Sp) (long : Int) : List Int × Int :=
  if fits long = false then ([], 2) else if mayL a long = true ∧ Wn.spMay s = true then (a.filter (spF s long), 0) else ([], 8)
theorem ok_neg {a : Rt} (h : a.ok = true) (hn : 0 ≤ a.num ∧ a.num ≤ 2000) (hd : a.den ≤ 3) : (⟨0 - a.num, a.den⟩ : Rt).ok = true := by
  have o1 := (Fr.ok_bd h).1
  have hg : Int.gcd (0 - a.num) a.den = 1 := by
    rw [Int.zero_sub, Int.neg_gcd]
    unfold Rt.ok Fr.okB at h
    simp only [Bool.and_eq_true, decide_eq_true_eq] at h
    exact h.2
  exact (of_low (n := 0 - a.num) (d := a.den) (by omega) (by omega) hg).2
theorem gap_fine {n long : Int} (hl : 1 ≤ long ∧ long ≤ 16) (hn : 0 ≤ n ∧ n < 3 * (2 * long + 1) * (2 * long + 1)) : (gap n long).ok = true ∧ (gap n long).ins := by
  obtain ⟨_, h2, h3⟩ := pt_fine hl hn
  obtain ⟨h4, h5⟩ := pt_low hl hn
  exact ⟨(add_low h3 (ok_neg h2 (by omega) (by omega)) (by omega) (by simp only; omega) (by omega) (by simp only; omega)).1, Fr.add_ins⟩
end Rg
end Go.Proofs.YtjbhpfmnfdebkaaGreat

namespace Go.Proofs.YtjbhpfmnfdebkaaGreat
set_option linter.unusedVariables false
set_option linter.unusedSimpArgs false
set_option maxRecDepth 100000
open Go.RowKit Go.Proofs.YtjbhpfmnfdebkaaGreat.Eng Enc

theorem withinF_any (n : Int) (a : Option Addr) (cap : Nat) (L : List Int) (er : Int) (q1 q2 : Nat) (p : Pt) (hp : p.ins) (hT : 0 ≤ p.t.num) (W : World) (hS : Sl W.heap.size W (.slice a L.length cap) L)
    (hc1 : W.cell? ⟨q1, 0, none⟩ = some (.int .i64 er)) (hc2 : W.cell? ⟨q2, 0, none⟩ = some (.int .i64 n)) (hc3 : W.cell? ⟨q2, 1, none⟩ = some (.slice a L.length cap)) :
    Calls Tryz.prog 89 #[.agg #[.int .i64 p.t.num, .int .i64 p.t.den, .int .i64 p.u.num, .int .i64 p.u.den], .pointer (some ⟨q1, 0, none⟩), .pointer (some ⟨q2, 0, none⟩)] W fun e w' => e = .returned (.bool (decide (er = 0) && (Dbm.keeps n L [(Fr.add p.u ⟨0 - p.t.num, p.t.den⟩).1]).1)) ∧ Below W.heap.size W w' := by
  rw [Int.zero_sub]
  have l1 := World.block_lt_of_cell? _ _ hc1
  have l2 := World.block_lt_of_cell? _ _ hc2
  simp only at l1 l2
  refine fun_eq 0 W Tryz.func89 (args := [.agg [.val (.int .i64 p.t.num), .val (.int .i64 p.t.den), .val (.int .i64 p.u.num), .val (.int .i64 p.u.den)], .val (.pointer (some ⟨q1, 0, none⟩)), .val (.pointer (some ⟨q2, 0, none⟩))]) rfl rfl ?_
  refine NewI.mk fun b1 hb1 => ?_
  apply CallI.use1
  focus (exact fun w5 h5 => rof_any 0 1 (by simp [inK]) (by simp [inK]) w5)
  intro w5 v5 h5 hB5
  refine NewI.mk fun b2 hb2 => ?_
  have hb2' : v5.heap.size ≤ b2 := hb2
  have hW5 : Below W.heap.size W v5 := h5.below.trans (hB5.mono h5.below.size)
  have hs5 := hW5.size
  have d1 : v5.cell? ⟨q1, 0, none⟩ = some (.int .i64 er) := (hW5.cell (p := ⟨q1, 0, none⟩) l1).trans hc1
  refine LoadI.mk ⟨_, ⟨d1, by simp; omega⟩, ?_⟩
  refine Branch.mk (fun c1 => ?_) (fun c1 => ?_)
  · refine Need.mk (by have := hp.1.1; simp only [inK] at this ⊢; omega) ?_
    apply CallI.use1
    focus (exact fun w6 h6 => radd_any p.u ⟨-p.t.num, p.t.den⟩ hp.2 ⟨by have := hp.1.1; simp only [inK] at this ⊢; omega, hp.1.2⟩ w6)
    intro w6 v6 h6 hB6
    have hW6 : Below W.heap.size W v6 := h6.below.trans (hB6.mono h6.below.size)
    refine ⟨⟨[.int .i64 n, .slice a L.length cap], ⟨rfl, by decide, fun e => ?_, fun j c hj => ?_⟩, ?_⟩⟩
    · simp at e; omega
    · have d2 := (hW6.cell (p := ⟨q2, 0, none⟩) l2).trans hc2
      have d3 := (hW6.cell (p := ⟨q2, 1, none⟩) l2).trans hc3
      match j, hj with
      | 0, hj => injection hj with hj; subst hj; simpa [Addr.add] using d2
      | 1, hj => injection hj with hj; subst hj; simpa [Addr.add] using d3
    refine NewI.mk fun b3 hb3 => ?_
    have c1' : er = 0 := by simpa using c1
    have hs6 := h6.size
    have hs6' := hB6.size
    apply CallI.use
    focus (exact fun w7 h7 => dkeeps_any n a cap L [(Fr.add p.u ⟨-p.t.num, p.t.den⟩).1] _ 1 w7 (by intro x hx; rw [List.mem_singleton.1 hx]; exact Fr.add_ins) (hS.go h7.below h7.below.size) (Sl.own (l := [(Fr.add p.u ⟨-p.t.num, p.t.den⟩).1]) h7 2 rfl rfl rfl (Nat.le_refl _) (by simp [maxLen])))
    rintro v w7 v7 h7 hB7 rfl
    have hW7 : Below W.heap.size W v7 := h7.below.trans (hB7.mono h7.below.size)
    have d4 : v7.cell? ⟨q1, 0, none⟩ = some (.int .i64 er) := (hW7.cell (p := ⟨q1, 0, none⟩) l1).trans hc1
    refine LoadI.mk ⟨_, ⟨d4, by first | (simp; done) | (simp; omega)⟩, ?_⟩
    refine Branch.yes (by rw [c1']; rfl) ?_
    exact EndI.mk fun w9 h9 => by rw [c1]; rfl
  · refine ⟨⟨[.int .i64 n, .slice a L.length cap], ⟨rfl, by decide, fun e => ?_, fun j c hj => ?_⟩, ?_⟩⟩
    · simp at e; try omega
    · have d2 := (hW5.cell (p := ⟨q2, 0, none⟩) l2).trans hc2
      have d3 := (hW5.cell (p := ⟨q2, 1, none⟩) l2).trans hc3
      match j, hj with
      | 0, hj => injection hj with hj; subst hj; simpa [Addr.add] using d2
      | 1, hj => injection hj with hj; subst hj; simpa [Addr.add] using d3
    refine NewI.mk fun b3 hb3 => ?_
    apply CallI.use
    focus (exact fun w7 h7 => dkeeps_any n a cap L [(Fr.of 0 1).1] _ 1 w7 (by intro x hx; rw [List.mem_singleton.1 hx]; exact Fr.of_ins (by simp [inK])) (hS.go h7.below h7.below.size) (Sl.own (l := [(Fr.of 0 1).1]) h7 2 rfl rfl rfl (Nat.le_refl _) (by simp [maxLen])))
    rintro v w7 v7 h7 hB7 rfl
    have hW7 : Below W.heap.size W v7 := h7.below.trans (hB7.mono h7.below.size)
    have d4 : v7.cell? ⟨q1, 0, none⟩ = some (.int .i64 er) := (hW7.cell (p := ⟨q1, 0, none⟩) l1).trans hc1
    refine LoadI.mk ⟨_, ⟨d4, by first | (simp; done) | (simp; omega)⟩, ?_⟩
    refine Branch.no (by simpa using c1) ?_
    exact EndI.mk fun w9 h9 => by rw [c1]; rfl
end Go.Proofs.YtjbhpfmnfdebkaaGreat

namespace Go.Proofs.YtjbhpfmnfdebkaaGreat
set_option linter.unusedVariables false
set_option linter.unusedSimpArgs false
set_option maxRecDepth 100000
open Go.RowKit Go.Proofs.YtjbhpfmnfdebkaaGreat.Eng Enc

namespace Rg
def soW (lo hi : Int) (p : Pt) : Bool := (decide (lo < (Fr.floor p.u).1) || (decide ((Fr.floor p.u).1 = lo) && decide (0 < (part p.u).num))) && decide (place p.u ≤ 2 * max (-1) (min hi 16))
end Rg
namespace Rg
theorem soW_doc {u t : Rt} (hu : u.ok = true) (h0 : 0 ≤ u.num) (hp : place u ≤ 32) (lo hi : Int) : soW lo hi ⟨t, u⟩ = inWin lo hi u := by
  unfold soW inWin
  have hf := floor_ok hu
  have hb := Fr.ok_bd hu
  have hd := den_one hu
  have hpl := place_den hu
  have hpn := (part_num hu).1
  have hem : u.num = u.den * (u.num / u.den) + u.num % u.den := (Int.mul_ediv_add_emod u.num u.den).symm
  have hnn : 0 ≤ u.num / u.den := Int.ediv_nonneg h0 (by omega)
  have hpm : (part u).num = u.num % u.den := by
    rw [← hpn, hf, Int.mul_comm]; omega
  simp only [hpm]
  rw [hf] at hpl ⊢
  generalize u.num / u.den = f at *
  generalize u.num % u.den = r at *
  have e1 : decide (0 < r) = decide (u.den ≠ 1) := by rw [decide_eq_decide]; omega
  have e2 : place u = if u.den = 1 then 2 * f else 2 * f + 1 := by
    rw [hpl]
    split
    · rename_i h1
      rw [h1] at hem
      have := hd.2 h1
      omega
    · rfl
  have e3 : decide (place u ≤ 2 * max (-1) (min hi 16)) = (decide (f < hi) || (decide (f = hi) && decide (u.den = 1))) := by
    rw [← Bool.decide_and, ← Bool.decide_or, decide_eq_decide]
    rw [e2] at hp ⊢
    split at hp
    · rename_i h1; rw [if_pos h1]; omega
    · rename_i h1; rw [if_neg h1]; omega
  rw [e1, e3]
theorem may_place {l : List Int} {long x : Int} (hl : 1 ≤ long ∧ long ≤ 16) (h : mayL l long = true) (hx : x ∈ l) : place (pt x long).u ≤ 32 := by
  have h1 := mayTo_in h (x := x) (by rw [List.take_length]; exact hx)
  have h2 := may_in h hx
  have hs : sides long ≤ 33 := by unfold sides; omega
  have hn : number (pt x long) long = x := by
    unfold askPoint at h1
    split at h1
    · cases h1
    · split at h1
      · rename_i h3
        unfold point at h3
        exact of_decide_eq_true h3
      · cases h1
  unfold number at hn
  split at hn
  · omega
  · rename_i h3
    omega
end Rg
theorem windowF_any (lo hi : Int) (hlo : inK .i64 lo) (hhi : inK .i64 hi) (q1 q2 : Nat) (p : Pt) (hp : p.ins) (W : World)
    (hc1 : W.cell? ⟨q1, 0, none⟩ = some (.int .i64 lo)) (hc2 : W.cell? ⟨q2, 0, none⟩ = some (.int .i64 hi)) :
    Calls Tryz.prog 92 #[.agg #[.int .i64 p.t.num, .int .i64 p.t.den, .int .i64 p.u.num, .int .i64 p.u.den], .pointer (some ⟨q1, 0, none⟩), .pointer (some ⟨q2, 0, none⟩)] W fun e w' => e = .returned (.bool (Rg.soW lo hi p)) ∧ Below W.heap.size W w' := by
  have l1 := World.block_lt_of_cell? _ _ hc1
  have l2 := World.block_lt_of_cell? _ _ hc2
  simp only at l1 l2
  refine fun_eq 0 W Tryz.func92 (args := [.agg [.val (.int .i64 p.t.num), .val (.int .i64 p.t.den), .val (.int .i64 p.u.num), .val (.int .i64 p.u.den)], .val (.pointer (some ⟨q1, 0, none⟩)), .val (.pointer (some ⟨q2, 0, none⟩))]) rfl rfl ?_
  refine NewI.mk fun b1 hb1 => ?_
  apply CallI.use1
  focus (exact fun w5 h5 => rfloor_any p.u hp.2 w5)
  intro w5 v5 h5 hB5
  apply CallI.use1
  focus (exact fun w6 h6 => place_any p.u hp.2 w6)
  intro w6 v6 h6 hB6
  refine NewI.mk fun b2 hb2 => ?_
  have hb2' : v6.heap.size ≤ b2 := hb2
  have hW6 : Below W.heap.size W v6 := h6.below.trans (hB6.mono h6.below.size)
  have hs6 := hW6.size
  have d1 : v6.cell? ⟨q1, 0, none⟩ = some (.int .i64 lo) := (hW6.cell (p := ⟨q1, 0, none⟩) l1).trans hc1
  have d2 : v6.cell? ⟨q2, 0, none⟩ = some (.int .i64 hi) := (hW6.cell (p := ⟨q2, 0, none⟩) l2).trans hc2
  refine LoadI.mk ⟨_, ⟨d1, by simp; omega⟩, ?_⟩
  unfold Rg.soW
  have hm : maxL (-1) [minL hi [16]] = max (-1) (min hi 16) := by
    simp only [maxL, minL]
    repeat' split
    all_goals omega
  have hT : ∀ (A : Bool), A = true → (A && decide (Rg.place p.u ≤ 2 * max (-1) (min hi 16))) = decide (Rg.place p.u ≤ 2 * max (-1) (min hi 16)) := fun A h => by rw [h]; rfl
  have hF : ∀ (A : Bool), A = false → (A && decide (Rg.place p.u ≤ 2 * max (-1) (min hi 16))) = false := fun A h => by rw [h]; rfl
  refine Branch.mk (fun c1 => ?_) (fun c1 => ?_)
  · rw [hT _ (by rw [c1]; rfl)]
    refine LoadI.mk ⟨_, ⟨d2, by simp; omega⟩, ?_⟩
    refine Need.mk (by rw [hm]; simp only [inK]; omega) ?_
    exact EndI.mk fun w9 h9 => by rw [hm]
  · refine LoadI.mk ⟨_, ⟨d1, by simp; omega⟩, ?_⟩
    refine Branch.mk (fun c2 => ?_) (fun c2 => ?_)
    · refine Branch.mk (fun c3 => ?_) (fun c3 => ?_)
      · rw [hT _ (by rw [c1, c2, c3]; rfl)]
        refine LoadI.mk ⟨_, ⟨d2, by simp; omega⟩, ?_⟩
        refine Need.mk (by rw [hm]; simp only [inK]; omega) ?_
        exact EndI.mk fun w9 h9 => by rw [hm]
      · rw [hF _ (by rw [c1, c2, c3]; rfl)]
        exact EndI.mk fun w9 h9 => rfl
    · rw [hF _ (by rw [c1, c2]; rfl)]
      exact EndI.mk fun w9 h9 => rfl
theorem regWindow_any (l : List Int) (hlen : l.length ≤ 1000000) (hi' : ∀ x, x ∈ l → inK .i64 x) (lo hi : Int) (hlo : inK .i64 lo) (hhi : inK .i64 hi) (long : Int) (a : Option Addr) (ca : Nat) (w : World) (hS : Sl w.heap.size w (.slice a l.length ca) l) :
    Calls Tryz.prog 32 #[.slice a l.length ca, .int .i64 lo, .int .i64 hi, .int .i64 long] w (Ret w fun v w' => ∃ a' c', v = .tuple #[.slice a' (Rg.window l lo hi long).1.length c', .int .i64 (Rg.window l lo hi long).2] ∧ Own TKi w.heap.size w' (.slice a' (Rg.window l lo hi long).1.length c') (Rg.window l lo hi long).1) := by
  refine fun_ret 0 w Tryz.func32 (args := [.val (.slice a l.length ca), .val (.int .i64 lo), .val (.int .i64 hi), .val (.int .i64 long)]) rfl rfl ?_
  refine NewI.mk fun b1 hb1 => ?_
  refine NewI.mk fun b2 hb2 => ?_
  have hpin : ∀ x, 0 ≤ x → x < (Rg.many long).1 → (Rg.pt x long).ins := fun x h0 h1 => by
    by_cases hf : Rg.fits long = true
    · have hl := Rg.fits_iff.1 hf
      rw [Rg.many_doc hl] at h1
      exact (Rg.pt_fine hl ⟨h0, h1⟩).1
    · unfold Rg.many at h1
      rw [if_neg hf] at h1
      simp only at h1; omega
  apply CallI.use
  focus (exact fun w1 h1 => amongN_any l hlen hi' long (Rg.soW lo hi) (some ⟨b1, 0, none⟩) (some ⟨b2, 0, none⟩) a ca w1 (hS.go h1.below h1.below.size) (fun x h0 hx X hX => by
    have c1 : w1.heap[b1]? = some (.cells #[.int .i64 lo] 3 (0, 0)) := h1.blk 0 b1 _ rfl rfl
    have c2 : w1.heap[b2]? = some (.cells #[.int .i64 hi] 3 (0, 0)) := h1.blk 1 b2 _ rfl rfl
    have e1 := (hX.block b1 (h1.lt b1 (by simp))).trans c1
    have e2 := (hX.block b2 (h1.lt b2 (by simp))).trans c2
    exact windowF_any lo hi hlo hhi b1 b2 (Rg.pt x long) (hpin x h0 hx) X (by simp [World.cell?, e1]) (by simp [World.cell?, e2])))
  rintro v w1 v1 h1 hB1 ⟨a1, c1, rfl, hO1⟩
  by_cases hf : Rg.fits long = true
  case neg =>
    have e1 : Rg.amg l long (Rg.soW lo hi) = ([], 2) := by unfold Rg.amg; rw [if_pos (by simpa using hf)]
    have e2 : Rg.window l lo hi long = ([], 2) := by unfold Rg.window; rw [if_pos (by simpa using hf)]
    rw [e1] at hO1 ⊢
    rw [e2]
    refine Branch.no rfl ?_
    exact EndI.mk fun w9 h9 => ⟨_, _, rfl, (hO1.lower h1.below.size).below (at_belowM h9 (by simp))⟩
  have hl := Rg.fits_iff.1 hf
  by_cases hm : Rg.mayL l long = true
  case neg =>
    have e1 : Rg.amg l long (Rg.soW lo hi) = ([], 8) := by unfold Rg.amg; rw [if_neg (by rw [hf]; decide), if_neg hm]
    have e2 : Rg.window l lo hi long = ([], 8) := by unfold Rg.window; rw [if_neg (by rw [hf]; decide), if_neg hm]
    rw [e1] at hO1 ⊢
    rw [e2]
    refine Branch.no rfl ?_
    exact EndI.mk fun w9 h9 => ⟨_, _, rfl, (hO1.lower h1.below.size).below (at_belowM h9 (by simp))⟩
  have e1 : Rg.amg l long (Rg.soW lo hi) = (l.filter (Rg.winF lo hi long), 0) := by
    unfold Rg.amg
    rw [if_neg (by rw [hf]; decide), if_pos hm]
    congr 1
    apply List.filter_congr
    intro x hx
    have hr := Rg.may_in hm hx
    rw [Rg.many_doc hl] at hr
    exact Rg.soW_doc (t := (Rg.pt x long).t) (Rg.pt_fine hl hr).2.2 (Rg.pt_low hl hr).2.1 (Rg.may_place hl hm hx) lo hi
  rw [e1] at hO1 ⊢
  unfold Rg.window
  rw [if_neg (by rw [hf]; decide), if_pos hm]
  refine Branch.yes rfl ?_
  refine Branch.mk (fun c2 => ?_) (fun c2 => ?_)
  · rw [if_pos (of_decide_eq_true c2)]
    exact EndI.mk fun w9 h9 => ⟨_, _, rfl, Own.nil⟩
  · rw [if_neg (of_decide_eq_false c2)]
    exact EndI.mk fun w9 h9 => ⟨_, _, rfl, (hO1.lower h1.below.size).below (at_belowM h9 (by simp))⟩
end Go.Proofs.YtjbhpfmnfdebkaaGreat

namespace Go.Proofs.YtjbhpfmnfdebkaaGreat
set_option linter.unusedVariables false
set_option linter.unusedSimpArgs false
set_option maxRecDepth 100000
open Go.RowKit Go.Proofs.YtjbhpfmnfdebkaaGreat.Eng Enc

namespace Rg
open Dbm Fr
theorem v_nought : Fr.v ⟨0, 1⟩ = 0 := by decide +kernel
theorem be_may {s : Sp} (h : Wn.spMay s = true) : Bd.may (be s) = true := (may_half (.inr (Wn.be_lim h))).1
theorem ab_may {s : Sp} (h : Wn.spMay s = true) : Bd.may (ab s) = true := (may_half (Wn.ab_lim h)).1
theorem keeps_o {a b : Rt} (ha : a.ok = true) (hb : b.ok = true) {x : Int} (hx : Bd.may x = true) : (Fr.keeps a b x).1 = true ↔ satO (Fr.v a - Fr.v b) (ob x) := (keeps_sat ha hb hx).trans (sat_iff _ _)
theorem sp_none {s : Sp} (h : Wn.spMay s = true) (hn : ¬ Wn.spOk s) {a : Rt} (ha : a.ok = true) : inSp s a = false := by
  cases hi : inSp s a with
  | false => rfl
  | true =>
    exfalso
    apply hn
    unfold inSp at hi
    simp only [Bool.and_eq_true] at hi
    have k1 := (keeps_o (by decide) ha (be_may h)).1 hi.1
    have k2 := (keeps_o ha (by decide) (ab_may h)).1 hi.2
    rw [v_nought] at k1 k2
    have k3 := satO_add k1 k2
    rw [show (0 : Rat) - Fr.v a + (Fr.v a - 0) = 0 by grind] at k3
    unfold Wn.spOk
    generalize oadd (ob (be s)) (ob (ab s)) = o at k3 ⊢
    cases o with
    | none => trivial
    | some v => exact satO_zero.1 k3
theorem sp_keeps {s : Sp} (h : Wn.spMay s = true) (hok : Wn.spOk s) {a : Rt} (ha : a.ok = true) : (Dbm.keeps 2 [1, be s, ab s, 1] [a]).1 = inSp s a := by
  have h1 := Wn.be_lim h
  have h2 := Wn.ab_lim h
  have m1 : mayC (be s) = true := Wn.mayC_of (.inr h1)
  have m2 : mayC (ab s) = true := Wn.mayC_of h2
  have m0 : mayC 1 = true := by decide
  have hc : Dbm.chk 2 [1, be s, ab s, 1] = 0 := chk_iff.2 ⟨by decide, by decide, by simp, by simp [m0, m1, m2]⟩
  unfold Dbm.keeps
  rw [if_pos ⟨hc, by simp [ha]⟩, if_pos (by simp)]
  have self : ∀ x : Rt, x.ok = true → (Fr.keeps x x 1).1 = true := fun x hx => by
    refine (keeps_o hx hx (by decide)).2 ?_
    rw [Rat.sub_self, show ob 1 = some 1 by decide]
    exact satO_zero.2 (by omega)
  have hz : (⟨0, 1⟩ : Rt).ok = true := by decide
  show Dbm.keptL 2 [1, be s, ab s, 1] [a] = _
  have e : Dbm.keptL 2 [1, be s, ab s, 1] [a] = ((Fr.keeps ⟨0, 1⟩ ⟨0, 1⟩ 1).1 && ((Fr.keeps ⟨0, 1⟩ a (be s)).1 && ((Fr.keeps a ⟨0, 1⟩ (ab s)).1 && ((Fr.keeps a a 1).1 && true)))) := rfl
  rw [e, self _ hz, self _ ha]
  unfold inSp
  simp
end Rg
theorem regWithin_any (l : List Int) (hlen : l.length ≤ 1000000) (hi' : ∀ x, x ∈ l → inK .i64 x) (s : Sp) (hs : s.ins) (long : Int) (a : Option Addr) (ca : Nat) (w : World) (hS : Sl w.heap.size w (.slice a l.length ca) l) :
    Calls Tryz.prog 31 #[.slice a l.length ca, .agg #[.int .i64 s.lo, .bool s.ls, .int .i64 s.hi, .bool s.hs, .bool s.op], .int .i64 long] w (Ret w fun v w' => ∃ a' c', v = .tuple #[.slice a' (Rg.within l s long).1.length c', .int .i64 (Rg.within l s long).2] ∧ Own TKi w.heap.size w' (.slice a' (Rg.within l s long).1.length c') (Rg.within l s long).1) := by
  refine fun_ret 0 w Tryz.func31 (args := [.val (.slice a l.length ca), .agg [.val (.int .i64 s.lo), .val (.bool s.ls), .val (.int .i64 s.hi), .val (.bool s.hs), .val (.bool s.op)], .val (.int .i64 long)]) rfl rfl ?_
  refine NewI.mk fun b1 hb1 => ?_
  apply CallI.use
  focus (exact fun w1 h1 => top_any 2 w1)
  rintro v w1 v1 h1 hB1 ⟨at_, ct, rfl, hOT⟩
  refine NewI.mk fun b2 hb2 => ?_
  rw [Zo.top2] at hOT ⊢
  apply CallI.use
  focus (exact fun w2 h2 => btw_any s hs at_ ct w2 (Sl.go hOT.sl (at_belowM h2 (by simp; exact hb2)) (at_belowM h2 (by simp; exact hb2)).size))
  rintro v w2 v2 h2 hB2 ⟨ab_, cb, rfl, hFB⟩
  have hkey : ∀ x, 0 ≤ x → x < (Rg.many long).1 → Rg.fits long = true → Wn.spMay s = true → (decide ((Zo.btw s).2.2 = 0) && (Dbm.keeps (Zo.btw s).1 (Zo.btw s).2.1 [Rg.gap x long]).1) = Rg.spF s long x := fun x h0 h1 hf hm => by
    have hl := Rg.fits_iff.1 hf
    rw [Rg.many_doc hl] at h1
    have hg := (Rg.gap_fine hl (n := x) ⟨h0, h1⟩).1
    rcases Wn.btw_may hm with ⟨hok, e⟩ | ⟨hok, e⟩
    · rw [e]
      show (true && (Dbm.keeps 2 [1, Rg.be s, Rg.ab s, 1] [Rg.gap x long]).1) = _
      rw [Bool.true_and, Rg.sp_keeps hm hok hg]; rfl
    · rw [e]
      show false = _
      exact (Rg.sp_none hm hok hg).symm
  have hbad : Wn.spMay s = false → (Zo.btw s).2.2 = 8 := fun h => by rw [Wn.btw_bad h]
  have hgood : Wn.spMay s = true → (Zo.btw s).2.2 ≠ 8 := fun h => by
    rcases Wn.btw_may h with ⟨_, e⟩ | ⟨_, e⟩ <;> rw [e]
    · exact (by decide : (0 : Int) ≠ 8)
    · exact (by decide : (6 : Int) ≠ 8)
  generalize Zo.btw s = Y at hFB hkey hbad hgood ⊢
  obtain ⟨n, L, er⟩ := Y
  simp only at hFB hkey hbad hgood ⊢
  have hSL := hFB.sl
  have hB2s := hB2.size
  refine NewI.mk fun b3 hb3 => ?_
  have hb3' : v2.heap.size ≤ b3 := hb3
  refine NewI.mk fun b4 hb4 => ?_
  have hb4' : v2.heap.size ≤ b4 := hb4
  have hw2 : Below w.heap.size w v2 := h2.below.trans (hB2.mono h2.below.size)
  have hpin : ∀ x, 0 ≤ x → x < (Rg.many long).1 → (Rg.pt x long).ins ∧ 0 ≤ (Rg.pt x long).t.num := fun x h0 h1 => by
    by_cases hf : Rg.fits long = true
    · have hl := Rg.fits_iff.1 hf
      rw [Rg.many_doc hl] at h1
      exact ⟨(Rg.pt_fine hl ⟨h0, h1⟩).1, (Rg.pt_low hl ⟨h0, h1⟩).1.1⟩
    · unfold Rg.many at h1
      rw [if_neg hf] at h1
      simp only at h1; omega
  have hamg : (er = 8 → Rg.fits long = false) → Rg.amg l long (fun p => decide (er = 0) && (Dbm.keeps n L [(Fr.add p.u ⟨0 - p.t.num, p.t.den⟩).1]).1) = Rg.within l s long := fun hne => by
    unfold Rg.amg Rg.within
    by_cases hf : Rg.fits long = false
    · rw [if_pos hf, if_pos hf]
    · rw [if_neg hf, if_neg hf]
      have hft : Rg.fits long = true := by simpa using hf
      have hsp : Wn.spMay s = true := by
        cases h : Wn.spMay s with
        | true => rfl
        | false => exact absurd (hne (hbad h)) hf
      by_cases hm : Rg.mayL l long = true
      · rw [if_pos hm, if_pos ⟨hm, hsp⟩]
        congr 1
        apply List.filter_congr
        intro x hx
        have hr := Rg.may_in hm hx
        exact hkey x hr.1 hr.2 hft hsp
      · rw [if_neg hm, if_neg (fun h => hm h.1)]
  have hclo : ∀ (w7 X : World), w7.heap[b4]? = some (.cells #[.int .i64 er] 28 (0, 0)) → w7.heap[b3]? = some (.cells #[.int .i64 n, .slice ab_ L.length cb] 99 (0, 0)) → Sl w7.heap.size w7 (.slice ab_ L.length cb) L → Below w7.heap.size w7 X →
      ∀ x, 0 ≤ x → x < (Rg.many long).1 → Calls Tryz.prog 89 #[.agg #[.int .i64 (Rg.pt x long).t.num, .int .i64 (Rg.pt x long).t.den, .int .i64 (Rg.pt x long).u.num, .int .i64 (Rg.pt x long).u.den], .pointer (some ⟨b4, 0, none⟩), .pointer (some ⟨b3, 0, none⟩)] X fun e w' => e = .returned (.bool (decide (er = 0) && (Dbm.keeps n L [(Fr.add (Rg.pt x long).u ⟨0 - (Rg.pt x long).t.num, (Rg.pt x long).t.den⟩).1]).1)) ∧ Below X.heap.size X w' := fun w7 X c4 c3 hS7 hX x h0 h1 => by
    have e4 := (hX.block b4 (Array.getElem?_eq_some_iff.1 c4).1).trans c4
    have e3 := (hX.block b3 (Array.getElem?_eq_some_iff.1 c3).1).trans c3
    exact withinF_any n ab_ cb L er b4 b3 (Rg.pt x long) (hpin x h0 h1).1 (hpin x h0 h1).2 X (hS7.go hX hX.size) (by simp [World.cell?, e4]) (by simp [World.cell?, e3]) (by simp [World.cell?, e3])
  refine Branch.mk (fun z1 => ?_) (fun z1 => ?_)
  · have he : er = 8 := of_decide_eq_true z1
    apply CallI.use1
    focus (exact fun w3 h3 => fits_any long w3)
    intro w3 v3 h3 hB3
    refine Branch.mk (fun z2 => ?_) (fun z2 => ?_)
    · have hf : Rg.fits long = true := z2
      have hsp : Wn.spMay s = false := by
        cases h : Wn.spMay s with
        | false => rfl
        | true => exact absurd he (hgood h)
      have e1 : Rg.within l s long = ([], 8) := by unfold Rg.within; rw [if_neg (by rw [hf]; decide), if_neg (fun h => by rw [hsp] at h; cases h.2)]
      rw [e1]
      refine DrawI.go (.tk 0 (.tk 1 (.tk 2 .done))) (by kernel_rfl) fun w5 h5 => ?_
      rw [he]
      exact EndI.mk fun w9 h9 => ⟨_, _, rfl, Own.nil⟩
    · have hf : Rg.fits long = false := z2
      rw [← hamg (fun _ => hf)]
      have hw3 : Below w.heap.size w v3 := h3.below.trans (hB3.mono h3.below.size)
      have hSL3 : Sl v3.heap.size v3 (.slice ab_ L.length cb) L := (hSL.go (at_below h3 (fun b hb => by simp at hb; omega)) (at_below h3 (fun b hb => by simp at hb; omega)).size).go hB3 hB3.size
      apply CallI.use
      focus (exact fun w7 h7 => amongW_any l hlen hi' long (fun p => decide (er = 0) && (Dbm.keeps n L [(Fr.add p.u ⟨0 - p.t.num, p.t.den⟩).1]).1) (some ⟨b4, 0, none⟩) (some ⟨b3, 0, none⟩) a ca w7 (hS.go h7.below h7.below.size) (fun x h0 h1 X hX => by
        have c4 : w7.heap[b4]? = some (.cells #[.int .i64 er] 28 (0, 0)) := h7.blk 3 b4 _ rfl rfl
        have c3 : w7.heap[b3]? = some (.cells #[.int .i64 n, .slice ab_ L.length cb] 99 (0, 0)) := h7.blk 2 b3 _ rfl rfl
        exact hclo w7 X c4 c3 (hSL3.go (at_below h7 (by simp)) (at_below h7 (by simp)).size) hX x h0 h1))
      rintro v w7 v7 h7 hB7 ⟨a7, c7, rfl, hO7⟩
      exact EndI.mk fun w9 h9 => ⟨_, _, rfl, (hO7.lower h7.below.size).below (at_below h9 (by simp))⟩
  · have he : er ≠ 8 := of_decide_eq_false z1
    rw [← hamg (fun h => absurd h he)]
    apply CallI.use
    focus (exact fun w7 h7 => amongW_any l hlen hi' long (fun p => decide (er = 0) && (Dbm.keeps n L [(Fr.add p.u ⟨0 - p.t.num, p.t.den⟩).1]).1) (some ⟨b4, 0, none⟩) (some ⟨b3, 0, none⟩) a ca w7 (hS.go h7.below h7.below.size) (fun x h0 h1 X hX => by
      have c4 : w7.heap[b4]? = some (.cells #[.int .i64 er] 28 (0, 0)) := h7.blk 3 b4 _ rfl rfl
      have c3 : w7.heap[b3]? = some (.cells #[.int .i64 n, .slice ab_ L.length cb] 99 (0, 0)) := h7.blk 2 b3 _ rfl rfl
      have hB7 := at_below h7 (fun b hb => by simp at hb; omega)
      exact hclo w7 X c4 c3 (hSL.go hB7 hB7.size) hX x h0 h1))
    rintro v w7 v7 h7 hB7 ⟨a7, c7, rfl, hO7⟩
    exact EndI.mk fun w9 h9 => ⟨_, _, rfl, (hO7.lower h7.below.size).below (at_below h9 (by simp))⟩
end Go.Proofs.YtjbhpfmnfdebkaaGreat

