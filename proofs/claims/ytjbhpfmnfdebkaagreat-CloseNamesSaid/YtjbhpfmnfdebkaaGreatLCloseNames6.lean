/-
  Merged texts of this law (each with its own head below).
-/
import Derived.Test.YtjbhpfmnfdebkaaGreatLCloseNames5
import Derived.Test.YtjbhpfmnfdebkaaGreatLCloseNames4
import Derived.Test.YtjbhpfmnfdebkaaGreatLCloseNames3
/-
  The contract of comp.Comp's put, by the engine.
-/
namespace Go.Proofs.YtjbhpfmnfdebkaaGreat
set_option linter.unusedVariables false
set_option linter.unusedSimpArgs false
set_option maxRecDepth 100000
open Go.RowKit Go.Proofs.YtjbhpfmnfdebkaaGreat.Eng Enc

namespace Cmp
/-- the place of a zone's bound number k in a matrix of four clocks, by the three clocks it is put on. -/
def pl (c0 c1 c2 : Nat) (k : Nat) : Nat := 4 * (if k / 3 = 0 then c0 else if k / 3 = 1 then c1 else c2) + (if k % 3 = 0 then c0 else if k % 3 = 1 then c1 else c2)
def put (c0 c1 c2 : Nat) (M L : List Int) : Nat → List Int
  | 0 => L
  | k + 1 => (put c0 c1 c2 M L k).set (pl c0 c1 c2 k) (min ((put c0 c1 c2 M L k)[pl c0 c1 c2 k]?.getD 0) (M[k]?.getD 0))
theorem put_len (c0 c1 c2 : Nat) (M L : List Int) (k : Nat) : (put c0 c1 c2 M L k).length = L.length := by
  induction k with
  | zero => rfl
  | succ k ih => simp [put, ih]
end Cmp
theorem Zo.chk_mat {z : Zn} (h : Zo.chk z = 0) : Zo.mat z = (3, Zo.matL z, 0) := by
  have hk := Zo.chk_eq.1 h
  unfold Zo.mat
  unfold Dbm.close at hk
  split at hk
  · rename_i h0; rw [if_pos h0]
  · simp at hk
theorem three_at (x y v : Int) (i : Nat) (w : World) (h : i < 3) : (Instr.index 175 (.agg #[.int .i64 x, .int .i64 y, .int .i64 v]) (.int .i64 i)).run Tryz.prog w = .ok (.int .i64 (if i = 0 then x else if i = 1 then y else v)) w := by
  have : i = 0 ∨ i = 1 ∨ i = 2 := by omega
  rcases this with rfl | rfl | rfl <;> rfl
theorem zMatrixF_any (z : Zn) (w : World) :
    Calls Tryz.prog 145 #[.agg #[.int .i64 z.a, .int .i64 z.b, .int .i64 z.c, .int .i64 z.d, .int .i64 z.e, .int .i64 z.f]] w (Ret w fun v w' => ∃ a' c', v = .tuple #[.agg #[.int .i64 (Zo.mat z).1, .slice a' (Zo.mat z).2.1.length c'], .int .i64 (Zo.mat z).2.2] ∧ Fresh TB w.heap.size w' (.slice a' (Zo.mat z).2.1.length c') (Zo.mat z).2.1) := by
  refine fun_ret 0 w Tryz.func145 (args := [.agg [.val (.int .i64 z.a), .val (.int .i64 z.b), .val (.int .i64 z.c), .val (.int .i64 z.d), .val (.int .i64 z.e), .val (.int .i64 z.f)]]) rfl rfl ?_
  have st := Stay.first (w := w)
  refine NewI.mk fun b1 hb1 => ?_
  refine NewI.mk fun b2 hb2 => ?_
  apply CallI.use
  focus (exact fun w1 h1 => zmatrix_any z w1)
  rintro v w1 v1 h1 hB1 ⟨a1, c1, rfl, hF1⟩
  have st := st.next h1 (fun x hx => by simp at hx <;> omega) hB1
  refine NewI.mk fun b3 hb3 => ?_
  unfold Zo.mat
  apply CallI.use1
  focus (exact fun w2 h2 => dcheck_any 3 a1 c1 (Zo.matL z) w2 (hF1.sl.st (st.at h2 (fun x hx => by simp at hx <;> omega))))
  intro w2 v2 h2 hB2
  have st := st.next h2 (fun x hx => by simp at hx <;> omega) hB2
  refine Branch.mk (fun hc => ?_) (fun hc => ?_)
  · have h0 : ¬ Dbm.chk 3 (Zo.matL z) = 0 := by simpa using hc
    have h8 := (Dbm.chk_cases 3 (Zo.matL z)).resolve_left h0
    rw [if_neg h0, h8]
    exact EndI.mk fun w9 h9 => ⟨_, _, rfl, .inl ⟨rfl, rfl⟩⟩
  have h0 : Dbm.chk 3 (Zo.matL z) = 0 := by simpa using hc
  rw [if_pos h0]
  exact EndI.mk fun w9 h9 => ⟨_, _, rfl, ((hF1.st st).at h9 (fun b hb => by have := h1.lt b1 (by simp); have := h1.lt b2 (by simp); simp at hb; omega)).lower h1.below.size⟩
/-- where the rounds of put stand. -/
structure Cmp.At (B g g1 cap : Nat) (M0 : List Int) (X : World) (row : List Int) : Prop where
  box : X.heap[B]? = some (.cells #[.int .i64 4, .slice (some ⟨g, 0, none⟩) 16 cap] 99 (0, 0))
  row : RowAt TB X g row
  mat : RowAt TB X g1 M0
section
variable {B g g1 cap : Nat} {M0 : List Int} {X Y : World} {row : List Int}
theorem Cmp.At.to (h : Cmp.At B g g1 cap M0 X row) (k : ∀ j, j = B ∨ j = g ∨ j = g1 → Y.heap[j]? = X.heap[j]?) : Cmp.At B g g1 cap M0 Y row :=
  ⟨(k B (.inl rfl)).trans h.box, h.row.kept (k g (.inr (.inl rfl))), h.mat.kept (k g1 (.inr (.inr rfl)))⟩
theorem Cmp.At.at {w0 : Base} {hp : List LB} {r L : List Nat} (h : Cmp.At B g g1 cap M0 X row) (h1 : Eng.At w0 hp r L X Y) (hL : ∀ b, b ∈ L → b ≠ B ∧ b ≠ g ∧ b ≠ g1) : Cmp.At B g g1 cap M0 Y row :=
  h.to fun j hj => h1.step j (by rcases hj with rfl | rfl | rfl; exact lt_cellsM h.box; exact h.row.lt; exact h.mat.lt) (fun hm => by have := hL j hm; rcases hj with rfl | rfl | rfl <;> omega)
theorem Cmp.At.set (h : Cmp.At B g g1 cap M0 X row) {j : Nat} (hj : j < row.length) (x : Int) (h1 : g ≠ B) (h2 : g1 ≠ g) : Cmp.At B g g1 cap M0 (X.setCell ⟨g, j, none⟩ (.int .i64 x)) (row.set j x) :=
  ⟨(setCell_neM (fun e => h1 e.symm)).trans h.box, h.row.set hj x, h.mat.kept (setCell_neM h2)⟩
theorem Cmp.At.cell (h : Cmp.At B g g1 cap M0 X row) : X.cell? ⟨B, 1, none⟩ = some (.slice (some ⟨g, 0, none⟩) 16 cap) := by simp [World.cell?, h.box]
end
set_option maxHeartbeats 4000000 in
theorem cput_any (z : Zn) (hz : Zo.chk z = 0) (c0 c1 c2 : Nat) (h0 : c0 < 4) (h1 : c1 < 4) (h2 : c2 < 4) (n₀ B g cap : Nat) (hgB : g ≠ B) (hng : n₀ ≤ g) (L : List Int) (hL : L.length = 16) (w : World) (hn : n₀ ≤ w.heap.size)
    (hbox : w.heap[B]? = some (.cells #[.int .i64 4, .slice (some ⟨g, 0, none⟩) 16 cap] 99 (0, 0))) (hrow : RowAt TB w g L) :
    Calls Tryz.prog 144 #[.agg #[.int .i64 z.a, .int .i64 z.b, .int .i64 z.c, .int .i64 z.d, .int .i64 z.e, .int .i64 z.f], .agg #[.int .i64 c0, .int .i64 c1, .int .i64 c2], .pointer (some ⟨B, 0, none⟩)] w fun e w' => ∃ u, e = .returned u ∧ Below n₀ w w' ∧ (u = .tuple #[] ∧ w'.heap[B]? = some (.cells #[.int .i64 4, .slice (some ⟨g, 0, none⟩) 16 cap] 99 (0, 0)) ∧ RowAt TB w' g (Cmp.put c0 c1 c2 (Zo.matL z) L 9)) := by
  refine fun_at 0 n₀ w hn Tryz.func144 (args := [.agg [.val (.int .i64 z.a), .val (.int .i64 z.b), .val (.int .i64 z.c), .val (.int .i64 z.d), .val (.int .i64 z.e), .val (.int .i64 z.f)], .agg [.val (.int .i64 c0), .val (.int .i64 c1), .val (.int .i64 c2)], .val (.pointer (some ⟨B, 0, none⟩))]) rfl rfl ?_
  have hzm := fun w => zMatrixF_any z w
  rw [Zo.chk_mat hz] at hzm
  have adk : ∀ j : Nat, (⟨g, 0, none⟩ : Addr).add ((j : Int).toNat * 1) = ⟨g, j, none⟩ := fun j => by simp [addr_addL]
  refine NewI.mk fun b1 hb1 => ?_
  refine NewI.mk fun b2 hb2 => ?_
  apply CallI.use
  focus (exact fun w2 h2 => hzm w2)
  rintro v w2 v2 h2 hB2 ⟨a1, q1, rfl, hF1⟩
  refine NewI.mk fun b3 hb3 => ?_
  have hg := hrow.lt
  have hBl := lt_cellsM hbox
  obtain ⟨g1, rfl, hq1, hq2, hg1b, hR1⟩ : ∃ g1, a1 = some ⟨g1, 0, none⟩ ∧ 9 ≤ q1 ∧ q1 ≤ maxLen ∧ w2.heap.size ≤ g1 ∧ RowAt TB v2 g1 (Zo.matL z) := by
    rcases hF1 with ⟨_, e⟩ | ⟨g1, cap, e, x1, x2, x3, x4⟩
    · cases e
    · injection e with e1 e2 e3
      subst e1; subst e3
      exact ⟨g1, rfl, x1, x2, x3, x4⟩
  have hg1l := hR1.lt
  have hw2 : w.heap.size ≤ w2.heap.size := h2.size
  have hb1' : w.heap.size ≤ b1 := hb1
  have hb2' : w.heap.size ≤ b2 := hb2
  have hb3' : v2.heap.size ≤ b3 := hb3
  have hb1w : b1 < w2.heap.size := h2.lt b1 (by simp)
  have hb2w : b2 < w2.heap.size := h2.lt b2 (by simp)
  have hg1g : g1 ≠ g := by omega
  have hgr : ∀ b, b ∈ [b1, b2, b3] → b ∉ [g] := fun b hb hm => by simp at hb hm; omega
  have hL' : (Cmp.put c0 c1 c2 (Zo.matL z) L 0) = L := rfl
  have g2 := at_belowM h2 (by simp)
  have ct : Cmp.At B g g1 cap (Zo.matL z) v2 (Cmp.put c0 c1 c2 (Zo.matL z) L 0) := ⟨(hB2.block B (by omega)).trans ((g2.block B hBl).trans hbox), (hrow.kept (g2.block g hg)).kept (hB2.block g (by omega)), hR1⟩
  clear hL' hrow hbox hF1 hR1
  refine LoopI.rounds 4 ?_
  refine Branch.yes rfl ?_
  refine GenV.to (x := .int .i64 c0) (fun w => three_at c0 c1 c2 0 w (by decide)) fun r0 p0 => ?_
  have ct := ct.at p0 (by intro b hb; simp at hb <;> omega)
  refine LoopI.rounds 4 ?_
  refine Branch.yes rfl ?_
  refine GenV.to (x := .int .i64 c0) (fun w => three_at c0 c1 c2 0 w (by decide)) fun u0 k0 => ?_
  have ct := ct.at k0 (by intro b hb; simp at hb <;> omega)
  refine Need.mk (by simp only [inK]; omega) ?_
  refine Need.mk (by simp only [inK]; omega) ?_
  refine DrawI.wr (.tk 0 (.tk 1 (.tk 2 (.tk 3 (.tk 4 (.tk 5 (.tk 6 (.tk 8 (.tk 9 (.tk 10 (.tk 11 (.tk 12 (.tk 13 (.tk 14 (.tk 15 (.ev 7 (.tk 16 (.tk 17 (.ev 18 .done))))))))))))))))))) [] [g] (by kernel_rfl) rfl hgr fun x0 j0 => ?_
  have ct := ct.at j0 (by intro b hb; simp at hb <;> omega)
  have hpl : Cmp.pl c0 c1 c2 0 = 4 * c0 + c0 := rfl
  have hpk : Cmp.put c0 c1 c2 (Zo.matL z) L 1 = (Cmp.put c0 c1 c2 (Zo.matL z) L 0).set (4 * c0 + c0) (min ((Cmp.put c0 c1 c2 (Zo.matL z) L 0)[4 * c0 + c0]?.getD 0) ((Zo.matL z)[0]?.getD 0)) := rfl
  have hln := Cmp.put_len c0 c1 c2 (Zo.matL z) L 0
  generalize Cmp.put c0 c1 c2 (Zo.matL z) L 0 = R at ct hpk hln
  refine LoadI.mk ⟨_, ⟨ct.cell, by simp; exact fun e => hgB e.symm⟩, ?_⟩
  refine LoadI.mk ⟨_, ⟨ct.cell, by simp; exact fun e => hgB e.symm⟩, ?_⟩
  conv => whnf
  rw [show (4 : Int) * c0 + c0 = ((4 * c0 + c0 : Nat) : Int) by omega]
  refine IdxI.mk ⟨_, ⟨rfl, by omega, by omega⟩, ?_⟩
  refine Need.mk (by simp only [inK]; omega) ?_
  refine Need.mk (by simp only [inK]; omega) ?_
  refine IdxI.mk ⟨_, ⟨rfl, by omega, by show _ < (9 : Int); omega⟩, ?_⟩
  refine LoadI.mk ⟨_, ⟨ct.mat.cell (j := 0) (by rw [Zo.matL_len]; omega), by simp; exact hg1g⟩, ?_⟩
  rw [adk]
  refine LoadI.mk ⟨_, ⟨ct.row.cell (j := 4 * c0 + c0) (by omega), by simp⟩, ?_⟩
  refine IdxI.mk ⟨_, ⟨rfl, by omega, by omega⟩, ?_⟩
  refine StoreI.mk fun y0 i0 => ?_
  have ct := ct.at i0 (by intro b hb; simp at hb <;> omega)
  rw [adk]
  refine ⟨⟨⟨_, ct.row.cell (j := 4 * c0 + c0) (by omega)⟩, ct.row.frozen _⟩, Zo.kpD_set hng (fun b hb e => hgr b hb (by simp [e])) (by simp [locs]), ?_⟩
  conv => whnf
  have em : minL (R[4 * c0 + c0]?.getD 0) [(Zo.matL z)[0]?.getD 0] = min (R[4 * c0 + c0]?.getD 0) ((Zo.matL z)[0]?.getD 0) := by simp [minL]; omega
  rw [em]
  have ct := ct.set (j := 4 * c0 + c0) (by omega) (min (R[4 * c0 + c0]?.getD 0) ((Zo.matL z)[0]?.getD 0)) hgB hg1g
  rw [← hpk] at ct
  clear em hpk hln hpl
  generalize y0.setCell _ _ = z0 at ct ⊢
  refine Need.mk (by simp only [inK]; omega) ?_
  refine Branch.yes rfl ?_
  refine GenV.to (x := .int .i64 c1) (fun w => three_at c0 c1 c2 1 w (by decide)) fun u1 k1 => ?_
  have ct := ct.at k1 (by intro b hb; simp at hb <;> omega)
  refine Need.mk (by simp only [inK]; omega) ?_
  refine Need.mk (by simp only [inK]; omega) ?_
  refine DrawI.wr (.tk 0 (.tk 1 (.tk 2 (.tk 3 (.tk 4 (.tk 5 (.tk 6 (.tk 8 (.tk 9 (.tk 10 (.tk 11 (.tk 12 (.tk 13 (.tk 14 (.tk 15 (.ev 7 (.tk 16 (.tk 17 (.ev 18 .done))))))))))))))))))) [] [g] (by kernel_rfl) rfl hgr fun x1 j1 => ?_
  have ct := ct.at j1 (by intro b hb; simp at hb <;> omega)
  have hpl : Cmp.pl c0 c1 c2 1 = 4 * c0 + c1 := rfl
  have hpk : Cmp.put c0 c1 c2 (Zo.matL z) L 2 = (Cmp.put c0 c1 c2 (Zo.matL z) L 1).set (4 * c0 + c1) (min ((Cmp.put c0 c1 c2 (Zo.matL z) L 1)[4 * c0 + c1]?.getD 0) ((Zo.matL z)[1]?.getD 0)) := rfl
  have hln := Cmp.put_len c0 c1 c2 (Zo.matL z) L 1
  generalize Cmp.put c0 c1 c2 (Zo.matL z) L 1 = R at ct hpk hln
  refine LoadI.mk ⟨_, ⟨ct.cell, by simp; exact fun e => hgB e.symm⟩, ?_⟩
  refine LoadI.mk ⟨_, ⟨ct.cell, by simp; exact fun e => hgB e.symm⟩, ?_⟩
  conv => whnf
  rw [show (4 : Int) * c0 + c1 = ((4 * c0 + c1 : Nat) : Int) by omega]
  refine IdxI.mk ⟨_, ⟨rfl, by omega, by omega⟩, ?_⟩
  refine Need.mk (by simp only [inK]; omega) ?_
  refine Need.mk (by simp only [inK]; omega) ?_
  refine IdxI.mk ⟨_, ⟨rfl, by omega, by show _ < (9 : Int); omega⟩, ?_⟩
  refine LoadI.mk ⟨_, ⟨ct.mat.cell (j := 1) (by rw [Zo.matL_len]; omega), by simp; exact hg1g⟩, ?_⟩
  rw [adk]
  refine LoadI.mk ⟨_, ⟨ct.row.cell (j := 4 * c0 + c1) (by omega), by simp⟩, ?_⟩
  refine IdxI.mk ⟨_, ⟨rfl, by omega, by omega⟩, ?_⟩
  refine StoreI.mk fun y1 i1 => ?_
  have ct := ct.at i1 (by intro b hb; simp at hb <;> omega)
  rw [adk]
  refine ⟨⟨⟨_, ct.row.cell (j := 4 * c0 + c1) (by omega)⟩, ct.row.frozen _⟩, Zo.kpD_set hng (fun b hb e => hgr b hb (by simp [e])) (by simp [locs]), ?_⟩
  conv => whnf
  have em : minL (R[4 * c0 + c1]?.getD 0) [(Zo.matL z)[1]?.getD 0] = min (R[4 * c0 + c1]?.getD 0) ((Zo.matL z)[1]?.getD 0) := by simp [minL]; omega
  rw [em]
  have ct := ct.set (j := 4 * c0 + c1) (by omega) (min (R[4 * c0 + c1]?.getD 0) ((Zo.matL z)[1]?.getD 0)) hgB hg1g
  rw [← hpk] at ct
  clear em hpk hln hpl
  generalize y1.setCell _ _ = z1 at ct ⊢
  refine Need.mk (by simp only [inK]; omega) ?_
  refine Branch.yes rfl ?_
  refine GenV.to (x := .int .i64 c2) (fun w => three_at c0 c1 c2 2 w (by decide)) fun u2 k2 => ?_
  have ct := ct.at k2 (by intro b hb; simp at hb <;> omega)
  refine Need.mk (by simp only [inK]; omega) ?_
  refine Need.mk (by simp only [inK]; omega) ?_
  refine DrawI.wr (.tk 0 (.tk 1 (.tk 2 (.tk 3 (.tk 4 (.tk 5 (.tk 6 (.tk 8 (.tk 9 (.tk 10 (.tk 11 (.tk 12 (.tk 13 (.tk 14 (.tk 15 (.ev 7 (.tk 16 (.tk 17 (.ev 18 .done))))))))))))))))))) [] [g] (by kernel_rfl) rfl hgr fun x2 j2 => ?_
  have ct := ct.at j2 (by intro b hb; simp at hb <;> omega)
  have hpl : Cmp.pl c0 c1 c2 2 = 4 * c0 + c2 := rfl
  have hpk : Cmp.put c0 c1 c2 (Zo.matL z) L 3 = (Cmp.put c0 c1 c2 (Zo.matL z) L 2).set (4 * c0 + c2) (min ((Cmp.put c0 c1 c2 (Zo.matL z) L 2)[4 * c0 + c2]?.getD 0) ((Zo.matL z)[2]?.getD 0)) := rfl
  have hln := Cmp.put_len c0 c1 c2 (Zo.matL z) L 2
  generalize Cmp.put c0 c1 c2 (Zo.matL z) L 2 = R at ct hpk hln
  refine LoadI.mk ⟨_, ⟨ct.cell, by simp; exact fun e => hgB e.symm⟩, ?_⟩
  refine LoadI.mk ⟨_, ⟨ct.cell, by simp; exact fun e => hgB e.symm⟩, ?_⟩
  conv => whnf
  rw [show (4 : Int) * c0 + c2 = ((4 * c0 + c2 : Nat) : Int) by omega]
  refine IdxI.mk ⟨_, ⟨rfl, by omega, by omega⟩, ?_⟩
  refine Need.mk (by simp only [inK]; omega) ?_
  refine Need.mk (by simp only [inK]; omega) ?_
  refine IdxI.mk ⟨_, ⟨rfl, by omega, by show _ < (9 : Int); omega⟩, ?_⟩
  refine LoadI.mk ⟨_, ⟨ct.mat.cell (j := 2) (by rw [Zo.matL_len]; omega), by simp; exact hg1g⟩, ?_⟩
  rw [adk]
  refine LoadI.mk ⟨_, ⟨ct.row.cell (j := 4 * c0 + c2) (by omega), by simp⟩, ?_⟩
  refine IdxI.mk ⟨_, ⟨rfl, by omega, by omega⟩, ?_⟩
  refine StoreI.mk fun y2 i2 => ?_
  have ct := ct.at i2 (by intro b hb; simp at hb <;> omega)
  rw [adk]
  refine ⟨⟨⟨_, ct.row.cell (j := 4 * c0 + c2) (by omega)⟩, ct.row.frozen _⟩, Zo.kpD_set hng (fun b hb e => hgr b hb (by simp [e])) (by simp [locs]), ?_⟩
  conv => whnf
  have em : minL (R[4 * c0 + c2]?.getD 0) [(Zo.matL z)[2]?.getD 0] = min (R[4 * c0 + c2]?.getD 0) ((Zo.matL z)[2]?.getD 0) := by simp [minL]; omega
  rw [em]
  have ct := ct.set (j := 4 * c0 + c2) (by omega) (min (R[4 * c0 + c2]?.getD 0) ((Zo.matL z)[2]?.getD 0)) hgB hg1g
  rw [← hpk] at ct
  clear em hpk hln hpl
  generalize y2.setCell _ _ = z2 at ct ⊢
  refine Need.mk (by simp only [inK]; omega) ?_
  refine Branch.no rfl ?_
  refine Need.mk (by simp only [inK]; omega) ?_
  refine Branch.yes rfl ?_
  refine GenV.to (x := .int .i64 c1) (fun w => three_at c0 c1 c2 1 w (by decide)) fun r1 p1 => ?_
  have ct := ct.at p1 (by intro b hb; simp at hb <;> omega)
  refine LoopI.rounds 4 ?_
  refine Branch.yes rfl ?_
  refine GenV.to (x := .int .i64 c0) (fun w => three_at c0 c1 c2 0 w (by decide)) fun u3 k3 => ?_
  have ct := ct.at k3 (by intro b hb; simp at hb <;> omega)
  refine Need.mk (by simp only [inK]; omega) ?_
  refine Need.mk (by simp only [inK]; omega) ?_
  refine DrawI.wr (.tk 0 (.tk 1 (.tk 2 (.tk 3 (.tk 4 (.tk 5 (.tk 6 (.tk 8 (.tk 9 (.tk 10 (.tk 11 (.tk 12 (.tk 13 (.tk 14 (.tk 15 (.ev 7 (.tk 16 (.tk 17 (.ev 18 .done))))))))))))))))))) [] [g] (by kernel_rfl) rfl hgr fun x3 j3 => ?_
  have ct := ct.at j3 (by intro b hb; simp at hb <;> omega)
  have hpl : Cmp.pl c0 c1 c2 3 = 4 * c1 + c0 := rfl
  have hpk : Cmp.put c0 c1 c2 (Zo.matL z) L 4 = (Cmp.put c0 c1 c2 (Zo.matL z) L 3).set (4 * c1 + c0) (min ((Cmp.put c0 c1 c2 (Zo.matL z) L 3)[4 * c1 + c0]?.getD 0) ((Zo.matL z)[3]?.getD 0)) := rfl
  have hln := Cmp.put_len c0 c1 c2 (Zo.matL z) L 3
  generalize Cmp.put c0 c1 c2 (Zo.matL z) L 3 = R at ct hpk hln
  refine LoadI.mk ⟨_, ⟨ct.cell, by simp; exact fun e => hgB e.symm⟩, ?_⟩
  refine LoadI.mk ⟨_, ⟨ct.cell, by simp; exact fun e => hgB e.symm⟩, ?_⟩
  conv => whnf
  rw [show (4 : Int) * c1 + c0 = ((4 * c1 + c0 : Nat) : Int) by omega]
  refine IdxI.mk ⟨_, ⟨rfl, by omega, by omega⟩, ?_⟩
  refine Need.mk (by simp only [inK]; omega) ?_
  refine Need.mk (by simp only [inK]; omega) ?_
  refine IdxI.mk ⟨_, ⟨rfl, by omega, by show _ < (9 : Int); omega⟩, ?_⟩
  refine LoadI.mk ⟨_, ⟨ct.mat.cell (j := 3) (by rw [Zo.matL_len]; omega), by simp; exact hg1g⟩, ?_⟩
  rw [adk]
  refine LoadI.mk ⟨_, ⟨ct.row.cell (j := 4 * c1 + c0) (by omega), by simp⟩, ?_⟩
  refine IdxI.mk ⟨_, ⟨rfl, by omega, by omega⟩, ?_⟩
  refine StoreI.mk fun y3 i3 => ?_
  have ct := ct.at i3 (by intro b hb; simp at hb <;> omega)
  rw [adk]
  refine ⟨⟨⟨_, ct.row.cell (j := 4 * c1 + c0) (by omega)⟩, ct.row.frozen _⟩, Zo.kpD_set hng (fun b hb e => hgr b hb (by simp [e])) (by simp [locs]), ?_⟩
  conv => whnf
  have em : minL (R[4 * c1 + c0]?.getD 0) [(Zo.matL z)[3]?.getD 0] = min (R[4 * c1 + c0]?.getD 0) ((Zo.matL z)[3]?.getD 0) := by simp [minL]; omega
  rw [em]
  have ct := ct.set (j := 4 * c1 + c0) (by omega) (min (R[4 * c1 + c0]?.getD 0) ((Zo.matL z)[3]?.getD 0)) hgB hg1g
  rw [← hpk] at ct
  clear em hpk hln hpl
  generalize y3.setCell _ _ = z3 at ct ⊢
  refine Need.mk (by simp only [inK]; omega) ?_
  refine Branch.yes rfl ?_
  refine GenV.to (x := .int .i64 c1) (fun w => three_at c0 c1 c2 1 w (by decide)) fun u4 k4 => ?_
  have ct := ct.at k4 (by intro b hb; simp at hb <;> omega)
  refine Need.mk (by simp only [inK]; omega) ?_
  refine Need.mk (by simp only [inK]; omega) ?_
  refine DrawI.wr (.tk 0 (.tk 1 (.tk 2 (.tk 3 (.tk 4 (.tk 5 (.tk 6 (.tk 8 (.tk 9 (.tk 10 (.tk 11 (.tk 12 (.tk 13 (.tk 14 (.tk 15 (.ev 7 (.tk 16 (.tk 17 (.ev 18 .done))))))))))))))))))) [] [g] (by kernel_rfl) rfl hgr fun x4 j4 => ?_
  have ct := ct.at j4 (by intro b hb; simp at hb <;> omega)
  have hpl : Cmp.pl c0 c1 c2 4 = 4 * c1 + c1 := rfl
  have hpk : Cmp.put c0 c1 c2 (Zo.matL z) L 5 = (Cmp.put c0 c1 c2 (Zo.matL z) L 4).set (4 * c1 + c1) (min ((Cmp.put c0 c1 c2 (Zo.matL z) L 4)[4 * c1 + c1]?.getD 0) ((Zo.matL z)[4]?.getD 0)) := rfl
  have hln := Cmp.put_len c0 c1 c2 (Zo.matL z) L 4
  generalize Cmp.put c0 c1 c2 (Zo.matL z) L 4 = R at ct hpk hln
  refine LoadI.mk ⟨_, ⟨ct.cell, by simp; exact fun e => hgB e.symm⟩, ?_⟩
  refine LoadI.mk ⟨_, ⟨ct.cell, by simp; exact fun e => hgB e.symm⟩, ?_⟩
  conv => whnf
  rw [show (4 : Int) * c1 + c1 = ((4 * c1 + c1 : Nat) : Int) by omega]
  refine IdxI.mk ⟨_, ⟨rfl, by omega, by omega⟩, ?_⟩
  refine Need.mk (by simp only [inK]; omega) ?_
  refine Need.mk (by simp only [inK]; omega) ?_
  refine IdxI.mk ⟨_, ⟨rfl, by omega, by show _ < (9 : Int); omega⟩, ?_⟩
  refine LoadI.mk ⟨_, ⟨ct.mat.cell (j := 4) (by rw [Zo.matL_len]; omega), by simp; exact hg1g⟩, ?_⟩
  rw [adk]
  refine LoadI.mk ⟨_, ⟨ct.row.cell (j := 4 * c1 + c1) (by omega), by simp⟩, ?_⟩
  refine IdxI.mk ⟨_, ⟨rfl, by omega, by omega⟩, ?_⟩
  refine StoreI.mk fun y4 i4 => ?_
  have ct := ct.at i4 (by intro b hb; simp at hb <;> omega)
  rw [adk]
  refine ⟨⟨⟨_, ct.row.cell (j := 4 * c1 + c1) (by omega)⟩, ct.row.frozen _⟩, Zo.kpD_set hng (fun b hb e => hgr b hb (by simp [e])) (by simp [locs]), ?_⟩
  conv => whnf
  have em : minL (R[4 * c1 + c1]?.getD 0) [(Zo.matL z)[4]?.getD 0] = min (R[4 * c1 + c1]?.getD 0) ((Zo.matL z)[4]?.getD 0) := by simp [minL]; omega
  rw [em]
  have ct := ct.set (j := 4 * c1 + c1) (by omega) (min (R[4 * c1 + c1]?.getD 0) ((Zo.matL z)[4]?.getD 0)) hgB hg1g
  rw [← hpk] at ct
  clear em hpk hln hpl
  generalize y4.setCell _ _ = z4 at ct ⊢
  refine Need.mk (by simp only [inK]; omega) ?_
  refine Branch.yes rfl ?_
  refine GenV.to (x := .int .i64 c2) (fun w => three_at c0 c1 c2 2 w (by decide)) fun u5 k5 => ?_
  have ct := ct.at k5 (by intro b hb; simp at hb <;> omega)
  refine Need.mk (by simp only [inK]; omega) ?_
  refine Need.mk (by simp only [inK]; omega) ?_
  refine DrawI.wr (.tk 0 (.tk 1 (.tk 2 (.tk 3 (.tk 4 (.tk 5 (.tk 6 (.tk 8 (.tk 9 (.tk 10 (.tk 11 (.tk 12 (.tk 13 (.tk 14 (.tk 15 (.ev 7 (.tk 16 (.tk 17 (.ev 18 .done))))))))))))))))))) [] [g] (by kernel_rfl) rfl hgr fun x5 j5 => ?_
  have ct := ct.at j5 (by intro b hb; simp at hb <;> omega)
  have hpl : Cmp.pl c0 c1 c2 5 = 4 * c1 + c2 := rfl
  have hpk : Cmp.put c0 c1 c2 (Zo.matL z) L 6 = (Cmp.put c0 c1 c2 (Zo.matL z) L 5).set (4 * c1 + c2) (min ((Cmp.put c0 c1 c2 (Zo.matL z) L 5)[4 * c1 + c2]?.getD 0) ((Zo.matL z)[5]?.getD 0)) := rfl
  have hln := Cmp.put_len c0 c1 c2 (Zo.matL z) L 5
  generalize Cmp.put c0 c1 c2 (Zo.matL z) L 5 = R at ct hpk hln
  refine LoadI.mk ⟨_, ⟨ct.cell, by simp; exact fun e => hgB e.symm⟩, ?_⟩
  refine LoadI.mk ⟨_, ⟨ct.cell, by simp; exact fun e => hgB e.symm⟩, ?_⟩
  conv => whnf
  rw [show (4 : Int) * c1 + c2 = ((4 * c1 + c2 : Nat) : Int) by omega]
  refine IdxI.mk ⟨_, ⟨rfl, by omega, by omega⟩, ?_⟩
  refine Need.mk (by simp only [inK]; omega) ?_
  refine Need.mk (by simp only [inK]; omega) ?_
  refine IdxI.mk ⟨_, ⟨rfl, by omega, by show _ < (9 : Int); omega⟩, ?_⟩
  refine LoadI.mk ⟨_, ⟨ct.mat.cell (j := 5) (by rw [Zo.matL_len]; omega), by simp; exact hg1g⟩, ?_⟩
  rw [adk]
  refine LoadI.mk ⟨_, ⟨ct.row.cell (j := 4 * c1 + c2) (by omega), by simp⟩, ?_⟩
  refine IdxI.mk ⟨_, ⟨rfl, by omega, by omega⟩, ?_⟩
  refine StoreI.mk fun y5 i5 => ?_
  have ct := ct.at i5 (by intro b hb; simp at hb <;> omega)
  rw [adk]
  refine ⟨⟨⟨_, ct.row.cell (j := 4 * c1 + c2) (by omega)⟩, ct.row.frozen _⟩, Zo.kpD_set hng (fun b hb e => hgr b hb (by simp [e])) (by simp [locs]), ?_⟩
  conv => whnf
  have em : minL (R[4 * c1 + c2]?.getD 0) [(Zo.matL z)[5]?.getD 0] = min (R[4 * c1 + c2]?.getD 0) ((Zo.matL z)[5]?.getD 0) := by simp [minL]; omega
  rw [em]
  have ct := ct.set (j := 4 * c1 + c2) (by omega) (min (R[4 * c1 + c2]?.getD 0) ((Zo.matL z)[5]?.getD 0)) hgB hg1g
  rw [← hpk] at ct
  clear em hpk hln hpl
  generalize y5.setCell _ _ = z5 at ct ⊢
  refine Need.mk (by simp only [inK]; omega) ?_
  refine Branch.no rfl ?_
  refine Need.mk (by simp only [inK]; omega) ?_
  refine Branch.yes rfl ?_
  refine GenV.to (x := .int .i64 c2) (fun w => three_at c0 c1 c2 2 w (by decide)) fun r2 p2 => ?_
  have ct := ct.at p2 (by intro b hb; simp at hb <;> omega)
  refine LoopI.rounds 4 ?_
  refine Branch.yes rfl ?_
  refine GenV.to (x := .int .i64 c0) (fun w => three_at c0 c1 c2 0 w (by decide)) fun u6 k6 => ?_
  have ct := ct.at k6 (by intro b hb; simp at hb <;> omega)
  refine Need.mk (by simp only [inK]; omega) ?_
  refine Need.mk (by simp only [inK]; omega) ?_
  refine DrawI.wr (.tk 0 (.tk 1 (.tk 2 (.tk 3 (.tk 4 (.tk 5 (.tk 6 (.tk 8 (.tk 9 (.tk 10 (.tk 11 (.tk 12 (.tk 13 (.tk 14 (.tk 15 (.ev 7 (.tk 16 (.tk 17 (.ev 18 .done))))))))))))))))))) [] [g] (by kernel_rfl) rfl hgr fun x6 j6 => ?_
  have ct := ct.at j6 (by intro b hb; simp at hb <;> omega)
  have hpl : Cmp.pl c0 c1 c2 6 = 4 * c2 + c0 := rfl
  have hpk : Cmp.put c0 c1 c2 (Zo.matL z) L 7 = (Cmp.put c0 c1 c2 (Zo.matL z) L 6).set (4 * c2 + c0) (min ((Cmp.put c0 c1 c2 (Zo.matL z) L 6)[4 * c2 + c0]?.getD 0) ((Zo.matL z)[6]?.getD 0)) := rfl
  have hln := Cmp.put_len c0 c1 c2 (Zo.matL z) L 6
  generalize Cmp.put c0 c1 c2 (Zo.matL z) L 6 = R at ct hpk hln
  refine LoadI.mk ⟨_, ⟨ct.cell, by simp; exact fun e => hgB e.symm⟩, ?_⟩
  refine LoadI.mk ⟨_, ⟨ct.cell, by simp; exact fun e => hgB e.symm⟩, ?_⟩
  conv => whnf
  rw [show (4 : Int) * c2 + c0 = ((4 * c2 + c0 : Nat) : Int) by omega]
  refine IdxI.mk ⟨_, ⟨rfl, by omega, by omega⟩, ?_⟩
  refine Need.mk (by simp only [inK]; omega) ?_
  refine Need.mk (by simp only [inK]; omega) ?_
  refine IdxI.mk ⟨_, ⟨rfl, by omega, by show _ < (9 : Int); omega⟩, ?_⟩
  refine LoadI.mk ⟨_, ⟨ct.mat.cell (j := 6) (by rw [Zo.matL_len]; omega), by simp; exact hg1g⟩, ?_⟩
  rw [adk]
  refine LoadI.mk ⟨_, ⟨ct.row.cell (j := 4 * c2 + c0) (by omega), by simp⟩, ?_⟩
  refine IdxI.mk ⟨_, ⟨rfl, by omega, by omega⟩, ?_⟩
  refine StoreI.mk fun y6 i6 => ?_
  have ct := ct.at i6 (by intro b hb; simp at hb <;> omega)
  rw [adk]
  refine ⟨⟨⟨_, ct.row.cell (j := 4 * c2 + c0) (by omega)⟩, ct.row.frozen _⟩, Zo.kpD_set hng (fun b hb e => hgr b hb (by simp [e])) (by simp [locs]), ?_⟩
  conv => whnf
  have em : minL (R[4 * c2 + c0]?.getD 0) [(Zo.matL z)[6]?.getD 0] = min (R[4 * c2 + c0]?.getD 0) ((Zo.matL z)[6]?.getD 0) := by simp [minL]; omega
  rw [em]
  have ct := ct.set (j := 4 * c2 + c0) (by omega) (min (R[4 * c2 + c0]?.getD 0) ((Zo.matL z)[6]?.getD 0)) hgB hg1g
  rw [← hpk] at ct
  clear em hpk hln hpl
  generalize y6.setCell _ _ = z6 at ct ⊢
  refine Need.mk (by simp only [inK]; omega) ?_
  refine Branch.yes rfl ?_
  refine GenV.to (x := .int .i64 c1) (fun w => three_at c0 c1 c2 1 w (by decide)) fun u7 k7 => ?_
  have ct := ct.at k7 (by intro b hb; simp at hb <;> omega)
  refine Need.mk (by simp only [inK]; omega) ?_
  refine Need.mk (by simp only [inK]; omega) ?_
  refine DrawI.wr (.tk 0 (.tk 1 (.tk 2 (.tk 3 (.tk 4 (.tk 5 (.tk 6 (.tk 8 (.tk 9 (.tk 10 (.tk 11 (.tk 12 (.tk 13 (.tk 14 (.tk 15 (.ev 7 (.tk 16 (.tk 17 (.ev 18 .done))))))))))))))))))) [] [g] (by kernel_rfl) rfl hgr fun x7 j7 => ?_
  have ct := ct.at j7 (by intro b hb; simp at hb <;> omega)
  have hpl : Cmp.pl c0 c1 c2 7 = 4 * c2 + c1 := rfl
  have hpk : Cmp.put c0 c1 c2 (Zo.matL z) L 8 = (Cmp.put c0 c1 c2 (Zo.matL z) L 7).set (4 * c2 + c1) (min ((Cmp.put c0 c1 c2 (Zo.matL z) L 7)[4 * c2 + c1]?.getD 0) ((Zo.matL z)[7]?.getD 0)) := rfl
  have hln := Cmp.put_len c0 c1 c2 (Zo.matL z) L 7
  generalize Cmp.put c0 c1 c2 (Zo.matL z) L 7 = R at ct hpk hln
  refine LoadI.mk ⟨_, ⟨ct.cell, by simp; exact fun e => hgB e.symm⟩, ?_⟩
  refine LoadI.mk ⟨_, ⟨ct.cell, by simp; exact fun e => hgB e.symm⟩, ?_⟩
  conv => whnf
  rw [show (4 : Int) * c2 + c1 = ((4 * c2 + c1 : Nat) : Int) by omega]
  refine IdxI.mk ⟨_, ⟨rfl, by omega, by omega⟩, ?_⟩
  refine Need.mk (by simp only [inK]; omega) ?_
  refine Need.mk (by simp only [inK]; omega) ?_
  refine IdxI.mk ⟨_, ⟨rfl, by omega, by show _ < (9 : Int); omega⟩, ?_⟩
  refine LoadI.mk ⟨_, ⟨ct.mat.cell (j := 7) (by rw [Zo.matL_len]; omega), by simp; exact hg1g⟩, ?_⟩
  rw [adk]
  refine LoadI.mk ⟨_, ⟨ct.row.cell (j := 4 * c2 + c1) (by omega), by simp⟩, ?_⟩
  refine IdxI.mk ⟨_, ⟨rfl, by omega, by omega⟩, ?_⟩
  refine StoreI.mk fun y7 i7 => ?_
  have ct := ct.at i7 (by intro b hb; simp at hb <;> omega)
  rw [adk]
  refine ⟨⟨⟨_, ct.row.cell (j := 4 * c2 + c1) (by omega)⟩, ct.row.frozen _⟩, Zo.kpD_set hng (fun b hb e => hgr b hb (by simp [e])) (by simp [locs]), ?_⟩
  conv => whnf
  have em : minL (R[4 * c2 + c1]?.getD 0) [(Zo.matL z)[7]?.getD 0] = min (R[4 * c2 + c1]?.getD 0) ((Zo.matL z)[7]?.getD 0) := by simp [minL]; omega
  rw [em]
  have ct := ct.set (j := 4 * c2 + c1) (by omega) (min (R[4 * c2 + c1]?.getD 0) ((Zo.matL z)[7]?.getD 0)) hgB hg1g
  rw [← hpk] at ct
  clear em hpk hln hpl
  generalize y7.setCell _ _ = z7 at ct ⊢
  refine Need.mk (by simp only [inK]; omega) ?_
  refine Branch.yes rfl ?_
  refine GenV.to (x := .int .i64 c2) (fun w => three_at c0 c1 c2 2 w (by decide)) fun u8 k8 => ?_
  have ct := ct.at k8 (by intro b hb; simp at hb <;> omega)
  refine Need.mk (by simp only [inK]; omega) ?_
  refine Need.mk (by simp only [inK]; omega) ?_
  refine DrawI.wr (.tk 0 (.tk 1 (.tk 2 (.tk 3 (.tk 4 (.tk 5 (.tk 6 (.tk 8 (.tk 9 (.tk 10 (.tk 11 (.tk 12 (.tk 13 (.tk 14 (.tk 15 (.ev 7 (.tk 16 (.tk 17 (.ev 18 .done))))))))))))))))))) [] [g] (by kernel_rfl) rfl hgr fun x8 j8 => ?_
  have ct := ct.at j8 (by intro b hb; simp at hb <;> omega)
  have hpl : Cmp.pl c0 c1 c2 8 = 4 * c2 + c2 := rfl
  have hpk : Cmp.put c0 c1 c2 (Zo.matL z) L 9 = (Cmp.put c0 c1 c2 (Zo.matL z) L 8).set (4 * c2 + c2) (min ((Cmp.put c0 c1 c2 (Zo.matL z) L 8)[4 * c2 + c2]?.getD 0) ((Zo.matL z)[8]?.getD 0)) := rfl
  have hln := Cmp.put_len c0 c1 c2 (Zo.matL z) L 8
  generalize Cmp.put c0 c1 c2 (Zo.matL z) L 8 = R at ct hpk hln
  refine LoadI.mk ⟨_, ⟨ct.cell, by simp; exact fun e => hgB e.symm⟩, ?_⟩
  refine LoadI.mk ⟨_, ⟨ct.cell, by simp; exact fun e => hgB e.symm⟩, ?_⟩
  conv => whnf
  rw [show (4 : Int) * c2 + c2 = ((4 * c2 + c2 : Nat) : Int) by omega]
  refine IdxI.mk ⟨_, ⟨rfl, by omega, by omega⟩, ?_⟩
  refine Need.mk (by simp only [inK]; omega) ?_
  refine Need.mk (by simp only [inK]; omega) ?_
  refine IdxI.mk ⟨_, ⟨rfl, by omega, by show _ < (9 : Int); omega⟩, ?_⟩
  refine LoadI.mk ⟨_, ⟨ct.mat.cell (j := 8) (by rw [Zo.matL_len]; omega), by simp; exact hg1g⟩, ?_⟩
  rw [adk]
  refine LoadI.mk ⟨_, ⟨ct.row.cell (j := 4 * c2 + c2) (by omega), by simp⟩, ?_⟩
  refine IdxI.mk ⟨_, ⟨rfl, by omega, by omega⟩, ?_⟩
  refine StoreI.mk fun y8 i8 => ?_
  have ct := ct.at i8 (by intro b hb; simp at hb <;> omega)
  rw [adk]
  refine ⟨⟨⟨_, ct.row.cell (j := 4 * c2 + c2) (by omega)⟩, ct.row.frozen _⟩, Zo.kpD_set hng (fun b hb e => hgr b hb (by simp [e])) (by simp [locs]), ?_⟩
  conv => whnf
  have em : minL (R[4 * c2 + c2]?.getD 0) [(Zo.matL z)[8]?.getD 0] = min (R[4 * c2 + c2]?.getD 0) ((Zo.matL z)[8]?.getD 0) := by simp [minL]; omega
  rw [em]
  have ct := ct.set (j := 4 * c2 + c2) (by omega) (min (R[4 * c2 + c2]?.getD 0) ((Zo.matL z)[8]?.getD 0)) hgB hg1g
  rw [← hpk] at ct
  clear em hpk hln hpl
  generalize y8.setCell _ _ = z8 at ct ⊢
  refine Need.mk (by simp only [inK]; omega) ?_
  refine Branch.no rfl ?_
  refine Need.mk (by simp only [inK]; omega) ?_
  refine Branch.no rfl ?_
  refine EndI.mk fun w9 h9 => ?_
  have ct := ct.at h9 (by intro b hb; simp at hb <;> omega)
  exact ⟨rfl, ct.box, ct.row⟩
end Go.Proofs.YtjbhpfmnfdebkaaGreat

/-
  The contract of tight.Meet, by the engine.
-/
namespace Go.Proofs.YtjbhpfmnfdebkaaGreat
set_option linter.unusedVariables false
set_option linter.unusedSimpArgs false
set_option maxRecDepth 100000
open Go.RowKit Go.Proofs.YtjbhpfmnfdebkaaGreat.Eng Enc

end Go.Proofs.YtjbhpfmnfdebkaaGreat

/-
  The contracts of zone.checked and zone.Meet, by the engine.
-/
namespace Go.Proofs.YtjbhpfmnfdebkaaGreat
set_option linter.unusedVariables false
set_option linter.unusedSimpArgs false
set_option maxRecDepth 100000
open Go.RowKit Go.Proofs.YtjbhpfmnfdebkaaGreat.Eng Enc

namespace Zo
def odd (z : Zn) : Bool := decide (chk z ≠ 0)
def checks (l : List Zn) : Int := if l.any odd = true then 8 else 0
theorem chk_cases (z : Zn) : chk z = 0 ∨ chk z = 8 := by unfold chk; split <;> simp
/-- what two zones have in common. -/
def meet (a b : Zn) : Zn × Int :=
  if checks [a, b] = 0 then (if (Tg.meet 3 (matL a) 3 (matL b)).2.2 = 0 then told (Tg.meet 3 (matL a) 3 (matL b)).2.1 else (nought, (Tg.meet 3 (matL a) 3 (matL b)).2.2)) else (nought, checks [a, b])
end Zo
end Go.Proofs.YtjbhpfmnfdebkaaGreat

/-
  slices.Delete at a list of int: in place.
-/
namespace Go.Proofs.YtjbhpfmnfdebkaaGreat
set_option linter.unusedVariables false
set_option linter.unusedSimpArgs false
set_option maxRecDepth 100000
open Go.RowKit Go.Proofs.YtjbhpfmnfdebkaaGreat.Eng Enc

theorem elDI : ElOk Tryz.prog 41 3 1 8 := elOk (z := .int .i64 0) Tryz.underlying41 (by kernel_rfl) rfl (by decide)
theorem tyDI : TyOk Tryz.prog 3 ⟨[.int .i64 0], false⟩ := tyOk_one Tryz.zeroValue3 Tryz.sizeOf3 Tryz.isAgg3 rfl
theorem deleteI_any (l : List Int) (g cap base i j : Nat) (e0 : TypeId) (he : e0 = 3) (hij : i < j) (hj : j ≤ l.length) (B : Nat) (w : World) (hB : B ≤ w.heap.size) (hg : B ≤ g) (hO : Own e0 base w (.slice (some ⟨g, 0, none⟩) l.length cap) l) (hlen : l.length ≤ 1000000) :
    Calls Tryz.prog 216 #[.slice (some ⟨g, 0, none⟩) l.length cap, .int .i64 i, .int .i64 j] w fun e w' => ∃ v, e = .returned v ∧ Below B w w' ∧ v = .slice (some ⟨g, 0, none⟩) (i + (l.length - j)) cap ∧ Own e0 base w' (.slice (some ⟨g, 0, none⟩) (i + (l.length - j)) cap) (l.take i ++ l.drop j) ∧ w.grownBy w' (some g) := by
  subst he
  obtain ⟨_, hbg, hgl, cur0, _, hcap, hmax, _, _⟩ := hO.at0
  have hm : cap ≤ 9223372036854775807 := by unfold maxLen at hmax; omega
  refine fun_at 0 B w hB Tryz.func216 (args := [.val (.slice (some ⟨g, 0, none⟩) l.length cap), .val (.int .i64 i), .val (.int .i64 j)]) rfl rfl ?_
  refine Need.mk ⟨by omega, by omega, by omega, by omega⟩ ?_
  refine Branch.no (by simp; omega) ?_
  refine DrawI.wr (.tk 0 (.tk 1 (.tk 2 (.tk 3 (.tk 4 (.tk 5 (.ev 6 (.tk 7 .done)))))))) [] [g] (by kernel_rfl) rfl (fun _ h => by cases h) fun w1 h1 => ?_
  refine Need.mk ⟨by omega, by omega, by omega⟩ ?_
  refine Need.mk ⟨by omega, by omega, by omega⟩ ?_
  have hdl : (l.drop j).length = l.length - j := by simp
  have hil : (l.take i).length = i := by simp; omega
  refine GenN.mk fun w2 h2 => ?_
  have k2 := h1.go.trans (h2.go.mono h1.size)
  have hO2 : Own 3 base w2 (.slice (some ⟨g, 0, none⟩) l.length cap) l := hO.below k2
  have hT := hO2.take i (by omega)
  have hs0 := (hO2.sl).sub j l.length hj (Nat.le_refl _)
  rw [List.take_of_length_le (by simp)] at hs0
  obtain ⟨hl, hs⟩ := hs0.src
  have happ : ∃ w', (Builtin.append_ #[41, 41] 41 #[.slice (some ⟨g, 0, none⟩) i cap, .slice (if cap = j then some ⟨g, 0, none⟩ else (some (⟨g, 0, none⟩ : Addr)).map (·.add (j * size Int))) (l.length - j) (cap - j)]).run Tryz.prog w2 = .ok (.slice (some ⟨g, 0, none⟩) (i + (l.length - j)) cap) w' ∧
      Own 3 base w' (.slice (some ⟨g, 0, none⟩) (i + (l.length - j)) cap) (l.take i ++ l.drop j) ∧ w2.grownBy w' (some g) := by
    obtain ⟨ht, ⟨inf, z, hi, hz, hss, hb, hzs⟩, hp⟩ := elDI
    have hown : w2.ownsRow base 3 (size Int) (.slice (some ⟨g, 0, none⟩) i cap) i (cellsL (l.take i)) := by have := hT; unfold Own at this; rwa [hil] at this
    rcases hs with ⟨e0, hm0⟩ | ⟨ad, c, e0, hc⟩
    · split at e0 <;> simp at e0
    · rw [e0]
      rw [hdl] at hl ⊢
      obtain ⟨w', a1, a2, a3⟩ := run_append_fits (P := Tryz.prog) w2 base 41 41 3 inf (size Int) ht hi hss g i cap (cellsL (l.take i)) hown ad (l.length - j) c (cellsL (l.drop j)) hl hc (cellsL_one _) (by omega)
      refine ⟨w', a1, ?_, a3⟩
      unfold Own
      rw [cellsL_append, List.length_append, hil, hdl]; exact a2
  obtain ⟨w3, hr3, hO3, hg3⟩ := happ
  refine ⟨.slice (some ⟨g, 0, none⟩) (i + (l.length - j)) cap, w3, ?_, kpD_grown h2 hg3 (fun k hk => by injection hk with hk; subst hk; exact ⟨hg, by simp, .inl (by simp [locs])⟩), ?_⟩
  · exact run_value hr3
  have hnl : (l.take i ++ l.drop j).length = i + (l.length - j) := by rw [List.length_append, hil, hdl]
  refine Need.mk ⟨by omega, by omega, by omega⟩ ?_
  refine GenN.mk fun w4 h4 => ?_
  have hO4 := hO3.below h4.go
  have g4 : w.grownBy w4 (some g) := grown_below (grown_trans (grown_below (grown_refl w (some g)) k2) hg3) h4.go
  obtain ⟨_, _, hgl4, cur, hc4, _, _, hs4, _⟩ := hO4.at0
  have hlo : i + (l.length - j) < l.length := by omega
  have hroom : (i + (l.length - j)) * size Int + (j - i) * size Int ≤ cur.size := by
    rw [hs4, ← Nat.add_mul]; exact Nat.mul_le_mul_right _ (by omega)
  obtain ⟨vs, hvl, hrun⟩ := run_clear (P := Tryz.prog) (c := cap - (i + (l.length - j))) elDI.ht tyDI (by decide) (o := (i + (l.length - j)) * size Int) (n := j - i) hc4 hroom (by omega)
  have hvl' : vs.length = (j - i) * size Int := hvl
  refine ⟨_, _, hrun _ _ _ ?_, ⟨below_setRow (Below.refl _ _) hg _, fun b hb => by cases hb⟩, ?_⟩
  · show Value.slice (if cap = _ then _ else _) _ _ = _
    rw [if_neg (by simp only [Int.toNat_natCast]; omega)]
    simp only [Int.toNat_natCast, Option.map_some, addr_addL, Nat.zero_add, Value.slice.injEq, true_and]
    exact ⟨rfl, by omega, trivial⟩
  refine EndI.mk fun w5 h5 => ?_
  refine ⟨rfl, (hO4.setRow hc4 _ vs (by rw [hnl]; exact Nat.le_refl _) (by rw [hvl']; exact hroom)).below h5.go, ?_⟩
  exact grown_below (grown_trans g4 (grown_setRow w4 g _)) h5.go
end Go.Proofs.YtjbhpfmnfdebkaaGreat

/-
  The contracts of package proj, by the engine: made, and what hands it its places.
-/
namespace Go.Proofs.YtjbhpfmnfdebkaaGreat
set_option linter.unusedVariables false
set_option linter.unusedSimpArgs false
set_option maxRecDepth 100000
open Go.RowKit Go.Proofs.YtjbhpfmnfdebkaaGreat.Eng Enc

/-- what made makes: bound k is that at place F k, where that is not below 0. -/
def madeL (L : List Int) (F : Nat → Int) (N : Nat) : List Int := (List.range N).map fun k => if 0 ≤ F k then L[(F k).toNat]?.getD 0 else 9223372036854775807

theorem madeL_len (L : List Int) (F : Nat → Int) (N : Nat) : (madeL L F N).length = N := by simp [madeL]
/-- the row after k bounds. -/
def madeP (L : List Int) (F : Nat → Int) (N k : Nat) : List Int := (List.range N).map fun j => if j < k then (if 0 ≤ F j then L[(F j).toNat]?.getD 0 else 9223372036854775807) else 0
theorem madeP_len (L : List Int) (F : Nat → Int) (N k : Nat) : (madeP L F N k).length = N := by simp [madeP]
theorem madeP_all (L : List Int) (F : Nat → Int) (N : Nat) : madeP L F N N = madeL L F N := by
  unfold madeP madeL
  refine List.map_congr_left fun j hj => ?_
  rw [if_pos (List.mem_range.1 hj)]
theorem madeP_zero (L : List Int) (F : Nat → Int) (N : Nat) : madeP L F N 0 = List.replicate N 0 := by
  unfold madeP
  rw [List.eq_replicate_iff]
  refine ⟨by simp, fun b hb => ?_⟩
  simp at hb; exact hb.2.symm
theorem madeP_set (L : List Int) (F : Nat → Int) {N k : Nat} (hk : k < N) (x : Int) (hx : x = if 0 ≤ F k then L[(F k).toNat]?.getD 0 else 9223372036854775807) : (madeP L F N k).set k x = madeP L F N (k + 1) := by
  apply List.ext_getElem?
  intro j
  rw [List.getElem?_set]
  unfold madeP
  by_cases hj : k = j
  · subst hj
    simp [hk, hx]
  · rw [if_neg hj]
    simp only [List.getElem?_map]
    rcases Nat.lt_or_ge j N with h | h
    · rw [List.getElem?_range h]
      simp only [Option.map_some]
      have h2 : j < k + 1 ↔ j < k := by omega
      simp only [h2]
    · rw [List.getElem?_eq_none (by simpa using h)]; rfl
theorem kpD_set {w0 : Base} {wr : World} {M r : List Nat} {w1 : World} {g x : Nat} {v : Value} (hg : w0.B ≤ g) (hr : ∀ b, b ∈ r → b ≠ g) (hM : g ∈ M) : kpD w0 wr M r w1 (w1.setCell ⟨g, x, none⟩ v) := fun _ =>
  ⟨keep_set hg hr, fun k hk hkm => Below.heap_setCell _ _ _ _ (fun e => hkm (e ▸ hM))⟩
theorem row_zeros {e : TypeId} {base : Nat} {W : World} {g N : Nat} {xs : List Value} (h : W.ownsRow base e 1 (.slice (some ⟨g, 0, none⟩) N N) N xs) (hx : xs = (List.replicate N (0 : Int)).map (Value.int .i64)) : RowAt e W g (List.replicate N 0) := by
  subst hx
  have := RowAt.of_own (T := e) (L := List.replicate N 0) (cap := N) (by simpa using h)
  exact this.1

theorem infoBound0 : (Tryz.prog.info? 102).map (fun i => (i.zero, i.size, i.bytes)) = some (some (.int .i64 0), 1, 8) := by kernel_rfl

theorem pmade_any (d : Int) (L : List Int) (a : Option Addr) (cap : Nat) (m : Nat) (hm1 : 1 ≤ m) (hm4 : m ≤ 5) (fid : FuncId) (caps : Array Value) (en : Enters Tryz.prog fid) (F : Nat → Int) (w : World) (hS : Sl w.heap.size w (.slice a L.length cap) L)
    (hF : ∀ k, k < m * m → F k < L.length)
    (hcall : ∀ k W, k < m * m → Below w.heap.size w W → Calls Tryz.prog fid (.int .i64 ((k : Int).tdiv m) :: .int .i64 ((k : Int).tmod m) :: caps.toList).toArray W fun e W' => e = .returned (.int .i64 (F k)) ∧ Below W.heap.size W W') :
    Calls Tryz.prog 217 #[.agg #[.int .i64 d, .slice a L.length cap], .int .i64 m, .func (.func fid) #[] caps] w (Ret w fun v w' => ∃ a' cap', v = .agg #[.int .i64 m, .slice a' (madeL L F (m * m)).length cap'] ∧ Fresh TB w.heap.size w' (.slice a' (madeL L F (m * m)).length cap') (madeL L F (m * m))) := by
  refine fun_ret 0 w Tryz.func217 (args := [.agg [.val (.int .i64 d), .val (.slice a L.length cap)], .val (.int .i64 m), .val (.func (.func fid) #[] caps)]) rfl rfl ?_
  refine NewI.mk fun b1 hb1 => ?_
  refine NewI.mk fun b2 hb2 => ?_
  have hmm : m * m ≤ 25 := Nat.mul_le_mul hm4 hm4
  have hmm1 : 1 ≤ m * m := Nat.mul_le_mul hm1 hm1
  have emm : (m : Int) * m = ((m * m : Nat) : Int) := rfl
  refine Need.mk (by show _ ∧ _; omega) ?_
  generalize hN : m * m = N at *
  refine GenV.mk fun w1 h1 => ?_
  obtain ⟨ht, ⟨inf, z, hi, hz, hss, hby, hzs⟩, hp⟩ := elB
  obtain ⟨w2, hr2, hown, hg2⟩ := run_makeSlice_full (P := Tryz.prog) w1 w1.heap.size _ _ inf z 1 ht hi hz hss .i64 .i64 N (by omega) (by rw [hby]; omega) (by unfold maxLen; omega) (Nat.le_refl _)
  have hB2 : Below w1.heap.size w1 w2 := ⟨hg2.os, hg2.tape, hg2.output, hg2.size, fun k hk => hg2.block k hk (by simp)⟩
  refine ⟨_, w2, by rw [emm]; exact hr2, h1.keep hB2, ?_⟩
  refine NewI.mk fun b3 hb3 => ?_
  have hcells : (madeCells z.cells (N * 1)).toList = (List.replicate N (0 : Int)).map (Value.int .i64) := by
    have hzc : z = .int .i64 0 := by
      have := infoBound0
      rw [hi] at this
      simp only [Option.map_some, Option.some.injEq, Prod.mk.injEq] at this
      exact Option.some.inj (hz.symm.trans this.1)
    subst hzc
    apply List.ext_getElem?
    intro j
    rcases Nat.lt_or_ge j N with h | h
    · simp [madeCells, h, Value.cells, Nat.mod_one]
    · simp [madeCells, Nat.not_lt.2 h]
  have hr0 : RowAt TB w2 w1.heap.size (madeP L F N 0) := by rw [madeP_zero]; exact row_zeros hown hcells
  have hgw : w.heap.size ≤ w1.heap.size := h1.below.size
  have hgr : ∀ b, b ∈ [b1, b2, b3] → b ≠ w1.heap.size := by
    intro b hb e
    simp only [List.mem_cons, List.not_mem_nil, or_false] at hb
    have := hr0.lt
    rcases hb with rfl | rfl | rfl
    · have := h1.lt b (by simp); omega
    · have := h1.lt b (by simp); omega
    · omega
  have hsz1 : w1.heap.size < w2.heap.size := hr0.lt
  generalize w1.heap.size = g at *
  refine LoopI.invC (α := Nat × World) (fun y => [(19, .val (.int .i64 y.1))]) (fun y => y.2) (fun y => y.1 ≤ N ∧ Below w.heap.size w y.2 ∧ RowAt TB y.2 g (madeP L F N y.1)) (fun y => N - y.1) ?_ ?_
  · intro w5 h5
    exact ⟨(0, w5), Cov.mk (by repeat' (first | exact trivial | refine And.intro rfl ?_)) rfl rfl rfl rfl rfl, rfl, Nat.zero_le _, h5.below, hr0.at h5 (fun e => hgr b3 (by simp) (List.mem_singleton.1 e).symm)⟩
  rintro ⟨k, W⟩ ⟨hk, hW, hRk⟩
  refine Branch.mk (fun hb => ?_) (fun hb => ?_)
  · have hlt : k < N := by simpa using hb
    have hkl : ∀ i, k < (madeP L F N i).length := fun i => by rw [madeP_len]; exact hlt
    refine IdxI.mk ⟨_, ⟨rfl, by omega, by omega⟩, ?_⟩
    refine StoreI.mk fun w5 h5 => ?_
    have r5 := hRk.below h5.go hRk.lt
    rw [show ((⟨g, 0, none⟩ : Addr).add ((k : Int).toNat * 1)) = ⟨g, k, none⟩ by simp [addr_addL]]
    refine ⟨⟨⟨_, r5.cell (j := k) (hkl k)⟩, r5.frozen _⟩, keep_set hgw hgr, ?_⟩
    have r6 : RowAt TB (w5.setCell ⟨g, k, none⟩ (.int .i64 9223372036854775807)) g ((madeP L F N k).set k 9223372036854775807) := r5.set (hkl k) _
    have B6 : Below w.heap.size w (w5.setCell ⟨g, k, none⟩ (.int .i64 9223372036854775807)) := h5.below.setCell (p := ⟨g, k, none⟩) hgw _
    generalize w5.setCell ⟨g, k, none⟩ (.int .i64 9223372036854775807) = w6 at r6 B6
    refine DrawI.go (.tk 0 (.tk 1 (.tk 2 (.tk 3 (.tk 4 (.tk 5 (.tk 6 (.ev 7 (.tk 8 .done))))))))) (by kernel_rfl) fun w7 h7 => ?_
    have r7 := r6.below h7.go r6.lt
    have hdm : inK .i64 ((k : Int).tdiv m) := by
      rw [Int.tdiv_eq_ediv_of_nonneg (by omega)]
      have h0 : 0 ≤ (k : Int) / m := Int.ediv_nonneg (by omega) (by omega)
      have h1 : (k : Int) / m ≤ k := Int.ediv_le_self _ (by omega)
      show _ ∧ _; omega
    refine Need.mk ⟨by omega, hdm⟩ ?_
    refine Need.mk (by omega) ?_
    refine Need.mk en ?_
    apply CallI.use1
    · exact fun w8 h8 => hcall k w8 hlt h8.below
    intro w8 w9 h8 hB9
    have k9 := h8.step2 hB9
    have r9 := r7.below k9 r7.lt
    have B9 : Below w.heap.size w w9 := h8.below.trans (hB9.mono h8.below.size)
    refine Branch.mk (fun hc => ?_) (fun hc => ?_)
    · have hc0 : 0 ≤ F k := by simpa using hc
      refine DrawI.wr (.tk 0 (.tk 1 (.tk 2 (.tk 3 (.tk 4 (.tk 5 (.tk 6 (.tk 7 (.tk 8 (.ev 9 .done)))))))))) [] [g] (by kernel_rfl) rfl (fun b hb h => hgr b hb (by simpa using h)) fun w10 h10 => ?_
      have r10 := r9.below h10.go r9.lt
      have hFl := hF k hlt
      obtain ⟨f, hf⟩ : ∃ f : Nat, F k = f := ⟨(F k).toNat, by omega⟩
      have hfl : f < L.length := by omega
      rw [hf]
      refine hS.idx (List.getElem?_eq_getElem hfl) fun ad had => ?_
      refine hS.ld1 (List.getElem?_eq_getElem hfl) had h10.below (by intro b hb; simp at hb; subst hb; exact hgw) ?_
      refine IdxI.mk ⟨_, ⟨rfl, by omega, by omega⟩, ?_⟩
      refine StoreI.mk fun w11 h11 => ?_
      rw [show ((⟨g, 0, none⟩ : Addr).add ((k : Int).toNat * 1)) = ⟨g, k, none⟩ by simp [addr_addL]]
      have r11 := r10.below h11.go r10.lt
      have hkl' : k < ((madeP L F N k).set k 9223372036854775807).length := by simpa using hkl k
      refine ⟨⟨⟨_, r11.cell hkl'⟩, r11.frozen _⟩, kpD_set hgw hgr (by simp [locs]), ?_⟩
      refine Need.mk (by show _ ∧ _; omega) (EndI.mk fun w12 h12 => ⟨(k + 1, w12), Cov.mk (by repeat' (first | exact trivial | refine And.intro rfl ?_)) rfl rfl rfl rfl rfl, rfl, ⟨hlt, h12.below, ?_⟩, by simp only; omega⟩)
      have e1 : ((madeP L F N k).set k 9223372036854775807).set k (L[f]'hfl) = madeP L F N (k + 1) := by
        rw [List.set_set]
        exact madeP_set L F hlt _ (by rw [if_pos hc0, hf, Int.toNat_natCast, List.getElem?_eq_getElem hfl]; rfl)
      rw [← e1]
      exact (r11.set hkl' _).below h12.go (by have := r11.lt; simpa [World.setCell] using this)
    · have hc0 : ¬ 0 ≤ F k := by simpa using hc
      refine Need.mk (by show _ ∧ _; omega) (EndI.mk fun w12 h12 => ⟨(k + 1, w12), Cov.mk (by repeat' (first | exact trivial | refine And.intro rfl ?_)) rfl rfl rfl rfl rfl, rfl, ⟨hlt, h12.below, ?_⟩, by simp only; omega⟩)
      have e1 : (madeP L F N k).set k 9223372036854775807 = madeP L F N (k + 1) := madeP_set L F hlt _ (by rw [if_neg hc0])
      rw [← e1]
      exact r9.below h12.go r9.lt
  · have hge : k = N := by have : ¬ k < N := by simpa using hb
                           omega
    rw [hge, madeP_all] at hRk
    refine EndI.mk fun w5 h5 => ?_
    have hll := madeL_len L F N
    rw [hll]
    refine ⟨_, _, rfl, .inr ⟨g, N, by rw [hll], by omega, by unfold maxLen; omega, hgw, ?_⟩⟩
    exact hRk.at h5 (fun e => hgr b2 (by simp) (List.mem_singleton.1 e).symm)
end Go.Proofs.YtjbhpfmnfdebkaaGreat

/-
  The contract of proj.Drop, by the engine.
-/
namespace Go.Proofs.YtjbhpfmnfdebkaaGreat
set_option linter.unusedVariables false
set_option linter.unusedSimpArgs false
set_option maxRecDepth 100000
open Go.RowKit Go.Proofs.YtjbhpfmnfdebkaaGreat.Eng Enc

namespace Proj
/-- a clock's old number, where clock k has gone. -/
def sk (k j : Nat) : Nat := if j < k then j else j + 1
def dropAt (N k idx : Nat) : Nat := sk k (idx / (N - 1)) * N + sk k (idx % (N - 1))
def dropL (N k : Nat) (c : List Int) : List Int := (List.range ((N - 1) * (N - 1))).map fun idx => c[dropAt N k idx]?.getD 0
/-- Drop: the clocks, the bounds, and the error. -/
def drop (n : Int) (L : List Int) (k : Int) : Int × List Int × Int :=
  if Dbm.chk n L = 0 then (if k < 1 ∨ n ≤ k then (0, [], 2) else (match Dbm.closeL n.toNat L with | some c => (n - 1, dropL n.toNat k.toNat c, 0) | none => (0, [], 6))) else (0, [], 8)
end Proj

/-- the places that are handed to made: by the list of what is left, and the clocks that there were. -/
theorem drop1_any (i j : Nat) (p q : Nat) (a : Option Addr) (cap : Nat) (l : List Int) (n x y : Int) (hx : l[i]? = some x) (hy : l[j]? = some y) (hr : inK .i64 (x * n) ∧ inK .i64 (x * n + y)) (w : World) (hp : w.cell? ⟨p, 0, none⟩ = some (.slice a l.length cap)) (hS : Sl w.heap.size w (.slice a l.length cap) l) (hq : w.cell? ⟨q, 0, none⟩ = some (.int .i64 n)) :
    Calls Tryz.prog 218 #[.int .i64 i, .int .i64 j, .pointer (some ⟨p, 0, none⟩), .pointer (some ⟨q, 0, none⟩)] w fun e w' => e = .returned (.int .i64 (x * n + y)) ∧ Below w.heap.size w w' := by
  refine fun_eq 0 w Tryz.func218 (args := [.val (.int .i64 i), .val (.int .i64 j), .val (.pointer (some ⟨p, 0, none⟩)), .val (.pointer (some ⟨q, 0, none⟩))]) rfl rfl ?_
  refine DrawI.go (.tk 0 (.tk 1 (.tk 2 (.tk 3 (.tk 4 (.tk 5 (.tk 6 (.tk 7 (.tk 8 (.tk 9 (.tk 10 (.tk 11 (.tk 12 .done))))))))))))) (by kernel_rfl) fun w1 h1 => ?_
  have hb := h1.go
  refine LoadI.mk ⟨_, ⟨(hb.cell (p := ⟨p, 0, none⟩) (World.block_lt_of_cell? _ _ hp)).trans hp, by simp⟩, ?_⟩
  refine hS.idx hx fun ad had => ?_
  refine hS.ld1 hx had hb (by simp) ?_
  refine LoadI.mk ⟨_, ⟨(hb.cell (p := ⟨q, 0, none⟩) (World.block_lt_of_cell? _ _ hq)).trans hq, by simp⟩, ?_⟩
  refine Need.mk hr.1 ?_
  refine LoadI.mk ⟨_, ⟨(hb.cell (p := ⟨p, 0, none⟩) (World.block_lt_of_cell? _ _ hp)).trans hp, by simp⟩, ?_⟩
  refine hS.idx hy fun ad had => ?_
  refine hS.ld1 hy had hb (by simp) ?_
  refine Need.mk hr.2 ?_
  exact EndI.mk fun w2 h2 => rfl

abbrev TI : TypeId := 3
/-- a list of numbers from 0 on. -/
def upto (N : Nat) : List Int := (List.range N).map (Int.ofNat)
theorem upto_succ (N : Nat) : upto (N + 1) = upto N ++ [(N : Int)] := by simp [upto, List.range_succ]
theorem upto_len (N : Nat) : (upto N).length = N := by simp [upto]

/-- what is left of the clocks. -/
def leftL (N K : Nat) : List Int := (upto N).take K ++ (upto N).drop (K + 1)
theorem leftL_len {N K : Nat} (h : K < N) : (leftL N K).length = K + (N - (K + 1)) := by simp [leftL, upto_len]; omega
theorem leftL_get {N K j : Nat} (h : K < N) (hj : j < N - 1) : (leftL N K)[j]? = some (Proj.sk K j : Int) := by
  unfold leftL Proj.sk upto
  rw [List.getElem?_append]
  have hl : (List.take K (List.map Int.ofNat (List.range N))).length = K := by simp; omega
  rw [hl]
  split
  · rename_i h1
    rw [List.getElem?_take, if_pos h1, List.getElem?_map, List.getElem?_range (by omega)]; rfl
  · rename_i h1
    rw [List.getElem?_drop, List.getElem?_map, List.getElem?_range (by omega)]
    simp only [Option.map_some]
    rw [show K + 1 + (j - K) = j + 1 by omega]; rfl
theorem dropAt_lt {N k idx : Nat} (hN : 2 ≤ N) (hk : k < N) (h : idx < (N - 1) * (N - 1)) : Proj.dropAt N k idx < N * N := by
  have h1 : idx / (N - 1) < N - 1 := Nat.div_lt_of_lt_mul h
  have h2 : idx % (N - 1) < N - 1 := Nat.mod_lt _ (by omega)
  have h3 : Proj.sk k (idx / (N - 1)) < N := by unfold Proj.sk; split <;> omega
  have h4 : Proj.sk k (idx % (N - 1)) < N := by unfold Proj.sk; split <;> omega
  unfold Proj.dropAt
  calc _ < Proj.sk k (idx / (N - 1)) * N + N := by omega
    _ = (Proj.sk k (idx / (N - 1)) + 1) * N := by rw [Nat.succ_mul]
    _ ≤ N * N := Nat.mul_le_mul_right _ h3
theorem drop_any (n : Int) (a : Option Addr) (cap : Nat) (L : List Int) (k : Int) (w : World) (hS : Sl w.heap.size w (.slice a L.length cap) L) :
    Calls Tryz.prog 146 #[.agg #[.int .i64 n, .slice a L.length cap], .int .i64 k] w (Ret w fun v w' => ∃ a' cap', v = .tuple #[.agg #[.int .i64 (Proj.drop n L k).1, .slice a' (Proj.drop n L k).2.1.length cap'], .int .i64 (Proj.drop n L k).2.2] ∧ Fresh TB w.heap.size w' (.slice a' (Proj.drop n L k).2.1.length cap') (Proj.drop n L k).2.1) := by
  refine fun_ret 0 w Tryz.func146 (args := [.agg [.val (.int .i64 n), .val (.slice a L.length cap)], .val (.int .i64 k)]) rfl rfl ?_
  refine NewI.mk fun b1 hb1 => ?_
  refine NewI.mk fun b2 hb2 => ?_
  (first
    | (apply CallI.use1; (focus (exact fun w1 h1 => dcheck_any n a cap L w1 (Sl.at h1 hS))); intro w1 w2 h1 hB)
    | (refine Branch.yes rfl ?_)
    | (refine Branch.no rfl ?_)
    | (refine Branch.mk (fun hb => ?_) (fun hb => ?_))
    | (refine NewI.mk fun nb hnb => ?_)
    | (refine Need.mk (by show _ ∧ _; omega) ?_)
    | (refine Need.mk (by omega) ?_)
    | (refine Need.mk ?_ ?_)
    | (refine EndI.mk fun w1 h1 => ?_))
  -- an error
  have err : ∀ (e : Int) (w' : World), Proj.drop n L k = (0, [], e) → ∃ a' cap', Value.tuple #[.agg #[.int .i64 0, .slice none 0 0], .int .i64 e] = .tuple #[.agg #[.int .i64 (Proj.drop n L k).1, .slice a' (Proj.drop n L k).2.1.length cap'], .int .i64 (Proj.drop n L k).2.2] ∧ Fresh TB w.heap.size w' (.slice a' (Proj.drop n L k).2.1.length cap') (Proj.drop n L k).2.1 := fun e w' he => by
    rw [he]; exact ⟨_, _, rfl, .inl ⟨rfl, rfl⟩⟩
  refine Branch.mk (fun hc => ?_) (fun hc => ?_)
  · exact EndI.mk fun w3 h3 => err 8 w3 (by rw [Proj.drop, if_neg (by simpa using hc)])
  have hc0 : Dbm.chk n L = 0 := by simpa using hc
  refine Branch.mk (fun hk1 => ?_) (fun hk1 => ?_)
  · exact EndI.mk fun w3 h3 => err 2 w3 (by rw [Proj.drop, if_pos hc0, if_pos (.inl (by simpa using hk1))])
  refine Branch.mk (fun hk2 => ?_) (fun hk2 => ?_)
  · exact EndI.mk fun w3 h3 => err 2 w3 (by rw [Proj.drop, if_pos hc0, if_pos (.inr (by simpa using hk2))])
  have hk1' : 1 ≤ k := by simp at hk1; omega
  have hk2' : k < n := by simpa using hk2
  have hcon := fun (w3 : World) (h : Sl w3.heap.size w3 (.slice a L.length cap) L) => close_any n a cap L w3 h
  rcases Dbm.close_cases hc0 with ⟨h1, h2⟩ | ⟨C, hC, hcl, hCl⟩
  · simp only [h2] at hcon
    apply CallI.use
    · exact fun w3 h3 => hcon w3 (Sl.at h3 hS)
    rintro v w3 w4 h3 hB4 ⟨ac, capc, rfl, hF⟩
    refine NewI.mk fun b3 hb3 => ?_
    refine Branch.yes rfl ?_
    exact EndI.mk fun w5 h5 => err 6 w5 (by rw [Proj.drop, if_pos hc0, if_neg (by omega), h1])
  simp only [hcl] at hcon
  apply CallI.use
  · exact fun w3 h3 => hcon w3 (Sl.at h3 hS)
  rintro v w3 w4 h3 hB4 ⟨ac, capc, rfl, hF⟩
  refine NewI.mk fun b3 hb3 => ?_
  refine Branch.no rfl ?_
  refine NewI.mk fun b4 hb4 => ?_
  obtain ⟨N, rfl⟩ : ∃ N : Nat, n = N := ⟨n.toNat, by omega⟩
  obtain ⟨K, rfl⟩ : ∃ K : Nat, k = K := ⟨k.toNat, by omega⟩
  obtain ⟨c1, c2, c3, c4⟩ := Dbm.chk_iff.1 hc0
  have hlen : C.length = N * N := by rw [hCl]; exact_mod_cast c3
  have hN4 : N ≤ 4 := by omega
  have hK1 : 1 ≤ K := by omega
  have hKN : K < N := by omega
  have hN2 : 2 ≤ N := by omega
  have hw4b : Below w.heap.size w w4 := h3.below.trans (hB4.mono h3.below.size)
  have hw4 : ∀ b, b ∈ [b1, b2] → b < w4.heap.size := fun b hb => Nat.lt_of_lt_of_le (h3.lt b hb) hB4.size
  obtain ⟨X, hX3, hX4, hXw, hXm⟩ : ∃ X, b3 < X ∧ b4 < X ∧ w4.heap.size ≤ X ∧ ∀ n, b3 < n → b4 < n → w4.heap.size ≤ n → X ≤ n := ⟨max (max b3 b4 + 1) w4.heap.size, by omega, by omega, by omega, fun n h1 h2 h3 => by omega⟩
  refine LoopI.inv (α := Nat × World × Value) (fun y => [(36, .val (.int .i64 y.1))]) (fun y => [⟨[.val (.int .i64 N), .val (.slice a L.length cap)], 99⟩, ⟨[.val (.int .i64 0), .val (.slice none 0 0)], 99⟩, ⟨[.val (.int .i64 N), .val (.slice ac C.length capc)], 99⟩, ⟨[.val y.2.2], 41⟩]) (fun y => y.2.1)
    (fun y => y.1 ≤ N ∧ Below w4.heap.size w4 y.2.1 ∧ X ≤ y.2.1.heap.size ∧ Own TI X y.2.1 y.2.2 (upto y.1)) (fun y => N - y.1) ?_ ?_
  · intro w5 h5
    exact ⟨(0, w5, .slice none 0 0), Cov.mk (by repeat' (first | exact trivial | refine And.intro rfl ?_)) rfl rfl rfl rfl rfl, rfl, Nat.zero_le _, h5.from hw4b (Below.refl _ _) (by intro b hb; simp at hb; subst hb; exact hb3), hXm _ (h5.lt b3 (by simp)) (h5.lt b4 (by simp)) h5.size, Own.nil⟩
  rintro ⟨i, W, sv⟩ ⟨hi, hBW, hXW, hO⟩
  refine Branch.mk (fun hb => ?_) (fun hb => ?_)
  · have hlt : i < N := by simpa using hb
    refine NewI.mk fun b5 hb5 => ?_
    have hb5' : W.heap.size ≤ b5 := hb5
    have hXW' : X ≤ W.heap.size := hXW
    have hO1 : Own TI X W sv (upto i) := hO
    have hBW' : Below w4.heap.size w4 W := hBW
    have hr : ∀ g, sv.ownBlock = some g → w.heap.size ≤ g ∧ g ∉ [b1, b2, b3, b4, b5] := fun g hg => by
      have := hO1.lt g hg
      refine ⟨Nat.le_trans (Nat.le_trans (Nat.le_trans h3.below.size hB4.size) hXw) this.1, fun hm => ?_⟩
      simp only [List.mem_cons, List.not_mem_nil, or_false] at hm
      rcases hm with rfl | rfl | rfl | rfl | rfl
      · have := hw4 g (by simp); omega
      · have := hw4 g (by simp); omega
      · omega
      · omega
      · omega
    refine GenN.app (α := Int) elDI (upto i) [(i : Int)] X (fun w5 h5 => hO1.below h5.go) (fun w5 h5 => src_own h5 4 rfl rfl rfl rfl) (by rw [upto_len]; unfold maxLen; simp; omega) (by rw [upto_len]; simp; omega) (fun w5 h5 => Nat.le_trans hXW' h5.size)
      (fun w5 w6 h5 hg => keep_grown h5 hg hr) fun sv' w5 w6 h5 hg hO' => ?_
    obtain ⟨a', c', rfl⟩ := hO'.form
    rw [← upto_succ] at hO'
    have hB6 : Below w4.heap.size w4 w6 := ⟨hg.os.trans h5.go.os |>.trans hBW'.os, hg.tape.trans h5.go.tape |>.trans hBW'.tape, hg.output.trans h5.go.output |>.trans hBW'.output, Nat.le_trans hBW'.size (Nat.le_trans h5.size hg.size), fun k hk => by
      have hkW : k < W.heap.size := Nat.lt_of_lt_of_le hk hBW'.size
      refine (hg.block k (Nat.lt_of_lt_of_le hkW h5.size) (fun e => ?_)).trans ((h5.go.block k hkW).trans (hBW'.block k hk))
      have := hO1.lt k e.symm
      omega⟩
    refine Need.mk (by show _ ∧ _; omega) (EndI.mk fun w7 h7 => ⟨(i + 1, w7, .slice a' (upto i ++ [(i : Int)]).length c'), Cov.mk (by repeat' (first | exact trivial | refine And.intro rfl ?_)) rfl rfl rfl rfl rfl, rfl, ⟨hlt, ?_, ?_, ?_⟩, by simp only; omega⟩)
    · exact h7.from hw4b hB6 (by intro b hb; simp at hb; subst hb; exact hb4)
    · exact Nat.le_trans hXW' (Nat.le_trans h5.size (Nat.le_trans hg.size h7.size))
    · rw [← upto_succ]
      exact hO'.at h7 (by intro b hb; simp at hb; subst hb; exact hX4)
  · have hge : i = N := by have : ¬ i < N := by simpa using hb
                           omega
    have hO1 : Own TI X W sv (upto N) := by rw [← hge]; exact hO
    have hBW' : Below w4.heap.size w4 W := hBW
    have hXW' : X ≤ W.heap.size := hXW
    clear hO hBW hXW hi hb hge
    obtain ⟨g, cg, rfl⟩ : ∃ g c, sv = .slice (some ⟨g, 0, none⟩) (upto N).length c := by
      obtain ⟨_, ⟨rfl, h0⟩ | ⟨g, c, cur, rfl, _⟩⟩ := id hO1
      · rw [upto_len] at h0; omega
      · exact ⟨g, c, rfl⟩
    obtain ⟨_, hXg, hgW, _⟩ := hO1.at0
    have hgw : w.heap.size ≤ g := Nat.le_trans hw4b.size (Nat.le_trans hXw hXg)
    have hgr : ∀ b, b ∈ [b1, b2, b3, b4] → b ≠ g := by
      intro b hb e
      simp only [List.mem_cons, List.not_mem_nil, or_false] at hb
      rcases hb with rfl | rfl | rfl | rfl
      · have := hw4 b (by simp); omega
      · have := hw4 b (by simp); omega
      · omega
      · omega
    refine Need.mk (by show _ ∧ _; omega) ?_
    apply CallI.mk
    intro w5 h5
    refine (deleteI_any (upto N) g cg X K (K + 1) TI rfl (by omega) (by rw [upto_len]; omega) w.heap.size w5 h5.below.size hgw (hO1.below h5.go) (by rw [upto_len]; omega)).mono ?_
    rintro e w6 ⟨v, rfl, hB6, rfl, hO6, hg6⟩
    refine ⟨⟨hB6, fun b hb => hg6.block b (h5.lt b hb) (fun e => hgr b hb (by injection e))⟩, _, rfl, ?_⟩
    have B46 : Below w4.heap.size w4 w6 := ⟨hg6.os.trans (h5.go.os.trans hBW'.os), hg6.tape.trans (h5.go.tape.trans hBW'.tape), hg6.output.trans (h5.go.output.trans hBW'.output), Nat.le_trans hBW'.size (Nat.le_trans h5.size hg6.size), fun k hk => by
      have hkW : k < W.heap.size := Nat.lt_of_lt_of_le hk hBW'.size
      refine (hg6.block k (Nat.lt_of_lt_of_le hkW h5.size) (fun e => ?_)).trans ((h5.go.block k hkW).trans (hBW'.block k hk))
      injection e with e; omega⟩
    have hm : K + ((upto N).length - (K + 1)) = N - 1 := by rw [upto_len]; omega
    rw [hm] at hO6 ⊢
    have hll : (leftL N K).length = N - 1 := by rw [leftL_len hKN]; omega
    have hO6' : Own TI X w6 (.slice (some ⟨g, 0, none⟩) (leftL N K).length cg) (leftL N K) := by rw [hll]; exact hO6
    apply CallI.use
    · intro w7 h7
      have B47 : Below w4.heap.size w4 w7 := h7.from hw4b B46 (by intro b hb; simp at hb; subst hb; exact hb4)
      refine pmade_any N C ac capc (N - 1) (by omega) (by omega) 218 #[.pointer (some ⟨b4, 0, none⟩), .pointer (some ⟨b3, 0, none⟩)] Tryz.call218 (fun idx => (Proj.dropAt N K idx : Int)) w7 ((hF.sl.below B47).upto B47.size) (fun k hk => by
        rw [hlen]; exact Int.ofNat_lt.2 (dropAt_lt hN2 hKN hk)) (fun k W' hk hW' => ?_)
      have h1 : k / (N - 1) < N - 1 := Nat.div_lt_of_lt_mul hk
      have h2 : k % (N - 1) < N - 1 := Nat.mod_lt _ (by omega)
      have hs : Sl w7.heap.size w7 (.slice (some ⟨g, 0, none⟩) (leftL N K).length cg) (leftL N K) := (hO6'.at h7 (by intro b hb; simp at hb; subst hb; exact hX4)).sl
      have hb4' := h7.lt b4 (by simp)
      have hb3' := h7.lt b3 (by simp)
      have sk1 : Proj.sk K (k / (N - 1)) < N := by unfold Proj.sk; split <;> omega
      have sk2 : Proj.sk K (k % (N - 1)) < N := by unfold Proj.sk; split <;> omega
      have hmul : Proj.sk K (k / (N - 1)) * N ≤ 4 * 4 := Nat.mul_le_mul (by omega) hN4
      have emul : (Proj.sk K (k / (N - 1)) : Int) * (N : Int) = ((Proj.sk K (k / (N - 1)) * N : Nat) : Int) := rfl
      refine drop1_any (k / (N - 1)) (k % (N - 1)) b4 b3 (some ⟨g, 0, none⟩) cg (leftL N K) N _ _ (leftL_get hKN h1) (leftL_get hKN h2) (by rw [emul]; constructor <;> (show _ ∧ _; omega)) W' ?_ (hs.go hW' hW'.size) ?_
      · refine (hW'.cell (p := ⟨b4, 0, none⟩) hb4').trans ?_
        rw [hll]; exact h7.own (i := 3) (o := 0) rfl rfl rfl
      · refine (hW'.cell (p := ⟨b3, 0, none⟩) hb3').trans ?_
        exact h7.own (i := 2) (o := 0) rfl rfl rfl
    rintro v w7 w8 h7 hB8 ⟨ad, cd, rfl, hFd⟩
    refine EndI.mk fun w9 h9 => ?_
    have hdl : madeL C (fun idx => (Proj.dropAt N K idx : Int)) ((N - 1) * (N - 1)) = Proj.dropL N K C := by
      unfold madeL Proj.dropL
      refine List.map_congr_left fun j hj => ?_
      show (if 0 ≤ ((Proj.dropAt N K j : Nat) : Int) then _ else _) = _
      rw [if_pos (Int.natCast_nonneg _), Int.toNat_natCast]
    have hdr : Proj.drop N L K = ((N : Int) - 1, Proj.dropL N K C, 0) := by
      rw [Proj.drop, if_pos hc0, if_neg (by omega), hC]; rfl
    rw [hdr]
    rw [hdl] at hFd ⊢
    have en : ((N - 1 : Nat) : Int) = (N : Int) - 1 := by omega
    rw [en]
    refine ⟨_, _, rfl, ?_⟩
    exact (hFd.at h9 (fun b hb => by have := h7.lt b2 (by simp); rw [List.mem_singleton.1 hb]; exact this)).lower h7.below.size
end Go.Proofs.YtjbhpfmnfdebkaaGreat

/-
  The contract of comp.Comp, by the engine.
-/
namespace Go.Proofs.YtjbhpfmnfdebkaaGreat
set_option linter.unusedVariables false
set_option linter.unusedSimpArgs false
set_option maxRecDepth 100000
open Go.RowKit Go.Proofs.YtjbhpfmnfdebkaaGreat.Eng Enc

theorem cell_twoM {W : World} {B : Nat} {u v : Value} {t : TypeId} (h : W.heap[B]? = some (.cells #[u, v] t (0, 0))) : ∀ (j : Nat) (c : Value), [u, v][j]? = some c → W.cell? ((⟨B, 0, none⟩ : Addr).add j) = some c
  | 0, c, e => by injection e with e; subst e; simp [Addr.add, World.cell?, h]
  | 1, c, e => by injection e with e; subst e; simp [Addr.add, World.cell?, h]
  | j + 2, c, e => by simp at e
namespace Cmp
/-- the matrix of two zones one behind the other: 0, t, s, u. -/
def mat (a b : Zn) : List Int := put 0 2 3 (Zo.matL b) (put 0 1 2 (Zo.matL a) (Dbm.topL 4) 9) 9
theorem mat_len (a b : Zn) : (mat a b).length = 16 := by unfold mat; rw [put_len, put_len]; rfl
def comp (a b : Zn) : Zn × Int :=
  if Zo.chk a = 0 ∧ Zo.chk b = 0 then (if (Proj.drop 4 (mat a b) 2).2.2 = 0 then Zo.of (Proj.drop 4 (mat a b) 2).1 (Proj.drop 4 (mat a b) 2).2.1 else (Zo.nought, (Proj.drop 4 (mat a b) 2).2.2)) else (Zo.nought, 8)
theorem top4 : Dbm.top 4 = (4, Dbm.topL 4, 0) := rfl
end Cmp
theorem ccomp_any (a b : Zn) (w : World) :
    Calls Tryz.prog 77 #[.agg #[.int .i64 a.a, .int .i64 a.b, .int .i64 a.c, .int .i64 a.d, .int .i64 a.e, .int .i64 a.f], .agg #[.int .i64 b.a, .int .i64 b.b, .int .i64 b.c, .int .i64 b.d, .int .i64 b.e, .int .i64 b.f]] w fun e w' => e = .returned (.tuple #[.agg #[.int .i64 (Cmp.comp a b).1.a, .int .i64 (Cmp.comp a b).1.b, .int .i64 (Cmp.comp a b).1.c, .int .i64 (Cmp.comp a b).1.d, .int .i64 (Cmp.comp a b).1.e, .int .i64 (Cmp.comp a b).1.f], .int .i64 (Cmp.comp a b).2]) ∧ Below w.heap.size w w' := by
  refine fun_eq 0 w Tryz.func77 (args := [.agg [.val (.int .i64 a.a), .val (.int .i64 a.b), .val (.int .i64 a.c), .val (.int .i64 a.d), .val (.int .i64 a.e), .val (.int .i64 a.f)], .agg [.val (.int .i64 b.a), .val (.int .i64 b.b), .val (.int .i64 b.c), .val (.int .i64 b.d), .val (.int .i64 b.e), .val (.int .i64 b.f)]]) rfl rfl ?_
  have st := Stay.first (w := w)
  refine NewI.mk fun b1 hb1 => ?_
  refine NewI.mk fun b2 hb2 => ?_
  refine NewI.mk fun b3 hb3 => ?_
  unfold Cmp.comp
  apply CallI.use1
  focus (exact fun w1 h1 => zcheck_any a w1)
  intro w1 v1 h1 hB1
  have st := st.next h1 (fun x hx => by simp at hx <;> omega) hB1
  refine Branch.mk (fun hc => ?_) (fun hc => ?_)
  · have h0 : ¬ Zo.chk a = 0 := by simpa using hc
    rw [if_neg (fun h => h0 h.1)]
    exact EndI.mk fun w9 h9 => rfl
  have h0a : Zo.chk a = 0 := by simpa using hc
  apply CallI.use1
  focus (exact fun w2 h2 => zcheck_any b w2)
  intro w2 v2 h2 hB2
  have st := st.next h2 (fun x hx => by simp at hx <;> omega) hB2
  refine Branch.mk (fun hc2 => ?_) (fun hc2 => ?_)
  · have h0 : ¬ Zo.chk b = 0 := by simpa using hc2
    rw [if_neg (fun h => h0 h.2)]
    exact EndI.mk fun w9 h9 => rfl
  have h0b : Zo.chk b = 0 := by simpa using hc2
  rw [if_pos ⟨h0a, h0b⟩]
  have htp := fun w => top_any 4 w
  rw [Cmp.top4] at htp
  apply CallI.use
  focus (exact fun w3 h3 => htp w3)
  rintro v w3 v3 h3 hB3 ⟨at_, ct, rfl, hOt⟩
  have st := st.next h3 (fun x hx => by simp at hx <;> omega) hB3
  refine NewI.frn fun w4 h4 => ?_
  have hlb : ∀ x, x ∈ [b1, b2, b3] → x < w3.heap.size := fun x hx => h3.lt x hx
  have hw34 : w3.heap.size ≤ w4.heap.size := Nat.le_trans hB3.size h4.size
  have hww : w.heap.size ≤ w3.heap.size := h3.below.size
  have hOt4 := hOt.st (st.at h4 (fun x hx => by simp at hx <;> omega))
  obtain ⟨g, rfl, hgb, hrow4⟩ := hOt4.row (by show 0 < 16; omega)
  have hg4 := hrow4.lt
  have hw4 := h4.below
  refine Need.mk rfl ?_
  refine StoreA.mk fun w5 h5 => ?_
  have hbox0 : (w4.alloc (.cells #[.int .i64 0, .slice none 0 0] 99)).heap[w4.heap.size]? = some (.cells #[.int .i64 0, .slice none 0 0] 99 (0, 0)) := World.alloc_heap_new w4 _
  have g5 := at_belowM h5 (by simp)
  have hbox5 := (g5.block _ (lt_cellsM hbox0)).trans hbox0
  have hrow5 : RowAt TB w5 g (Dbm.topL 4) := (rowAt_alloc hrow4 _).below g5 (by simp; omega)
  refine ⟨w4.heap.size, 0, #[.int .i64 0, .slice none 0 0], _, rfl, hbox5, by show 2 ≤ 2; omega, keep_grown h5 (grown_setRow _ _ _) (fun k hk => by injection hk with hk; subst hk; exact ⟨hw4.size, fun hm => by have := hlb _ hm; omega⟩), ?_⟩
  generalize hX : World.setRow w5 w4.heap.size _ = w6
  have hgr5 : w5.grownBy w6 (some w4.heap.size) := by rw [← hX]; exact grown_setRow _ _ _
  have hbox6 : w6.heap[w4.heap.size]? = some (.cells #[.int .i64 4, .slice (some ⟨g, 0, none⟩) 16 ct] 99 (0, 0)) := by
    rw [← hX]; exact setRow_heap w5 _ _ _ _ _ hbox5
  clear hX
  have hrow6 : RowAt TB w6 g (Dbm.topL 4) := hrow5.kept (hgr5.block g hrow5.lt (fun e => by injection e with e; omega))
  have hw6 := grown_belowM (h5.below) hgr5 (fun k hk => by injection hk with hk; subst hk; exact hw4.size) h5.below.size
  have hs6 := hgr5.size
  have hs5 := h5.size
  generalize w4.heap.size = B at *
  have hB6 := lt_cellsM hbox6
  refine CallI.mk fun w7 h7 => ?_
  have g7 := at_belowM h7 (by simp)
  have hgB : g ≠ B := by omega
  refine (cput_any a h0a 0 1 2 (by omega) (by omega) (by omega) w3.heap.size B g ct hgB hgb (Dbm.topL 4) rfl w7 (by have := g7.size; omega) ((g7.block B (lt_cellsM hbox6)).trans hbox6) (hrow6.below g7 hrow6.lt)).mono ?_
  rintro e w8 ⟨u, rfl, hB8, rfl, hbox8, hrow8⟩
  have hw7 := h7.below
  have hs7 := g7.size
  have hs8 := hB8.size
  refine ⟨⟨hB8.mono hww, fun b hb => hB8.block b (hlb b hb)⟩, _, rfl, ?_⟩
  refine CallI.mk fun w9 h9 => ?_
  have g9 := at_belowM h9 (by simp)
  refine (cput_any b h0b 0 2 3 (by omega) (by omega) (by omega) w3.heap.size B g ct hgB hgb _ (by rw [Cmp.put_len]; rfl) w9 (by have := g9.size; omega) ((g9.block B (lt_cellsM hbox8)).trans hbox8) (hrow8.below g9 hrow8.lt)).mono ?_
  rintro e w10 ⟨u, rfl, hB10, rfl, hbox10, hrow10⟩
  have hw9 := h9.below
  have hs9 := g9.size
  have hs10 := hB10.size
  refine ⟨⟨hB10.mono hww, fun b hb => hB10.block b (hlb b hb)⟩, _, rfl, ?_⟩
  change RowAt TB w10 g (Cmp.mat a b) at hrow10
  have hml := Cmp.mat_len a b
  have hw10 : Below w.heap.size w w10 := hw9.trans (hB10.mono hww)
  refine LoadA.mk ⟨[.int .i64 4, .slice (some ⟨g, 0, none⟩) 16 ct], ⟨rfl, by decide, by simp, cell_twoM hbox10⟩, ?_⟩
  have hcap : 16 ≤ ct ∧ ct ≤ maxLen := by
    obtain ⟨_, _, e, x1, x2, _⟩ := hOt.sl.form
    injection e with _ _ e
    subst e
    exact ⟨x1, x2⟩
  have hdr := fun w h => drop_any 4 (some ⟨g, 0, none⟩) ct (Cmp.mat a b) 2 w h
  rw [hml] at hdr
  apply CallI.use
  focus (exact fun w11 h11 => hdr w11 (by
    have := (hrow10.below (at_belowM h11 (by simp)) hrow10.lt).sl (cap := ct) (by omega) hcap.2
    rw [hml] at this; exact this))
  rintro v w11 v11 h11 hB11 ⟨a11, c11, rfl, hF11⟩
  refine NewI.mk fun b9 hb9 => ?_
  generalize Proj.drop 4 (Cmp.mat a b) 2 = X at *
  obtain ⟨n, D, e⟩ := X
  simp only at hF11 ⊢
  refine Branch.mk (fun hc3 => ?_) (fun hc3 => ?_)
  · have h9 : e ≠ 0 := by simpa using hc3
    rw [if_neg h9]
    exact EndI.mk fun w9 h9 => rfl
  · have h9 : e = 0 := by simpa using hc3
    rw [if_pos h9]
    apply CallI.use1
    focus (exact fun w12 h12 => zof_any n a11 c11 D w12 ((hF11.sl).go (at_belowM h12 (by simp <;> omega)) h12.size))
    intro w12 v12 h12 hB12
    exact EndI.mk fun w9 h9 => rfl
end Go.Proofs.YtjbhpfmnfdebkaaGreat

/-
  The contracts of zset.paired, Or, And, Comp, by the engine.
-/
namespace Go.Proofs.YtjbhpfmnfdebkaaGreat
set_option linter.unusedVariables false
set_option linter.unusedSimpArgs false
set_option maxRecDepth 100000
open Go.RowKit Go.Proofs.YtjbhpfmnfdebkaaGreat.Eng Enc

namespace Zs
/-- what two lists come to, zone by zone of the first one. -/
def pairGo (f : Zn → Zn → Zn × Int) (b : List Zn) : List Zn → List Zn → List Zn × Int
  | out, [] => (out, 0)
  | out, x :: a => if (come (f x) out b).2 = 0 then pairGo f b (come (f x) out b).1 a else ([], (come (f x) out b).2)
theorem pairGo_cons (f : Zn → Zn → Zn × Int) (b out a : List Zn) (x : Zn) : pairGo f b out (x :: a) = if (come (f x) out b).2 = 0 then pairGo f b (come (f x) out b).1 a else ([], (come (f x) out b).2) := rfl
def paired (f : Zn → Zn → Zn × Int) (a b : List Zn) : List Zn × Int := if Cv.checked [a, b] = 0 then pairGo f b [] a else ([], Cv.checked [a, b])
def or (a b : List Zn) : List Zn × Int := if Cv.checked [a, b] = 0 then Cv.prune (a ++ b) else ([], Cv.checked [a, b])
def and (a b : List Zn) : List Zn × Int := paired Zo.meet a b
def comp (a b : List Zn) : List Zn × Int := paired Cmp.comp a b
theorem checked_len {l m : List Zn} (h0 : Cv.checked [l, m] = 0) : l.length ≤ 4096 ∧ m.length ≤ 4096 := by
  unfold Cv.checked at h0
  split at h0
  · cases h0
  · rename_i hn
    rw [List.any_eq_true] at hn
    constructor
    · apply Classical.byContradiction; intro hh; exact hn ⟨l, by simp, decide_eq_true (by omega)⟩
    · apply Classical.byContradiction; intro hh; exact hn ⟨m, by simp, decide_eq_true (by omega)⟩
theorem come_len (f : Zn → Zn × Int) : ∀ (l out : List Zn), (come f out l).2 = 0 → (come f out l).1.length ≤ 4096
  | [], out, h => by
    have h := h
    change (Cv.prune out).2 = 0 at h
    have hw := Cv.prune_ok h
    exact Nat.le_trans hw.mlen hw.len
  | x :: l, out, h => by
    rw [come_cons] at h ⊢
    split at h
    · rename_i h0; rw [if_pos h0]; exact come_len f l _ h
    · rename_i h0
      rw [if_neg h0]
      split at h
      · rename_i h1; rw [if_pos h1]; exact come_len f l _ h
      · rename_i h1; rw [if_neg h1]; exact Nat.zero_le _
end Zs
theorem cell_nM {W : World} {B : Nat} {vs : List Value} {t : TypeId} (h : W.heap[B]? = some (.cells vs.toArray t (0, 0))) (j : Nat) (c : Value) (hj : vs[j]? = some c) : W.cell? ((⟨B, 0, none⟩ : Addr).add j) = some c := by
  rw [addr_addL]
  simp [World.cell?, h, hj]
/-- a whole block that is none of the run's own is stored. -/
theorem storeA_new {w0 : Base} {hp : List LB} {r L : List Nat} {w : World} {K : World → Prop} {B : Nat} {vs : List Value} {cs : Array Value} {ty : TypeId} (hb : w0.B ≤ B) (hr : B ∉ r) (hl : vs.length = cs.size)
    (hbox : ∀ w1, At w0 hp r L w w1 → w1.heap[B]? = some (.cells cs ty (0, 0)))
    (hk : ∀ X w1, At w0 hp r L w w1 → w1.grownBy X (some B) → X.heap[B]? = some (.cells vs.toArray ty (0, 0)) → K X) : StoreA w0 (Keep w0) ⟨B, 0, none⟩ vs hp r L w K :=
  StoreA.mk fun w1 h1 => by
    have he : (cs.toList.take 0 ++ vs ++ cs.toList.drop (0 + vs.length)).toArray = vs.toArray := by
      rw [List.drop_of_length_le (by simp; omega)]; simp
    refine ⟨B, 0, cs, ty, rfl, hbox w1 h1, by omega, keep_grown h1 (grown_setRow _ _ _) (fun k hk => by injection hk with hk; subst hk; exact ⟨hb, hr⟩), ?_⟩
    rw [he]
    exact hk _ w1 h1 (grown_setRow _ _ _) (setRow_heap w1 B _ _ _ _ (hbox w1 h1))
theorem pairer_any (f : Zn → Zn → Zn × Int) (fid : FuncId) (en : Enters Tryz.prog fid) (x y : Zn) (Bf Bx : Nat) (w : World)
    (hf : w.heap[Bf]? = some (.cells #[.func (.func fid) #[] #[]] 123 (0, 0)))
    (hx : w.heap[Bx]? = some (.cells #[.int .i64 x.a, .int .i64 x.b, .int .i64 x.c, .int .i64 x.d, .int .i64 x.e, .int .i64 x.f] 104 (0, 0)))
    (hcall : ∀ W, Calls Tryz.prog fid #[.agg #[.int .i64 x.a, .int .i64 x.b, .int .i64 x.c, .int .i64 x.d, .int .i64 x.e, .int .i64 x.f], .agg #[.int .i64 y.a, .int .i64 y.b, .int .i64 y.c, .int .i64 y.d, .int .i64 y.e, .int .i64 y.f]] W fun e W' => e = .returned (.tuple #[.agg #[.int .i64 (f x y).1.a, .int .i64 (f x y).1.b, .int .i64 (f x y).1.c, .int .i64 (f x y).1.d, .int .i64 (f x y).1.e, .int .i64 (f x y).1.f], .int .i64 (f x y).2]) ∧ Below W.heap.size W W') :
    Calls Tryz.prog 141 #[.agg #[.int .i64 y.a, .int .i64 y.b, .int .i64 y.c, .int .i64 y.d, .int .i64 y.e, .int .i64 y.f], .pointer (some ⟨Bf, 0, none⟩), .pointer (some ⟨Bx, 0, none⟩)] w fun e w' => e = .returned (.tuple #[.agg #[.int .i64 (f x y).1.a, .int .i64 (f x y).1.b, .int .i64 (f x y).1.c, .int .i64 (f x y).1.d, .int .i64 (f x y).1.e, .int .i64 (f x y).1.f], .int .i64 (f x y).2]) ∧ Below w.heap.size w w' := by
  refine fun_eq 0 w Tryz.func141 (args := [.agg [.val (.int .i64 y.a), .val (.int .i64 y.b), .val (.int .i64 y.c), .val (.int .i64 y.d), .val (.int .i64 y.e), .val (.int .i64 y.f)], .val (.pointer (some ⟨Bf, 0, none⟩)), .val (.pointer (some ⟨Bx, 0, none⟩))]) rfl rfl ?_
  refine NewI.mk fun b1 hb1 => ?_
  refine NewI.mk fun b2 hb2 => ?_
  refine LoadI.mk ⟨_, ⟨cell_oneM hf, by simp⟩, ?_⟩
  refine LoadA.mk ⟨[.int .i64 x.a, .int .i64 x.b, .int .i64 x.c, .int .i64 x.d, .int .i64 x.e, .int .i64 x.f], ⟨rfl, by decide, by simp, cell_nM hx⟩, ?_⟩
  refine Need.mk en ?_
  apply CallI.use1
  focus (exact fun w2 h2 => hcall w2)
  intro w2 v2 h2 hB2
  exact EndI.mk fun w9 h9 => rfl
theorem paired_any (f : Zn → Zn → Zn × Int) (fid : FuncId) (en : Enters Tryz.prog fid) (hcall : ∀ x y W, Calls Tryz.prog fid #[.agg #[.int .i64 x.a, .int .i64 x.b, .int .i64 x.c, .int .i64 x.d, .int .i64 x.e, .int .i64 x.f], .agg #[.int .i64 y.a, .int .i64 y.b, .int .i64 y.c, .int .i64 y.d, .int .i64 y.e, .int .i64 y.f]] W fun e W' => e = .returned (.tuple #[.agg #[.int .i64 (f x y).1.a, .int .i64 (f x y).1.b, .int .i64 (f x y).1.c, .int .i64 (f x y).1.d, .int .i64 (f x y).1.e, .int .i64 (f x y).1.f], .int .i64 (f x y).2]) ∧ Below W.heap.size W W')
    (l m : List Zn) (a b : Option Addr) (ca cb : Nat) (w : World) (hS : Sl w.heap.size w (.slice a l.length ca) l) (hT : Sl w.heap.size w (.slice b m.length cb) m) :
    Calls Tryz.prog 75 #[.slice a l.length ca, .slice b m.length cb, .func (.func fid) #[] #[]] w (Ret w fun v w' => ∃ a' c', v = .tuple #[.slice a' (Zs.paired f l m).1.length c', .int .i64 (Zs.paired f l m).2] ∧ Own TZ w.heap.size w' (.slice a' (Zs.paired f l m).1.length c') (Zs.paired f l m).1) := by
  refine fun_ret 0 w Tryz.func75 (args := [.val (.slice a l.length ca), .val (.slice b m.length cb), .val (.func (.func fid) #[] #[])]) rfl rfl ?_
  refine NewI.frn fun w1 h1 => ?_
  have hbox : (w1.alloc (.cells #[.func (.func fid) #[] #[]] 123)).heap[w1.heap.size]? = some (.cells #[.func (.func fid) #[] #[]] 123 (0, 0)) := World.alloc_heap_new w1 _
  have hw1 : Below w.heap.size w (w1.alloc (.cells #[.func (.func fid) #[] #[]] 123)) := h1.below.alloc h1.below.size _
  have hBl : w1.heap.size < (w1.alloc (.cells #[.func (.func fid) #[] #[]] 123)).heap.size := lt_cellsM hbox
  have hwB : w.heap.size ≤ w1.heap.size := h1.below.size
  generalize w1.alloc (.cells #[.func (.func fid) #[] #[]] 123) = w2 at *
  generalize w1.heap.size = Bf at *
  refine NewI.mk fun b2 hb2 => ?_
  have hb2' : w2.heap.size ≤ b2 := hb2
  apply CallI.use1
  · exact fun w3 h3 => zschecked_any [⟨a, l.length, ca⟩, ⟨b, m.length, cb⟩] [l, m] (by simp) _ _ w3 (shown_two (hS.go h3.below h3.below.size) rfl (hT.go h3.below h3.below.size) rfl) (Sl.own (l := [(⟨a, l.length, ca⟩ : Svl), ⟨b, m.length, cb⟩]) h3 0 rfl rfl rfl (Nat.le_refl _) (by simp [maxLen]))
  intro w3 v3 h3 hB3
  have g3 := at_belowM h3 (by simp)
  have hbox3 : v3.heap[Bf]? = some (.cells #[.func (.func fid) #[] #[]] 123 (0, 0)) := (hB3.block Bf (Nat.lt_of_lt_of_le hBl g3.size)).trans ((g3.block Bf hBl).trans hbox)
  have hb2v : b2 < v3.heap.size := Nat.lt_of_lt_of_le (h3.lt b2 (by simp)) hB3.size
  unfold Zs.paired
  refine Branch.mk (fun hc => ?_) (fun hc => ?_)
  · have h0 : Cv.checked [l, m] ≠ 0 := by simpa using hc
    rw [if_neg h0]
    exact EndI.mk fun w9 h9 => ⟨_, _, rfl, Own.nil⟩
  have h0 : Cv.checked [l, m] = 0 := by simpa using hc
  rw [if_pos h0]
  obtain ⟨hl4, hm4⟩ := Zs.checked_len h0
  have hv3 : Below w.heap.size w v3 := h3.below.trans (hB3.mono h3.below.size)
  generalize hB2 : v3.heap.size = B2 at *
  have hBf2 : Bf < B2 := by rw [← hB2]; exact lt_cellsM hbox3
  have hb2B : b2 < B2 := by omega
  refine LoopI.invC (α := Nat × World × Value × List Zn) (fun y => [(19, .val (.int .i64 y.1)), (6, .val y.2.2.1)]) (fun y => y.2.1)
    (fun y => y.1 ≤ l.length ∧ Below w.heap.size w y.2.1 ∧ B2 ≤ y.2.1.heap.size ∧ y.2.1.heap[Bf]? = some (.cells #[.func (.func fid) #[] #[]] 123 (0, 0)) ∧ Own TZ B2 y.2.1 y.2.2.1 y.2.2.2 ∧ y.2.2.2.length ≤ 4096 ∧ Zs.pairGo f m [] l = Zs.pairGo f m y.2.2.2 (l.drop y.1)) (fun y => l.length - y.1) ?_ ?_
  · intro w4 h4
    have g4 := at_belowM h4 (by simp)
    exact ⟨(0, w4, .slice none 0 0, []), Cov.mk (by repeat' (first | exact trivial | refine And.intro rfl ?_)) rfl rfl rfl rfl rfl, rfl, Nat.zero_le _, h4.below, by rw [← hB2]; exact g4.size, (g4.block Bf (lt_cellsM hbox3)).trans hbox3, Own.nil, by simp, rfl⟩
  rintro ⟨k, U, tv, ou⟩ ⟨hk, hU, hUB, hbU, hOU, hlen, heq⟩
  simp only at hk hU hUB hbU hOU hlen heq
  refine Branch.mk (fun hc => ?_) (fun hc => ?_)
  · have hlt : k < l.length := by simpa using hc
    have hg := List.getElem?_eq_getElem (l := l) (i := k) hlt
    have hdr : l.drop k = l[k]'hlt :: l.drop (k + 1) := List.drop_eq_getElem_cons hlt
    generalize l[k]'hlt = x at hg hdr
    rw [hdr, Zs.pairGo_cons] at heq
    have hSU := hS.go hU hU.size
    refine hSU.idx hg fun ad had => ?_
    refine hSU.ld hg had (Below.refl _ _) (by simp) ?_
    refine NewI.frn fun w4 h4 => ?_
    have g4 : Below U.heap.size U w4 := at_belowM h4 (by simp)
    have hw4 := h4.below
    have hbox4 : (w4.alloc (.cells #[.int .i64 0, .int .i64 0, .int .i64 0, .int .i64 0, .int .i64 0, .int .i64 0] 104)).heap[w4.heap.size]? = some (.cells #[.int .i64 0, .int .i64 0, .int .i64 0, .int .i64 0, .int .i64 0, .int .i64 0] 104 (0, 0)) := World.alloc_heap_new w4 _
    have hrow : ∀ g, tv.ownBlock = some g → B2 ≤ g ∧ g < U.heap.size := fun g hg => hOU.lt g hg
    have hs4 := g4.size
    refine Need.mk rfl ?_
    refine storeA_new (B := w4.heap.size) (cs := #[.int .i64 0, .int .i64 0, .int .i64 0, .int .i64 0, .int .i64 0, .int .i64 0]) (ty := 104) hw4.size (fun hm => by have := List.mem_singleton.1 hm; omega) rfl (fun w5 h5 => by have g := at_belowM h5 (by simp); exact (g.block _ (lt_cellsM hbox4)).trans hbox4) fun w6 w5 h5 hg5 hbx6 => ?_
    have g5 := at_belowM h5 (by simp)
    have hs5 := g5.size
    have hBx4 := lt_cellsM hbox4
    have hal : Below w4.heap.size w4 (w4.alloc (.cells #[.int .i64 0, .int .i64 0, .int .i64 0, .int .i64 0, .int .i64 0, .int .i64 0] 104)) := (Below.refl _ _).alloc (Nat.le_refl _) _
    have g45 : Below w4.heap.size w4 w5 := hal.trans (g5.mono hal.size)
    have g46 := grown_belowM g45 hg5 (fun k hk => by injection hk with hk; subst hk; exact Nat.le_refl _) g45.size
    have gU6 : Below U.heap.size U w6 := g4.trans (g46.mono hs4)
    have hw6 := hU.trans (gU6.mono hU.size)
    have hO6 := hOU.below gU6
    have hbf6 := (gU6.block Bf (lt_cellsM hbU)).trans hbU
    have hs6 := g46.size
    generalize w4.heap.size = Bx at *
    clear g46 g45 hal hbox4 hBx4 hg5 g5 hs5 h5
    obtain ⟨ao, co, rfl⟩ := hOU.form
    refine CallI.mk fun w7 h7 => ?_
    have g7 := at_belowM h7 (by simp)
    have hO7 := hO6.below g7
    have hbf7 := (g7.block Bf (lt_cellsM hbf6)).trans hbf6
    have hbx7 := (g7.block Bx (lt_cellsM hbx6)).trans hbx6
    have hw7 := h7.below
    have hs7 := g7.size
    refine (come_any (f x) 141 #[.pointer (some ⟨Bf, 0, none⟩), .pointer (some ⟨Bx, 0, none⟩)] Tryz.call141 ou m (.slice ao ou.length co) b cb w.heap.size hlen hm4 w7 hw7.size (hO7.lower (by omega)) (hT.below hw7) (fun y W hy hK => ?_)).mono ?_
    · refine pairer_any f fid en x y Bf Bx W ((hK.2 Bf (lt_cellsM hbf7) (fun e => by have := hrow Bf e.symm; omega)).trans hbf7) ((hK.2 Bx (lt_cellsM hbx7) (fun e => by have := hrow Bx e.symm; omega)).trans hbx7) (fun W => hcall x y W)
    rintro e w8 ⟨v, rfl, hB8, hK8, a8, c8, rfl, hO8⟩
    have hK8s := hK8.1
    refine ⟨⟨hB8, fun b hb => hK8.2 b (h7.lt b hb) (fun e => by simp at hb; subst hb; have := hrow b e.symm; omega)⟩, _, rfl, ?_⟩
    have hbf8 := (hK8.2 Bf (lt_cellsM hbf7) (fun e => by have := hrow Bf e.symm; omega)).trans hbf7
    have hcl := Zs.come_len (f x) m ou
    generalize Zs.come (f x) ou m = R at *
    obtain ⟨ro, re⟩ := R
    simp only at heq hcl hO8
    refine Branch.mk (fun hc2 => ?_) (fun hc2 => ?_)
    · have h9 : re ≠ 0 := by simpa using hc2
      rw [if_neg h9] at heq
      rw [heq]
      exact EndI.mk fun w9 h9 => ⟨_, _, rfl, Own.nil⟩
    · have h9 : re = 0 := by simpa using hc2
      rw [if_pos h9] at heq
      have hw8 : Below w.heap.size w w8 := hw7.trans hB8
      refine Need.mk (by simp only [inK]; omega) (EndI.mk fun w9 h10 => ?_)
      have g9 := at_belowM h10 (by simp)
      exact ⟨(k + 1, w9, .slice a8 ro.length c8, ro), Cov.mk (by repeat' (first | exact trivial | refine And.intro rfl ?_)) rfl rfl rfl rfl rfl, rfl, ⟨hlt, h10.below, by have := g9.size; simp only; omega, (g9.block Bf (lt_cellsM hbf8)).trans hbf8, (hO8.lower (by omega)).below g9, hcl h9, heq⟩, by simp only; omega⟩
  · have hge : k = l.length := by have : ¬ k < l.length := by simpa using hc
                                  omega
    subst hge
    rw [List.drop_length] at heq
    change Zs.pairGo f m [] l = (ou, 0) at heq
    rw [heq]
    obtain ⟨at_, ct, rfl⟩ := hOU.form
    exact EndI.mk fun w9 h9 => ⟨_, _, rfl, (hOU.below (at_belowM h9 (by simp))).lower (by have := hv3.size; omega)⟩
theorem zscomp_any (l m : List Zn) (a b : Option Addr) (ca cb : Nat) (w : World) (hS : Sl w.heap.size w (.slice a l.length ca) l) (hT : Sl w.heap.size w (.slice b m.length cb) m) :
    Calls Tryz.prog 23 #[.slice a l.length ca, .slice b m.length cb] w (Ret w fun v w' => ∃ a' c', v = .tuple #[.slice a' (Zs.comp l m).1.length c', .int .i64 (Zs.comp l m).2] ∧ Own TZ w.heap.size w' (.slice a' (Zs.comp l m).1.length c') (Zs.comp l m).1) := by
  refine fun_ret 0 w Tryz.func23 (args := [.val (.slice a l.length ca), .val (.slice b m.length cb)]) rfl rfl ?_
  apply CallI.use
  focus (exact fun w2 h2 => paired_any Cmp.comp 77 Tryz.call77 (fun x y W => ccomp_any x y W) l m a b ca cb w2 (hS.go h2.below h2.below.size) (hT.go h2.below h2.below.size))
  rintro v w2 v2 h2 hB2 ⟨a2, c2, rfl, hO2⟩
  exact EndI.mk fun w9 h9 => ⟨a2, c2, rfl, (hO2.lower h2.below.size).below (at_belowM h9 (by simp))⟩
theorem zsor_any (l m : List Zn) (a b : Option Addr) (ca cb : Nat) (w : World) (hS : Sl w.heap.size w (.slice a l.length ca) l) (hT : Sl w.heap.size w (.slice b m.length cb) m) :
    Calls Tryz.prog 21 #[.slice a l.length ca, .slice b m.length cb] w (Ret w fun v w' => ∃ a' c', v = .tuple #[.slice a' (Zs.or l m).1.length c', .int .i64 (Zs.or l m).2] ∧ Own TZ w.heap.size w' (.slice a' (Zs.or l m).1.length c') (Zs.or l m).1) := by
  refine fun_ret 0 w Tryz.func21 (args := [.val (.slice a l.length ca), .val (.slice b m.length cb)]) rfl rfl ?_
  refine NewI.mk fun b1 hb1 => ?_
  apply CallI.use1
  · exact fun w3 h3 => zschecked_any [⟨a, l.length, ca⟩, ⟨b, m.length, cb⟩] [l, m] (by simp) _ _ w3 (shown_two (hS.go h3.below h3.below.size) rfl (hT.go h3.below h3.below.size) rfl) (Sl.own (l := [(⟨a, l.length, ca⟩ : Svl), ⟨b, m.length, cb⟩]) h3 0 rfl rfl rfl (Nat.le_refl _) (by simp [maxLen]))
  intro w3 v3 h3 hB3
  unfold Zs.or
  refine Branch.mk (fun hc => ?_) (fun hc => ?_)
  · have h0 : Cv.checked [l, m] ≠ 0 := by simpa using hc
    rw [if_neg h0]
    exact EndI.mk fun w9 h9 => ⟨_, _, rfl, Own.nil⟩
  have h0 : Cv.checked [l, m] = 0 := by simpa using hc
  rw [if_pos h0]
  obtain ⟨hl4, hm4⟩ := Zs.checked_len h0
  refine NewI.mk fun b2 hb2 => ?_
  have hfl : ([l, m] : List (List Zn)).flatten = l ++ m := by simp
  have hcc := fun (w : World) (a' : Option Addr) (c' : Nat) h1 h2 => concat_any [⟨a, l.length, ca⟩, ⟨b, m.length, cb⟩] [l, m] (by rw [hfl, List.length_append]; omega) a' c' w h1 h2
  rw [hfl] at hcc
  apply CallI.use
  · exact fun w4 h4 => hcc w4 _ _ (shown_two (hS.go h4.below h4.below.size) rfl (hT.go h4.below h4.below.size) rfl) (Sl.own (l := [(⟨a, l.length, ca⟩ : Svl), ⟨b, m.length, cb⟩]) h4 1 rfl rfl rfl (Nat.le_refl _) (by simp [maxLen]))
  rintro v w4 v4 h4 hB4 ⟨a4, c4, rfl, hO4⟩
  apply CallI.use
  focus (exact fun w5 h5 => zsof_any (l ++ m) a4 c4 w5 (hO4.below (at_belowM h5 (by simp <;> omega))).sl)
  rintro v w5 v5 h5 hB5 ⟨a5, c5, rfl, hO5⟩
  exact EndI.mk fun w9 h9 => ⟨a5, c5, rfl, (hO5.lower h5.below.size).below (at_belowM h9 (by simp <;> omega))⟩
end Go.Proofs.YtjbhpfmnfdebkaaGreat

/-
  The contracts of win.with, Within, Window, by the engine.
-/
namespace Go.Proofs.YtjbhpfmnfdebkaaGreat
set_option linter.unusedVariables false
set_option linter.unusedSimpArgs false
set_option maxRecDepth 100000
open Go.RowKit Go.Proofs.YtjbhpfmnfdebkaaGreat.Eng Enc

namespace Wn
end Wn
namespace Wn
def fits (n : Int) : Bool := decide (-288230376151711744 ≤ n) && decide (n ≤ 288230376151711744)
end Wn
end Go.Proofs.YtjbhpfmnfdebkaaGreat

/-
  The plain law of CoverPrunes; what cover.All tells.
-/
namespace Go.Proofs.YtjbhpfmnfdebkaaGreat
set_option linter.unusedVariables false
set_option linter.unusedSimpArgs false
open Go.RowKit Go.Proofs.YtjbhpfmnfdebkaaGreat.Eng Enc
namespace Cv
open Mi Zo
def misses (b : List Zn) (z : Zn) : Bool := decide ((in_ z b).2 ≠ 0) || !(in_ z b).1
def allGo (b : List Zn) : List Zn → Bool × Int
  | [] => (true, 0)
  | z :: a => if misses b z = true then (false, (in_ z b).2) else allGo b a
def all_ (a b : List Zn) : Bool × Int := if checked [a, b] ≠ 0 then (false, checked [a, b]) else allGo b a
/-- the error of the last zone that was asked, of so many. -/
def told (b l : List Zn) : Nat → Int
  | 0 => 0
  | k + 1 => match l[k]? with | some z => (in_ z b).2 | none => 0
theorem allGo_eq (b : List Zn) : ∀ l, allGo b l = (!(l.any (misses b)), told b l (cntF (misses b) l))
  | [] => rfl
  | z :: a => by
    rw [allGo, List.any_cons, cntF]
    by_cases hm : misses b z = true
    · rw [if_pos hm, if_pos hm, hm]; rfl
    · rw [if_neg hm, if_neg hm, allGo_eq b a]
      have hm' : misses b z = false := by simpa using hm
      rw [hm', Bool.false_or]
      congr 1
      have he : (in_ z b).2 = 0 := by unfold misses at hm'; simp at hm'; exact hm'.1
      cases hc : cntF (misses b) a with
      | zero => simp [told, he]
      | succ k => simp [told]
/-- what the law of what is wanted asks. -/
structure PrunesLaw (l : List Zn) (p : Pt) : Prop where
  among : (Cv.among l p).2 = true → (Cv.among (prune l).1 p).2 = true → (Cv.among l p).1 = (Cv.among (prune l).1 p).1
  order : ∀ i x y, (prune l).1[i]? = some x → (prune l).1[i + 1]? = some y → Zo.cmp x y < 0
  bare : ∀ i z, (prune l).1[i]? = some z → (in_ z ((prune l).1.take i ++ (prune l).1.drop (i + 1))).2 = 0 → (in_ z ((prune l).1.take i ++ (prune l).1.drop (i + 1))).1 = false
  all : (all_ l (prune l).1).2 = 0 → (all_ l (prune l).1).1 = true
  again : (prune (prune l).1).2 = 0 → (prune (prune l).1).1 = (prune l).1
end Cv
end Go.Proofs.YtjbhpfmnfdebkaaGreat

/-
  The contract of cover.All, by the engine.
-/
namespace Go.Proofs.YtjbhpfmnfdebkaaGreat
set_option linter.unusedVariables false
set_option linter.unusedSimpArgs false
set_option maxRecDepth 100000
open Go.RowKit Go.Proofs.YtjbhpfmnfdebkaaGreat.Eng Enc

/-- where cover.All's rounds stand: the boxes of the list and of what is told. -/
structure Cv.AllAt (Bb Be : Nat) (sv : Value) (b : List Zn) (e : Int) (W : World) : Prop where
  hb : W.heap[Bb]? = some (.cells #[sv] 22 (0, 0))
  he : W.heap[Be]? = some (.cells #[.int .i64 e] 28 (0, 0))
  sl : Sl W.heap.size W sv b
theorem cell_one {W : World} {B : Nat} {v : Value} {t : TypeId} (h : W.heap[B]? = some (.cells #[v] t (0, 0))) : W.cell? ⟨B, 0, none⟩ = some v := by simp [World.cell?, h]
theorem lt_of_cells {W : World} {B : Nat} {o : Obj} (h : W.heap[B]? = some o) : B < W.heap.size := (Array.getElem?_eq_some_iff.1 h).1
theorem setCell_one {W : World} {B : Nat} {v u : Value} {t : TypeId} (h : W.heap[B]? = some (.cells #[v] t (0, 0))) : (W.setCell ⟨B, 0, none⟩ u).heap[B]? = some (.cells #[u] t (0, 0)) := by
  simp [World.setCell, Array.getElem?_modify, h, Go.Sort.onCells]
theorem setCell_ne {W : World} {B k : Nat} {u : Value} (h : k ≠ B) : (W.setCell ⟨B, 0, none⟩ u).heap[k]? = W.heap[k]? := Below.heap_setCell _ _ _ _ (by simpa using h)
theorem below_setCell' {n : Nat} {W X : World} {B : Nat} {u : Value} (h : Below n W X) (hB : n ≤ B) : Below n W (X.setCell ⟨B, 0, none⟩ u) :=
  ⟨h.os, h.tape, h.output, by simpa [World.setCell] using h.size, fun k hk => (setCell_ne (by omega)).trans (h.block k hk)⟩
section
variable {Bb Be : Nat} {sv : Value} {b : List Zn} {e : Int} {W X : World}
theorem Cv.AllAt.go (h : Cv.AllAt Bb Be sv b e W) (hB : Below W.heap.size W X) : Cv.AllAt Bb Be sv b e X :=
  ⟨(hB.block _ (lt_of_cells h.hb)).trans h.hb, (hB.block _ (lt_of_cells h.he)).trans h.he, h.sl.go hB hB.size⟩
end
theorem misses_any (z : Zn) (b : List Zn) (a : Option Addr) (cap : Nat) (e : Int) (Bb Be B : Nat) (hne : Bb ≠ Be) (w : World) (hB : B ≤ w.heap.size) (hBe : B ≤ Be) (h : Cv.AllAt Bb Be (.slice a b.length cap) b e w) (hsl : Sl B w (.slice a b.length cap) b) :
    Calls Tryz.prog 191 #[.agg #[.int .i64 z.a, .int .i64 z.b, .int .i64 z.c, .int .i64 z.d, .int .i64 z.e, .int .i64 z.f], .pointer (some ⟨Bb, 0, none⟩), .pointer (some ⟨Be, 0, none⟩)] w fun x w' => ∃ v, x = .returned v ∧ Below B w w' ∧ v = .bool (Cv.misses b z) ∧ Cv.AllAt Bb Be (.slice a b.length cap) b (Cv.in_ z b).2 w' := by
  refine fun_at 0 B w hB Tryz.func191 (args := [.agg [.val (.int .i64 z.a), .val (.int .i64 z.b), .val (.int .i64 z.c), .val (.int .i64 z.d), .val (.int .i64 z.e), .val (.int .i64 z.f)], .val (.pointer (some ⟨Bb, 0, none⟩)), .val (.pointer (some ⟨Be, 0, none⟩))]) rfl rfl ?_
  refine NewI.mk fun b1 hb1 => ?_
  refine ⟨⟨_, ⟨cell_one h.hb, by simp⟩, ?_⟩⟩
  apply CallI.use1
  focus (exact fun w1 h1 => cin_any z b a cap w1 (h.go (at_below h1 (by simp))).sl)
  intro w1 v1 h1 hB1
  have g1 := (h.go (at_below h1 (by simp))).go hB1
  have b1' : Below B w v1 := h1.below.trans (hB1.mono (Nat.le_trans hB h1.below.size))
  have hlt := h1.lt b1 (by simp)
  have hbe : Be < w.heap.size := lt_of_cells h.he
  refine ⟨fun w2 h2 => ?_⟩
  have g2 := g1.go (at_below h2 (by simp))
  have b2 : Below B w w2 := b1'.trans ((at_below h2 (by simp)).mono (Nat.le_trans hB (Nat.le_trans h1.size hB1.size)))
  refine ⟨⟨⟨_, cell_one g2.he⟩, by simp [World.frozen?, g2.he]⟩, ⟨below_setCell' (Below.refl _ _) hBe, fun k hk => setCell_ne (by have hb1' : w.heap.size ≤ b1 := hb1; simp at hk; omega)⟩, ?_⟩
  have b3 : Below B w (w2.setCell ⟨Be, 0, none⟩ (.int .i64 (Cv.in_ z b).2)) := below_setCell' b2 hBe
  have g3 : Cv.AllAt Bb Be (.slice a b.length cap) b (Cv.in_ z b).2 (w2.setCell ⟨Be, 0, none⟩ (.int .i64 (Cv.in_ z b).2)) := ⟨(setCell_ne hne).trans g2.hb, setCell_one g2.he, hsl.go b3 (Nat.le_trans hB b3.size)⟩
  have end_ : ∀ w9, At ⟨w, B, hB⟩ [⟨[.val (.int .i64 z.a), .val (.int .i64 z.b), .val (.int .i64 z.c), .val (.int .i64 z.d), .val (.int .i64 z.e), .val (.int .i64 z.f)], 104⟩] [b1] [] (w2.setCell ⟨Be, 0, none⟩ (.int .i64 (Cv.in_ z b).2)) w9 → Cv.AllAt Bb Be (.slice a b.length cap) b (Cv.in_ z b).2 w9 := fun w9 h9 => g3.go (at_below h9 (by simp))
  unfold Cv.misses
  refine Branch.mk (fun hc => ?_) (fun hc => ?_)
  · refine EndI.mk fun w9 h9 => ⟨?_, end_ w9 h9⟩
    rw [hc]; rfl
  · refine EndI.mk fun w9 h9 => ⟨?_, end_ w9 h9⟩
    rw [hc]; rfl
theorem all_any (l b : List Zn) (a : Option Addr) (cap : Nat) (c : Option Addr) (cc : Nat) (w : World) (hS : Sl w.heap.size w (.slice a l.length cap) l) (hT : Sl w.heap.size w (.slice c b.length cc) b) :
    Calls Tryz.prog 117 #[.slice a l.length cap, .slice c b.length cc] w fun e w' => e = .returned (.tuple #[.bool (Cv.all_ l b).1, .int .i64 (Cv.all_ l b).2]) ∧ Below w.heap.size w w' := by
  refine fun_eq 0 w Tryz.func117 (args := [.val (.slice a l.length cap), .val (.slice c b.length cc)]) rfl rfl ?_
  refine NewI.frn fun w1 h1 => ?_
  have hbox : (w1.alloc (.cells #[.slice c b.length cc] 22)).heap[w1.heap.size]? = some (.cells #[.slice c b.length cc] 22 (0, 0)) := World.alloc_heap_new w1 _
  have hw1 : Below w.heap.size w (w1.alloc (.cells #[.slice c b.length cc] 22)) := h1.below.alloc h1.below.size _
  have hwB : w.heap.size ≤ w1.heap.size := h1.below.size
  generalize hgB : w1.heap.size = Bb at hbox hwB
  generalize w1.alloc (.cells #[.slice c b.length cc] 22) = w2 at hbox hw1
  refine ⟨⟨_, ⟨cell_one hbox, by simp⟩, ?_⟩⟩
  refine NewI.mk fun b2 hb2 => ?_
  have hBb2 : Bb < w2.heap.size := lt_of_cells hbox
  have hb2' : w2.heap.size ≤ b2 := hb2
  apply CallI.use1
  · exact fun w3 h3 => checked_any [⟨a, l.length, cap⟩, ⟨c, b.length, cc⟩] [l, b] _ _ w3 (shown_two (hS.go h3.below h3.below.size) rfl (hT.go h3.below h3.below.size) rfl) (Sl.own (l := [(⟨a, l.length, cap⟩ : Svl), ⟨c, b.length, cc⟩]) h3 0 rfl rfl rfl (Nat.le_refl _) (by simp [maxLen]))
  intro w3 v3 h3 hB3
  have hv3 : Below w.heap.size w v3 := h3.below.trans (hB3.mono h3.below.size)
  have hbox3 : v3.heap[Bb]? = some (.cells #[.slice c b.length cc] 22 (0, 0)) := (hB3.block _ (Nat.lt_of_lt_of_le hBb2 h3.size)).trans (((at_below h3 (by simp)).block _ hBb2).trans hbox)
  have hlt2 := h3.lt b2 (by simp)
  unfold Cv.all_
  refine Branch.mk (fun hc => ?_) (fun hc => ?_)
  · have h0 : Cv.checked [l, b] ≠ 0 := by simpa using hc
    rw [if_pos h0]
    exact EndI.mk fun w9 h9 => rfl
  have h0 : Cv.checked [l, b] = 0 := by simpa using hc
  rw [if_neg (by simp [h0]), Cv.allGo_eq]
  refine NewI.frn fun w4 h4 => ?_
  have g4 : Below v3.heap.size v3 w4 := at_below h4 (by simp)
  have hw4 : Below w.heap.size w w4 := h4.below
  have hboxe : (w4.alloc (.cells #[.int .i64 0] 28)).heap[w4.heap.size]? = some (.cells #[.int .i64 0] 28 (0, 0)) := World.alloc_heap_new w4 _
  have hw5 : Below w.heap.size w (w4.alloc (.cells #[.int .i64 0] 28)) := hw4.alloc hw4.size _
  have hbox5 : (w4.alloc (.cells #[.int .i64 0] 28)).heap[Bb]? = some (.cells #[.slice c b.length cc] 22 (0, 0)) :=
    (Below.heap_alloc w4 _ _ (Nat.lt_of_lt_of_le (lt_of_cells hbox3) g4.size)).trans ((g4.block _ (lt_of_cells hbox3)).trans hbox3)
  have hne : Bb ≠ w4.heap.size := by have := lt_of_cells hbox3; have := g4.size; omega
  have hwe : w.heap.size ≤ w4.heap.size := hw4.size
  have hb2e : b2 < w4.heap.size := h4.lt b2 (by simp)
  generalize w4.alloc (.cells #[.int .i64 0] 28) = w5 at hboxe hw5 hbox5
  generalize w4.heap.size = Be at hboxe hne hwe hb2e
  have all5 : Cv.AllAt Bb Be (.slice c b.length cc) b 0 w5 := ⟨hbox5, hboxe, hT.go hw5 hw5.size⟩
  refine CallI.mk fun w6 h6 => ?_
  have g6 : Below w5.heap.size w5 w6 := at_below h6 (by simp)
  have hw6 := hw5.trans (g6.mono hw5.size)
  refine (containsZ_any l (Cv.misses b) a cap 191 #[.pointer (some ⟨Bb, 0, none⟩), .pointer (some ⟨Be, 0, none⟩)] Be w6 (Nat.le_trans (Nat.le_of_lt (lt_of_cells hboxe)) g6.size) ((hS.below hw6).upto hwe) (fun k W => Cv.AllAt Bb Be (.slice c b.length cc) b (Cv.told b l k) W) (all5.go g6) (fun k W W' h hb => h.go hb) Tryz.call191 (fun k x W hx hW h => ?_)).mono ?_
  · refine (misses_any x b c cc (Cv.told b l k) Bb Be Be hne W (Nat.le_trans (Nat.le_trans (Nat.le_of_lt (lt_of_cells hboxe)) g6.size) hW.size) (Nat.le_refl _) h ((hT.below (hw6.trans (hW.mono hwe))).upto hwe)).mono ?_
    rintro e W' ⟨v, rfl, hB', rfl, h'⟩
    refine ⟨rfl, hB', ?_⟩
    have : Cv.told b l (k + 1) = (Cv.in_ x b).2 := by simp [Cv.told, hx]
    rw [this]; exact h'
  rintro e w7 ⟨v, rfl, hB7, rfl, h7⟩
  refine ⟨⟨hB7.mono hwe, fun k hk => hB7.block k (by simp at hk; omega)⟩, _, rfl, ?_⟩
  refine DrawI.go (.tk 0 (.tk 1 (.tk 2 (.tk 3 .done)))) (by kernel_rfl) fun w8 h8 => ?_
  have g8 := h7.go (at_below h8 (by simp))
  refine ⟨⟨_, ⟨cell_one g8.he, by simp⟩, ?_⟩⟩
  exact EndI.mk fun w9 h9 => rfl
end Go.Proofs.YtjbhpfmnfdebkaaGreat

/-
  The contracts of zset.each, Within, Window, In, Same, by the engine.
-/
namespace Go.Proofs.YtjbhpfmnfdebkaaGreat
set_option linter.unusedVariables false
set_option linter.unusedSimpArgs false
set_option maxRecDepth 100000
open Go.RowKit Go.Proofs.YtjbhpfmnfdebkaaGreat.Eng Enc

namespace Zs
def free : Zn := ⟨9223372036854775807, 9223372036854775807, 9223372036854775807, 9223372036854775807, 9223372036854775807, 9223372036854775807⟩
theorem free_of : Zo.of 3 (Dbm.topL 3) = (free, 0) := by decide +kernel
def same (a b : List Zn) : Bool × Int := if (Cv.all_ a b).2 = 0 ∧ (Cv.all_ a b).1 = true then Cv.all_ b a else (false, (Cv.all_ a b).2)
end Zs
theorem zsin_any (l m : List Zn) (a b : Option Addr) (ca cb : Nat) (w : World) (hS : Sl w.heap.size w (.slice a l.length ca) l) (hT : Sl w.heap.size w (.slice b m.length cb) m) :
    Calls Tryz.prog 54 #[.slice a l.length ca, .slice b m.length cb] w fun e w' => e = .returned (.tuple #[.bool (Cv.all_ l m).1, .int .i64 (Cv.all_ l m).2]) ∧ Below w.heap.size w w' := by
  refine fun_eq 0 w Tryz.func54 (args := [.val (.slice a l.length ca), .val (.slice b m.length cb)]) rfl rfl ?_
  apply CallI.use1
  focus (exact fun w2 h2 => all_any l m a ca b cb w2 (hS.go h2.below h2.below.size) (hT.go h2.below h2.below.size))
  intro w2 v2 h2 hB2
  exact EndI.mk fun w9 h9 => rfl
end Go.Proofs.YtjbhpfmnfdebkaaGreat

/-
  The contracts of slices.Equal at zones, zset.Check, zset.Has, by the engine.
-/
namespace Go.Proofs.YtjbhpfmnfdebkaaGreat
set_option linter.unusedVariables false
set_option linter.unusedSimpArgs false
set_option maxRecDepth 100000
open Go.RowKit Go.Proofs.YtjbhpfmnfdebkaaGreat.Eng Enc

theorem equalZ_any (l m : List Zn) (a : Option Addr) (cap : Nat) (b : Option Addr) (cb : Nat) (w : World) (hS : Sl w.heap.size w (.slice a l.length cap) l) (hT : Sl w.heap.size w (.slice b m.length cb) m) :
    Calls Tryz.prog 245 #[.slice a l.length cap, .slice b m.length cb] w fun e w' => e = .returned (.bool (decide (l = m))) ∧ Below w.heap.size w w' := by
  refine fun_eq 0 w Tryz.func245 (args := [.val (.slice a l.length cap), .val (.slice b m.length cb)]) rfl rfl ?_
  obtain ⟨_, _, hfe, hcap1, hcap2, _⟩ := hS.form
  injection hfe with _ _ hfe
  subst hfe
  unfold maxLen at hcap2
  refine Branch.mk (fun hc => ?_) (fun hc => ?_)
  · have hne : l.length ≠ m.length := by have := of_decide_eq_true hc; omega
    refine EndI.mk fun w9 h9 => ?_
    rw [decide_eq_false (fun e => hne (by rw [e]))]
  have hlm : l.length = m.length := by have := of_decide_eq_false hc; omega
  refine LoopI.invC (α := Nat × World) (fun y => [(13, .val (.int .i64 y.1))]) (fun y => y.2) (fun y => y.1 ≤ l.length ∧ Below w.heap.size w y.2 ∧ l.take y.1 = m.take y.1) (fun y => l.length - y.1) ?_ ?_
  · intro w1 h1
    exact ⟨(0, w1), Cov.mk (by repeat' (first | exact trivial | refine And.intro rfl ?_)) rfl rfl rfl rfl rfl, rfl, Nat.zero_le _, h1.below, rfl⟩
  rintro ⟨k, V⟩ ⟨hk, hV, hall⟩
  simp only at hk hV hall
  refine Branch.mk (fun hc2 => ?_) (fun hc2 => ?_)
  · have hlt : k < l.length := by have := of_decide_eq_true hc2; simp only at this; omega
    have hx := List.getElem?_eq_getElem (l := l) (i := k) hlt
    have hy := List.getElem?_eq_getElem (l := m) (i := k) (by omega)
    generalize l[k] = x at hx
    generalize m[k]'(by omega) = y at hy
    refine DrawI.go (.tk 0 (.tk 1 (.tk 2 (.tk 3 (.tk 4 (.tk 5 (.tk 6 (.tk 7 (.ev 8 .done))))))))) (by kernel_rfl) fun w4 h4 => ?_
    have hg4 : Below V.heap.size V w4 := h4.go
    have hw4 := hV.trans (hg4.mono hV.size)
    have hS4 := hS.go hw4 hw4.size
    have hT4 := hT.go hw4 hw4.size
    refine hS4.idx hx fun ad had => ?_
    refine hS4.ld hx had (Below.refl _ _) (by simp) ?_
    refine hT4.idx hy fun ad2 had2 => ?_
    refine hT4.ld hy had2 (Below.refl _ _) (by simp) ?_
    refine GenV.to (x := .bool (decide (x ≠ y))) (fun w => run_neq_znG _ _ x y w) fun w5 h5 => ?_
    refine Branch.mk (fun hc3 => ?_) (fun hc3 => ?_)
    · have hne : x ≠ y := by simpa using hc3
      refine EndI.mk fun w9 h9 => ?_
      rw [decide_eq_false (fun e => hne (by rw [e, hy] at hx; injection hx with hx; exact hx.symm))]
    · have he : x = y := by simpa using hc3
      refine Need.mk (by simp only [inK]; omega) (EndI.mk fun w9 h9 => ⟨(k + 1, w9), Cov.mk (by repeat' (first | exact trivial | refine And.intro rfl ?_)) rfl rfl rfl rfl rfl, rfl, ⟨hlt, h9.below, ?_⟩, by simp only; omega⟩)
      simp only
      rw [List.take_add_one, List.take_add_one, hall, hx, hy, he]
  · have hge : k = l.length := by have := of_decide_eq_false hc2; simp only at this; omega
    subst hge
    rw [List.take_length, hlm, List.take_length] at hall
    refine EndI.mk fun w9 h9 => ?_
    rw [decide_eq_true hall]
namespace Zs
/-- a set is as it has to be. -/
def check (l : List Zn) : Int := if (Cv.prune l).2 = 0 ∧ (Cv.prune l).1 = l then 0 else 8
/-- a set has a point. -/
def has (l : List Zn) (p : Pt) : Bool × Int :=
  if Cv.checked [l] = 0 then (if (Zo.has free p).2 = 0 then (l.any (fun z => decide ((Zo.has z p).2 = 0) && (Zo.has z p).1), 0) else (false, (Zo.has free p).2)) else (false, Cv.checked [l])
end Zs
theorem zscheck_any (l : List Zn) (a : Option Addr) (cap : Nat) (w : World) (hS : Sl w.heap.size w (.slice a l.length cap) l) :
    Calls Tryz.prog 183 #[.slice a l.length cap] w fun e w' => e = .returned (.int .i64 (Zs.check l)) ∧ Below w.heap.size w w' := by
  refine fun_eq 0 w Tryz.func183 (args := [.val (.slice a l.length cap)]) rfl rfl ?_
  apply CallI.use
  focus (exact fun w2 h2 => zsof_any l a cap w2 (hS.go h2.below h2.below.size))
  rintro v w2 v2 h2 hB2 ⟨a2, c2, rfl, hO2⟩
  unfold Zs.check
  generalize Cv.prune l = X at *
  obtain ⟨m, e⟩ := X
  simp only at hO2 ⊢
  refine Branch.mk (fun hc => ?_) (fun hc => ?_)
  · have h1 : e ≠ 0 := by simpa using hc
    rw [if_neg (fun h => h1 h.1)]
    exact EndI.mk fun w9 h9 => rfl
  have h1 : e = 0 := by simpa using hc
  apply CallI.use1
  focus (exact fun w3 h3 => equalZ_any l m a cap a2 c2 w3 (hS.go h3.below h3.below.size) (hO2.below (at_belowM h3 (by simp))).sl)
  intro w3 v3 h3 hB3
  refine Branch.mk (fun hc2 => ?_) (fun hc2 => ?_)
  · have h2 : ¬ l = m := by simpa using hc2
    rw [if_neg (fun h => h2 h.2.symm)]
    exact EndI.mk fun w9 h9 => rfl
  · have h2 : l = m := by simpa using hc2
    rw [if_pos ⟨h1, h2.symm⟩]
    exact EndI.mk fun w9 h9 => rfl
theorem has1_any (z : Zn) (p : Pt) (hp : p.ins) (B : Nat) (w : World) (hbox : w.heap[B]? = some (.cells #[.int .i64 p.t.num, .int .i64 p.t.den, .int .i64 p.u.num, .int .i64 p.u.den] 38 (0, 0))) :
    Calls Tryz.prog 65 #[.agg #[.int .i64 z.a, .int .i64 z.b, .int .i64 z.c, .int .i64 z.d, .int .i64 z.e, .int .i64 z.f], .pointer (some ⟨B, 0, none⟩)] w fun e w' => e = .returned (.bool (decide ((Zo.has z p).2 = 0) && (Zo.has z p).1)) ∧ Below w.heap.size w w' := by
  refine fun_eq 0 w Tryz.func65 (args := [.agg [.val (.int .i64 z.a), .val (.int .i64 z.b), .val (.int .i64 z.c), .val (.int .i64 z.d), .val (.int .i64 z.e), .val (.int .i64 z.f)], .val (.pointer (some ⟨B, 0, none⟩))]) rfl rfl ?_
  refine NewI.mk fun b1 hb1 => ?_
  refine LoadA.mk ⟨[.int .i64 p.t.num, .int .i64 p.t.den, .int .i64 p.u.num, .int .i64 p.u.den], ⟨rfl, by decide, by simp, cell_nM hbox⟩, ?_⟩
  apply CallI.use
  focus (exact fun w2 h2 => zhas_any z p hp w2)
  rintro v w2 v2 h2 hB2 rfl
  generalize Zo.has z p = X at *
  obtain ⟨x, e⟩ := X
  refine Branch.mk (fun hc => ?_) (fun hc => ?_)
  · have h1 : e = 0 := by simpa using hc
    exact EndI.mk fun w9 h9 => by simp [h1]
  · have h1 : ¬ e = 0 := by simpa using hc
    exact EndI.mk fun w9 h9 => by simp [h1]
theorem zshas_any (l : List Zn) (p : Pt) (hp : p.ins) (a : Option Addr) (cap : Nat) (w : World) (hS : Sl w.heap.size w (.slice a l.length cap) l) :
    Calls Tryz.prog 17 #[.slice a l.length cap, .agg #[.int .i64 p.t.num, .int .i64 p.t.den, .int .i64 p.u.num, .int .i64 p.u.den]] w fun e w' => e = .returned (.tuple #[.bool (Zs.has l p).1, .int .i64 (Zs.has l p).2]) ∧ Below w.heap.size w w' := by
  refine fun_eq 0 w Tryz.func17 (args := [.val (.slice a l.length cap), .agg [.val (.int .i64 p.t.num), .val (.int .i64 p.t.den), .val (.int .i64 p.u.num), .val (.int .i64 p.u.den)]]) rfl rfl ?_
  refine NewI.frn fun w1 h1 => ?_
  have hbox : (w1.alloc (.cells #[.int .i64 p.t.num, .int .i64 p.t.den, .int .i64 p.u.num, .int .i64 p.u.den] 38)).heap[w1.heap.size]? = some (.cells #[.int .i64 p.t.num, .int .i64 p.t.den, .int .i64 p.u.num, .int .i64 p.u.den] 38 (0, 0)) := World.alloc_heap_new w1 _
  have hw2 : Below w.heap.size w (w1.alloc (.cells #[.int .i64 p.t.num, .int .i64 p.t.den, .int .i64 p.u.num, .int .i64 p.u.den] 38)) := h1.below.alloc h1.below.size _
  generalize w1.alloc (.cells #[.int .i64 p.t.num, .int .i64 p.t.den, .int .i64 p.u.num, .int .i64 p.u.den] 38) = w2 at *
  generalize w1.heap.size = B at *
  refine NewI.mk fun b1 hb1 => ?_
  apply CallI.use1
  focus (exact fun w3 h3 => zschecked_any [⟨a, l.length, cap⟩] [l] (by simp) _ _ w3 (shown_one (hS.go h3.below h3.below.size) rfl) (Sl.own (l := [(⟨a, l.length, cap⟩ : Svl)]) h3 0 rfl rfl rfl (Nat.le_refl _) (by simp [maxLen])))
  intro w3 v3 h3 hB3
  have g3 := at_belowM h3 (by simp)
  have hbox3 := (hB3.block B (Nat.lt_of_lt_of_le (lt_cellsM hbox) g3.size)).trans ((g3.block B (lt_cellsM hbox)).trans hbox)
  unfold Zs.has
  refine Branch.mk (fun hc => ?_) (fun hc => ?_)
  · have h0 : Cv.checked [l] ≠ 0 := by simpa using hc
    rw [if_neg h0]
    exact EndI.mk fun w9 h9 => rfl
  have h0 : Cv.checked [l] = 0 := by simpa using hc
  rw [if_pos h0]
  have htop := fun w => top_any 3 w
  rw [Zo.top3] at htop
  have hof := fun (w : World) a c h => zof_any 3 a c (Dbm.topL 3) w h
  rw [Zs.free_of] at hof
  apply CallI.use
  focus (exact fun w4 h4 => htop w4)
  rintro v w4 v4 h4 hB4 ⟨a2, c2, rfl, hO2⟩
  have g4 := at_belowM h4 (by simp)
  have hbox4 := (hB4.block B (Nat.lt_of_lt_of_le (lt_cellsM hbox3) g4.size)).trans ((g4.block B (lt_cellsM hbox3)).trans hbox3)
  refine NewI.mk fun b2 hb2 => ?_
  apply CallI.use1
  focus (exact fun w5 h5 => hof w5 a2 c2 (hO2.below (at_belowM h5 (by simp <;> omega))).sl)
  intro w5 v5 h5 hB5
  have g5 : Below v4.heap.size v4 w5 := at_belowM h5 (by simp <;> omega)
  have hbox5 := (hB5.block B (Nat.lt_of_lt_of_le (lt_cellsM hbox4) g5.size)).trans ((g5.block B (lt_cellsM hbox4)).trans hbox4)
  have hBv4 := lt_cellsM hbox4
  refine NewI.mk fun b3 hb3 => ?_
  have hb3' : v5.heap.size ≤ b3 := hb3
  have hBv5 := lt_cellsM hbox5
  refine LoadA.mk ⟨[.int .i64 p.t.num, .int .i64 p.t.den, .int .i64 p.u.num, .int .i64 p.u.den], ⟨rfl, by decide, by simp; omega, cell_nM hbox5⟩, ?_⟩
  apply CallI.use
  focus (exact fun w6 h6 => zhas_any Zs.free p hp w6)
  rintro v w6 v6 h6 hB6 rfl
  have g6 : Below v5.heap.size v5 w6 := at_belowM h6 (by simp <;> omega)
  have hbox6 := (hB6.block B (Nat.lt_of_lt_of_le hBv5 g6.size)).trans ((g6.block B hBv5).trans hbox5)
  generalize Zo.has Zs.free p = X at *
  obtain ⟨x, e⟩ := X
  refine Branch.mk (fun hc2 => ?_) (fun hc2 => ?_)
  · have h1 : e ≠ 0 := by simpa using hc2
    rw [if_neg (by exact h1)]
    exact EndI.mk fun w9 h9 => rfl
  have h1 : e = 0 := by simpa using hc2
  rw [if_pos (by exact h1)]
  have hBv6 := lt_cellsM hbox6
  apply CallI.use1
  focus (exact fun w7 h7 => containsZ_pure l (fun z => decide ((Zo.has z p).2 = 0) && (Zo.has z p).1) a cap 65 #[.pointer (some ⟨B, 0, none⟩)] w7 (hS.go h7.below h7.below.size) Tryz.call65 (fun x W hx hW => has1_any x p hp B W ((hW.block B (Nat.lt_of_lt_of_le hBv6 (at_belowM h7 (by simp <;> omega)).size)).trans (((at_belowM h7 (by simp <;> omega)).block B hBv6).trans hbox6))))
  intro w7 v7 h7 hB7
  exact EndI.mk fun w9 h9 => rfl
end Go.Proofs.YtjbhpfmnfdebkaaGreat

/-
  Chains of matches: what may be handed in, and what one more round comes to.
-/
namespace Go.Proofs.YtjbhpfmnfdebkaaGreat
set_option linter.unusedVariables false
set_option linter.unusedSimpArgs false
set_option maxRecDepth 100000
open Go.RowKit Go.Proofs.YtjbhpfmnfdebkaaGreat.Eng Enc

namespace Cl
/-- a zone with pairs that are no matches. -/
def oddZ (z : Zn) : Bool := decide (1 < z.b) || decide (0 < z.f)
def odd (l : List Zn) : Bool := l.any oddZ
/-- the error of lists and caps. -/
def chk (old part : List Zn) (cz cr : Int) : Int :=
  if ¬ (1 ≤ cz ∧ cz ≤ 4096) ∨ ¬ (1 ≤ cr ∧ cr ≤ 4096) then 2 else if Zs.check old ≠ 0 ∨ Zs.check part ≠ 0 ∨ odd old = true ∨ odd part = true then 8 else 0
/-- a list, with what another one makes with the part; and that. -/
def longer (l by_ part : List Zn) (cz : Int) : List Zn × List Zn × Int :=
  if (Zs.comp by_ part).2 ≠ 0 ∨ cz < ((Zs.comp by_ part).1.length : Int) then ([], [], 300)
  else if (Zs.or l (Zs.comp by_ part).1).2 ≠ 0 ∨ cz < ((Zs.or l (Zs.comp by_ part).1).1.length : Int) then ([], [], 300)
  else ((Zs.or l (Zs.comp by_ part).1).1, (Zs.comp by_ part).1, 0)
end Cl
theorem codd1_any (z : Zn) (w : World) : Calls Tryz.prog 246 #[.agg #[.int .i64 z.a, .int .i64 z.b, .int .i64 z.c, .int .i64 z.d, .int .i64 z.e, .int .i64 z.f]] w fun e w' => e = .returned (.bool (Cl.oddZ z)) ∧ Below w.heap.size w w' := by
  refine fun_eq 0 w Tryz.func246 (args := [.agg [.val (.int .i64 z.a), .val (.int .i64 z.b), .val (.int .i64 z.c), .val (.int .i64 z.d), .val (.int .i64 z.e), .val (.int .i64 z.f)]]) rfl rfl ?_
  refine NewI.mk fun b1 hb1 => ?_
  unfold Cl.oddZ
  refine Need.mk ⟨by decide, by decide⟩ ?_
  refine Branch.mk (fun h => ?_) (fun h => ?_)
  · exact EndI.mk fun w9 h9 => by rw [h]; rfl
  · refine Need.mk ⟨by decide, by decide⟩ ?_
    exact EndI.mk fun w9 h9 => by rw [h]; rfl
theorem clodd_any (l : List Zn) (a : Option Addr) (cap : Nat) (w : World) (hS : Sl w.heap.size w (.slice a l.length cap) l) : Calls Tryz.prog 184 #[.slice a l.length cap] w fun e w' => e = .returned (.bool (Cl.odd l)) ∧ Below w.heap.size w w' := by
  refine fun_eq 0 w Tryz.func184 (args := [.val (.slice a l.length cap)]) rfl rfl ?_
  apply CallI.use1
  focus (exact fun w3 h3 => containsZ_pure l Cl.oddZ a cap 246 #[] w3 (Sl.at h3 hS) Tryz.call246 fun x W hx _ => codd1_any x W)
  intro w3 v3 h3 hB3
  exact EndI.mk fun w9 h9 => rfl
theorem cbetween_any (n m : Int) (w : World) : Calls Tryz.prog 182 #[.int .i64 n, .int .i64 m] w fun e w' => e = .returned (.bool (decide (1 ≤ n ∧ n ≤ m))) ∧ Below w.heap.size w w' := by
  refine fun_eq 0 w Tryz.func182 (args := [.val (.int .i64 n), .val (.int .i64 m)]) rfl rfl ?_
  refine Branch.mk (fun h => ?_) (fun h => ?_)
  · have h1 : 1 ≤ n := of_decide_eq_true h
    exact EndI.mk fun w9 h9 => by congr 1; rw [decide_eq_decide]; omega
  · have h1 : ¬ 1 ≤ n := of_decide_eq_false h
    exact EndI.mk fun w9 h9 => by rw [decide_eq_false (by omega)]
theorem cchecked_any (old part : List Zn) (cz cr : Int) (ao ap : Option Addr) (co cp : Nat) (w : World) (hO : Sl w.heap.size w (.slice ao old.length co) old) (hP : Sl w.heap.size w (.slice ap part.length cp) part) :
    Calls Tryz.prog 111 #[.slice ao old.length co, .slice ap part.length cp, .agg #[.int .i64 cz, .int .i64 cr]] w fun e w' => e = .returned (.int .i64 (Cl.chk old part cz cr)) ∧ Below w.heap.size w w' := by
  refine fun_eq 0 w Tryz.func111 (args := [.val (.slice ao old.length co), .val (.slice ap part.length cp), .agg [.val (.int .i64 cz), .val (.int .i64 cr)]]) rfl rfl ?_
  have st := Stay.first (w := w)
  refine NewI.mk fun b1 hb1 => ?_
  unfold Cl.chk
  apply CallI.use1
  focus (exact fun w2 h2 => cbetween_any cz 4096 w2)
  intro w2 v2 h2 hB2
  have st := st.next h2 (fun x hx => by simp at hx <;> omega) hB2
  by_cases h1 : 1 ≤ cz ∧ cz ≤ 4096
  case neg =>
    rw [if_pos (.inl h1)]
    refine Branch.yes (by rw [decide_eq_false h1]; rfl) ?_
    exact EndI.mk fun w9 h9 => rfl
  refine Branch.no (by rw [decide_eq_true h1]; rfl) ?_
  apply CallI.use1
  focus (exact fun w3 h3 => cbetween_any cr 4096 w3)
  intro w3 v3 h3 hB3
  have st := st.next h3 (fun x hx => by simp at hx <;> omega) hB3
  by_cases h2 : 1 ≤ cr ∧ cr ≤ 4096
  case neg =>
    rw [if_pos (.inr h2)]
    refine Branch.yes (by rw [decide_eq_false h2]; rfl) ?_
    exact EndI.mk fun w9 h9 => rfl
  refine Branch.no (by rw [decide_eq_true h2]; rfl) ?_
  rw [if_neg (fun h => h.elim (fun k => k h1) (fun k => k h2))]
  apply CallI.use1
  focus (exact fun w4 h4 => zscheck_any old ao co w4 (hO.st (st.at h4 (fun x hx => by simp at hx <;> omega))))
  intro w4 v4 h4 hB4
  have st := st.next h4 (fun x hx => by simp at hx <;> omega) hB4
  refine Branch.mk (fun h3 => ?_) (fun h3 => ?_)
  · rw [if_pos (.inl (of_decide_eq_true h3))]
    exact EndI.mk fun w9 h9 => rfl
  apply CallI.use1
  focus (exact fun w5 h5 => zscheck_any part ap cp w5 (hP.st (st.at h5 (fun x hx => by simp at hx <;> omega))))
  intro w5 v5 h5 hB5
  have st := st.next h5 (fun x hx => by simp at hx <;> omega) hB5
  refine Branch.mk (fun h4 => ?_) (fun h4 => ?_)
  · rw [if_pos (.inr (.inl (of_decide_eq_true h4)))]
    exact EndI.mk fun w9 h9 => rfl
  apply CallI.use1
  focus (exact fun w6 h6 => clodd_any old ao co w6 (hO.st (st.at h6 (fun x hx => by simp at hx <;> omega))))
  intro w6 v6 h6 hB6
  have st := st.next h6 (fun x hx => by simp at hx <;> omega) hB6
  refine Branch.mk (fun h5 => ?_) (fun h5 => ?_)
  · rw [if_pos (.inr (.inr (.inl h5)))]
    exact EndI.mk fun w9 h9 => rfl
  apply CallI.use1
  focus (exact fun w7 h7 => clodd_any part ap cp w7 (hP.st (st.at h7 (fun x hx => by simp at hx <;> omega))))
  intro w7 v7 h7 hB7
  have st := st.next h7 (fun x hx => by simp at hx <;> omega) hB7
  refine Branch.mk (fun h6 => ?_) (fun h6 => ?_)
  · rw [if_pos (.inr (.inr (.inr h6)))]
    exact EndI.mk fun w9 h9 => rfl
  rw [if_neg (fun h => by
    have h3 := of_decide_eq_false h3
    have h4 := of_decide_eq_false h4
    rcases h with h | h | h | h
    · exact h3 h
    · exact h4 h
    · rw [h5] at h; cases h
    · rw [h6] at h; cases h)]
  exact EndI.mk fun w9 h9 => rfl
theorem clonger_any (l by_ part : List Zn) (cz : Int) (al ab ap : Option Addr) (cl cb cp : Nat) (w : World) (hL : Sl w.heap.size w (.slice al l.length cl) l) (hB : Sl w.heap.size w (.slice ab by_.length cb) by_) (hP : Sl w.heap.size w (.slice ap part.length cp) part) :
    Calls Tryz.prog 186 #[.slice al l.length cl, .slice ab by_.length cb, .slice ap part.length cp, .int .i64 cz] w (Ret w fun v w' => ∃ a1 c1 a2 c2, v = .tuple #[.slice a1 (Cl.longer l by_ part cz).1.length c1, .slice a2 (Cl.longer l by_ part cz).2.1.length c2, .int .i64 (Cl.longer l by_ part cz).2.2] ∧
      Own TZ w.heap.size w' (.slice a1 (Cl.longer l by_ part cz).1.length c1) (Cl.longer l by_ part cz).1 ∧ Own TZ w.heap.size w' (.slice a2 (Cl.longer l by_ part cz).2.1.length c2) (Cl.longer l by_ part cz).2.1) := by
  refine fun_ret 0 w Tryz.func186 (args := [.val (.slice al l.length cl), .val (.slice ab by_.length cb), .val (.slice ap part.length cp), .val (.int .i64 cz)]) rfl rfl ?_
  have st := Stay.first (w := w)
  unfold Cl.longer
  apply CallI.use
  focus (exact fun w2 h2 => zscomp_any by_ part ab ap cb cp w2 (hB.st (st.at h2 (fun x hx => by simp at hx <;> omega))) (hP.st (st.at h2 (fun x hx => by simp at hx <;> omega))))
  rintro v w2 v2 h2 hB2 ⟨a2, c2, rfl, hO2⟩
  have st := st.next h2 (fun x hx => by simp at hx <;> omega) hB2
  refine Branch.mk (fun z1 => ?_) (fun z1 => ?_)
  · rw [if_pos (.inl (of_decide_eq_true z1))]
    exact EndI.mk fun w9 h9 => ⟨_, _, _, _, rfl, Own.nil, Own.nil⟩
  have z1' := of_decide_eq_false z1
  refine Branch.mk (fun z2 => ?_) (fun z2 => ?_)
  · rw [if_pos (.inr (of_decide_eq_true z2))]
    exact EndI.mk fun w9 h9 => ⟨_, _, _, _, rfl, Own.nil, Own.nil⟩
  have z2' := of_decide_eq_false z2
  rw [if_neg (fun h => h.elim z1' z2')]
  apply CallI.use
  focus (exact fun w3 h3 => zsor_any l (Zs.comp by_ part).1 al a2 cl c2 w3 (hL.st (st.at h3 (fun x hx => by simp at hx <;> omega))) ((hO2.st (st.at h3 (fun x hx => by simp at hx <;> omega))).sl))
  rintro v w3 v3 h3 hB3 ⟨a3, c3, rfl, hO3⟩
  have st := st.next h3 (fun x hx => by simp at hx <;> omega) hB3
  refine Branch.mk (fun z3 => ?_) (fun z3 => ?_)
  · rw [if_pos (.inl (of_decide_eq_true z3))]
    exact EndI.mk fun w9 h9 => ⟨_, _, _, _, rfl, Own.nil, Own.nil⟩
  have z3' := of_decide_eq_false z3
  refine Branch.mk (fun z4 => ?_) (fun z4 => ?_)
  · rw [if_pos (.inr (of_decide_eq_true z4))]
    exact EndI.mk fun w9 h9 => ⟨_, _, _, _, rfl, Own.nil, Own.nil⟩
  have z4' := of_decide_eq_false z4
  rw [if_neg (fun h => h.elim z3' z4')]
  exact EndI.mk fun w9 h9 => ⟨_, _, _, _, rfl, (hO3.lower h3.below.size).below (at_belowM h9 (by simp)), ((hO2.st st).lower h2.below.size).below (at_belowM h9 (by simp))⟩
end Go.Proofs.YtjbhpfmnfdebkaaGreat

/-
  Ranges over functions whose iterator tells, with each thing that it yields, what the world shows of it.
-/
namespace Go.Proofs.YtjbhpfmnfdebkaaGreat.Eng
set_option linter.unusedVariables false
set_option linter.unusedSimpArgs false
open Go Go.RowKit Go.Shelf Go.Proofs

/-- an iterator's contract: it may turn block Bx, and lay blocks; what it is asked of, J, stays through that. -/
def SeqStopsV {α : Type} (n : Nat) (P : Program) (g : Nat) (lb : Array Value) (encs : α → Array Value) (V : α → World → Prop) (Kp : World → World → Prop) (S Sp : List α → Prop) (N Bx n₀ : Nat) (w : World) : Prop :=
  ∀ (l : Nat) (J Jx : List α → World → Prop) (W : World), Below w.heap.size w W → (∀ pre A B, J pre A → A.grownBy B (some Bx) → J pre B) → (∀ pre A B, Jx pre A → A.grownBy B none → Jx pre B) →
    (∀ pre x W1, J pre W1 → V x W1 → pre.length < N → YieldAt Fence.wide (n - 1) P l (encs x) W1 fun e W' => (e = .returned (.bool true) ∧ J (pre ++ [x]) W' ∧ Kp W1 W') ∨ (e = .returned (.bool false) ∧ Jx (pre ++ [x]) W' ∧ Below n₀ W1 W')) →
    J [] W → CallsIn Fence.wide n P g (#[.func (.yield l) #[] #[]] ++ lb) W fun e W' => (∃ v, e = .returned v) ∧ ((∃ xs, S xs ∧ J xs W') ∨ (∃ pre, Sp pre ∧ Jx pre W'))

theorem range_lawV {n : Nat} {P : Program} {α : Type} {g : Operand} {ps : Array Tmp} {x y : Code} {Q : Exit → Act → World → Prop} {a : Act} {w : World} (h1 : 1 ≤ n) {gf : Nat} {lb : Array Value}
    (hg : a.eval g = .func (.func gf) #[] lb) (eg : ∀ args w, (callFunc gf args).run P w = .ok (.enter gf args) w) {encs : α → Array Value} {Kp : World → World → Prop} {S Sp : List α → Prop} {N Bx n₀ : Nat}
    {V : α → World → Prop} (hseq : SeqStopsV (n - 1) P gf lb encs V Kp S Sp N Bx n₀ w) (hBx : Bx < w.heap.size) (hKt : ∀ {A B C : World}, Kp A B → Kp B C → Kp A C)
    (hKb : ∀ (W : World) (l : Nat) (o o' : Obj), w.heap.size ≤ l → W.heap[l]? = some o → o.isCells = false → o.isWalk = false → Kp W (W.putObj l o')) (hps : ∀ z, (encs z).size = ps.size)
    (I : List α → World → Prop) (Ix : Code → List α → World → Prop) (Ax : List α → α → Act → World → Prop) (hI : ∀ pre A B row, I pre A → A.grownBy B row → RowB w.heap.size Bx A row → I pre B) (hIx : ∀ c, OwnFrom w.heap.size (Ix c))
    (hAx : ∀ pre z a', OwnFrom w.heap.size (fun (_ : Unit) W => Ax pre z a' W)) (h0 : I [] w) (hIB : ∀ pre A, I pre A → Below n₀ w A) (hIxB : ∀ c pre A, Ix c pre A → Below n₀ w A)
    (hassign : ∀ (l : Nat) (pre : List α) (z : α) (W : World), I pre W → V z W → pre.length < N →
      x.wpIn (Fence.wide.inRound l) (n - 1 - 1) P (fun e a' W' => e = .normal ∧ KeepsFrom w.heap.size W W' ∧ Kp W W' ∧ I pre W' ∧ Ax pre z a' W') { tmps := (ps.zip (encs z)).foldl (fun t (p, v) => t.setIfInBounds p v) a.tmps, defers := [] } W)
    (hbody : ∀ (l : Nat) (pre : List α) (z : α) (a' : Act) (W : World), I pre W → Ax pre z a' W → pre.length < N → y.wpIn (Fence.wide.inRound l) (n - 1 - 1) P (ownPostG w.heap.size Kp I Ix (pre ++ [z]) W) a' W)
    (hdone : ∀ (D : Nat) (xs : List α) (W : World), w.heap.size ≤ D → S xs → I xs W → W.heap[D]? = some (.deferred (some [])) → Q .normal { a with defers := { target := .collected D, args := #[] } :: a.defers } W)
    (hstop : ∀ (D : Nat) (c : Code) (pre : List α) (W : World), w.heap.size ≤ D → Sp pre → Ix c pre W → W.heap[D]? = some (.deferred (some [])) → c.wpIn Fence.wide n P Q { a with defers := { target := .collected D, args := #[] } :: a.defers } W) :
    (Code.rangeFunc g ps x y).wpIn Fence.wide n P Q a w := by
  refine wpIn_rangeFunc fun fn hfn => ?_
  have hro : Fence.wide.round = none := rfl
  rw [hro]
  let lp : LoopState → Option Code → Loop := fun st pe => { state := st, pending := pe, fn, tmps := a.tmps, params := ps, assign := x, body := y, defers := w.heap.size }
  have two : Kept2 w.heap.size (lp .ready none) ((w.alloc (.deferred (some []))).alloc (.loop (lp .ready none))) := by
    constructor
    · have := World.alloc_heap_new (w.alloc (.deferred (some []))) (.loop (lp .ready none))
      rwa [World.size_alloc] at this
    · exact (Below.heap_alloc _ _ _ (by simp)).trans (World.alloc_heap_new w _)
  have g1 : w.grownBy (w.alloc (.deferred (some []))) none := World.grownBy_alloc w _ none
  have g2 : (w.alloc (.deferred (some []))).grownBy ((w.alloc (.deferred (some []))).alloc (.loop (lp .ready none))) none := World.grownBy_alloc _ _ none
  have hI1 : I [] ((w.alloc (.deferred (some []))).alloc (.loop (lp .ready none))) := hI _ _ _ none (hI _ _ _ none h0 g1 (fun r e => nomatch e)) g2 (fun r e => nomatch e)
  have hb1 : Below w.heap.size w ((w.alloc (.deferred (some []))).alloc (.loop (lp .ready none))) := (((Below.refl _ w).alloc (Nat.le_refl _) _).alloc (by simp) _)
  have hent : (Instr.enterLoop fn a.tmps ps x y none).run P w = .ok (w.heap.size + 1, [{ target := .collected w.heap.size, args := #[] }]) ((w.alloc (.deferred (some []))).alloc (.loop (lp .ready none))) := run_enterLoop_outer _ _ _ _ _
  generalize (w.alloc (.deferred (some []))).alloc (.loop (lp .ready none)) = W1 at *
  refine ⟨w.heap.size + 1, [{ target := .collected w.heap.size, args := #[] }], W1, { target := .fn (.func gf) lb, args := #[.func (.yield (w.heap.size + 1)) #[] #[]] }, W1, gf,
    #[.func (.yield (w.heap.size + 1)) #[] #[]] ++ lb, W1, hent, by simp only [resolve, hg]; simp [go_sem], fun f' _ => trivial, by simp [invoke, go_sem, eg], fun _ => h1, ?_⟩
  have hS1 : W1.heap.size ≥ w.heap.size := hb1.size
  refine (hseq (w.heap.size + 1) (fun pre W => I pre W ∧ Kept2 w.heap.size (lp .ready none) W) (fun pre W => ∃ c, Ix c pre W ∧ Kept2 w.heap.size (lp .done (some c)) W) W1 hb1
    (fun pre A C h hgr => ⟨hI _ _ _ _ h.1 hgr (fun r e => .inl (by injection e with e; exact e.symm)), h.2.turn hgr (fun r e => by injection e with e; omega)⟩)
    (fun pre A C h hgr => by obtain ⟨c, hc, hk⟩ := h; exact ⟨c, hIx c _ _ _ _ hc hgr (fun r e => nomatch e), hk.turn hgr (fun r e => nomatch e)⟩) ?_ ⟨hI1, two⟩).mono ?_
  · -- a round
    rintro pre z W ⟨hi, hk⟩ hvz hlen
    refine ⟨fn, _, x, y, run_yield (P := P) (args := encs z) hk.1 (hps z), roundIn_of_wpIn hfn (wpIn_mono (hassign (w.heap.size + 1) pre z W hi hvz hlen) ?_)⟩
    rintro e a' Wa ⟨rfl, kf, kp, hia, hax⟩
    have hka := hk.from kf
    refine ⟨_, run_beginRound hka.1 rfl, ?_⟩
    have hkb := hka.put { lp .ready none with state := .busy }
    have rowL : ∀ {A : World} {o : Loop}, Kept2 w.heap.size o A → RowB w.heap.size Bx A (some (w.heap.size + 1)) := fun {A} {o} h r e => .inr (by injection e with e; subst e; exact ⟨by omega, _, h.1, rfl⟩)
    have own : ∀ {A : World} {o : Loop}, Kept2 w.heap.size o A → ∀ r, some (w.heap.size + 1) = some r → w.heap.size ≤ r ∧ ∃ o' : Obj, A.heap[r]? = some o' ∧ o'.isCells = false := fun {A} {o} h r e => by injection e with e; subst e; exact ⟨by omega, _, h.1, rfl⟩
    have kpb : Kp Wa (Wa.putObj (w.heap.size + 1) (.loop { lp .ready none with state := .busy })) := hKb _ _ _ _ (by omega) hka.1 rfl rfl
    refine wpIn_mono (hbody (w.heap.size + 1) pre z a' _ (hI _ _ _ _ hia (grownBy_putObj' _ _ _) (rowL hka)) (hAx pre z a' () _ _ _ hax (grownBy_putObj' _ _ _) (own hka)) hlen) ?_
    intro e a3 W3 hp
    have fin : ∀ (jump : Option Code), KeepsFrom w.heap.size (Wa.putObj (w.heap.size + 1) (.loop { lp .ready none with state := .busy })) W3 →
        (Instr.endRound (w.heap.size + 1) jump).run P W3 = .ok (.bool jump.isNone) (W3.putObj (w.heap.size + 1) (.loop (lp (if jump.isNone then .ready else .done) jump))) ∧ Kept2 w.heap.size { lp .ready none with state := .busy } W3 := fun jump k3 => by
      have h3 := hkb.from k3
      exact ⟨run_endRound (P := P) jump h3.1, h3⟩
    have bel : ∀ (jump : Option Code) {c : Code}, Ix c (pre ++ [z]) W3 → Kept2 w.heap.size { lp .ready none with state := .busy } W3 → KeepsFrom w.heap.size (Wa.putObj (w.heap.size + 1) (.loop { lp .ready none with state := .busy })) W3 →
        Below n₀ W (W3.putObj (w.heap.size + 1) (.loop (lp (if jump.isNone then .ready else .done) jump))) := fun jump {c} i3 h3 k3 =>
      below_between (hIB _ _ hi) (hIxB _ _ _ (hIx c _ _ _ _ i3 (grownBy_putObj' _ _ _) (own h3))) (by
        have := k3.size
        have := kf.size
        simp only [World.putObj_size] at *
        omega)
    cases e with
    | normal =>
      obtain ⟨k3, p3, i3⟩ := hp
      obtain ⟨hr, h3⟩ := fin none k3
      exact ⟨_, _, hr, .inl ⟨rfl, ⟨hI _ _ _ _ i3 (grownBy_putObj' _ _ _) (rowL h3), h3.put _⟩, hKt kp (hKt (hKt kpb p3) (hKb _ _ _ _ (by omega) h3.1 rfl rfl))⟩⟩
    | ret =>
      obtain ⟨k3, i3⟩ := hp
      obtain ⟨hr, h3⟩ := fin (some .ret) k3
      exact ⟨_, _, hr, .inr ⟨rfl, ⟨.ret, hIx _ _ _ _ _ i3 (grownBy_putObj' _ _ _) (own h3), h3.put _⟩, bel _ i3 h3 k3⟩⟩
    | exit id =>
      obtain ⟨k3, i3⟩ := hp
      obtain ⟨hr, h3⟩ := fin (some (.exit id)) k3
      exact ⟨_, _, hr, .inr ⟨rfl, ⟨.exit id, hIx _ _ _ _ _ i3 (grownBy_putObj' _ _ _) (own h3), h3.put _⟩, bel _ i3 h3 k3⟩⟩
    | goto t =>
      obtain ⟨k3, i3⟩ := hp
      obtain ⟨hr, h3⟩ := fin (some (.goto t)) k3
      exact ⟨_, _, hr, .inr ⟨rfl, ⟨.goto t, hIx _ _ _ _ _ i3 (grownBy_putObj' _ _ _) (own h3), h3.put _⟩, bel _ i3 h3 k3⟩⟩
    | panic ch => exact hp.elim
    | outgrown => exact hp.elim
  · -- behind the iterator
    rintro e W2 ⟨⟨v, rfl⟩, ⟨xs, hS, hi, hk⟩ | ⟨pre, hSp, c, hi, hk⟩⟩
    · have hput := hk.put (lp .ready none)
      exact ⟨none, _, run_endLoop (P := P) hk.1 (by simp [lp]), hdone _ xs _ (Nat.le_refl _) hS (hI _ _ _ _ hi (grownBy_putObj' _ _ _) (fun r e => .inr (by injection e with e; subst e; exact ⟨by omega, _, hk.1, rfl⟩))) ((World.putObj_heap_other (by omega)).trans hk.2)⟩
    · exact ⟨some c, _, run_endLoop (P := P) hk.1 (by simp [lp]), hstop _ c pre _ (Nat.le_refl _) hSp (hIx c _ _ _ _ hi (grownBy_putObj' _ _ _) (fun r e => by injection e with e; subst e; exact ⟨by omega, _, hk.1, rfl⟩)) ((World.putObj_heap_other (by omega)).trans hk.2)⟩

section
variable {cx : Cx} {w0 : Base}
/-- A RANGE OVER A FUNCTION whose iterator writes its own box; rounds take their variables into blocks of their own. -/
theorem rangeV (hcx : CxOk cx) {n : Nat} (h1 : 1 ≤ n) {s : St} {a : Act} {w : World} (hR : Rel w0 s a w) {g : Operand} {ps : Array Tmp} {x y : Code} {K : Exit → St → Prop} {gf : Nat} {lb : Array Value}
    (hg : ev s.fr g = .val (.func (.func gf) #[] lb)) (eg : Enters cx.P gf)
    {α : Type} {encs : α → List Value} {Kp : World → World → Prop} {S Sp : List α → Prop} {N Bx : Nat} {V : α → World → Prop} (hseq : SeqStopsV (n - 1) cx.P gf lb (fun x => (encs x).toArray) V Kp S Sp N Bx w0.B w) (hVo : ∀ z, OwnFrom w.heap.size (fun (_ : Unit) W => V z W)) (hBx : Bx < w.heap.size) (hBx0 : w0.B ≤ Bx) (hBxr : Bx ∉ s.r)
    (hKt : ∀ {A B C : World}, Kp A B → Kp B C → Kp A C) (hKb : ∀ (W : World) (l : Nat) (o o' : Obj), w.heap.size ≤ l → W.heap[l]? = some o → o.isCells = false → o.isWalk = false → Kp W (W.putObj l o'))
    (hps : ∀ x, (encs x).length = ps.size)
    {γ : Type} (hpf : γ → List LB) (Φ : List α → γ → World → Prop) (hΦ : ∀ c pre A B row, Φ pre c A → A.grownBy B row → RowB w.heap.size Bx A row → Φ pre c B) (c0 : γ) (hp0 : hpf c0 = s.hp) (hΦ0 : Φ [] c0 w)
    (Ix : Code → List α → γ → World → Prop) (hpx : Code → γ → List LB) (hIx : ∀ c q, OwnFrom w.heap.size (fun pre W => Ix c pre q W))
    (frx : α → Fr) (hpa : α → List LB) (Ψ : γ → List Nat → Prop)
    (hassign : ∀ l pre z c W, Φ pre c W → V z W → Below w0.B w0.W W → w.heap.size ≤ W.heap.size → pre.length < N → codeD (Fence.wide.inRound l) (n - 1 - 1) cx w0 x
      (fun e s' => e = .normal ∧ s'.on fun fr2 hp2 r2 L2 w2 df2 => ∃ bs, bs.length = (hpa z).length ∧ Ψ c bs ∧ Need (fr2 = frx z ∧ hp2 = hpf c ++ hpa z ∧ r2 = s.r ++ bs ∧ df2 = []) (EndI w0 hp2 r2 L2 w2 undef fun _ w1 => KeepsFrom w.heap.size W w1 ∧ Kp W w1 ∧ Φ pre c w1 ∧ V z w1)) ⟨setP s.fr ps.toList (encs z), hpf c, s.r, [], W, []⟩)
    (hbody : ∀ l pre x c bs W, bs.length = (hpa x).length → Ψ c bs → Φ pre c W → V x W → Below w0.B w0.W W → w.heap.size ≤ W.heap.size → pre.length < N → codeD (Fence.wide.inRound l) (n - 1 - 1) cx w0 y
      (fun e s' => match e with
        | .normal => s'.on fun fr2 hp2 r2 L2 w2 df2 => ∃ c', Need (CovH (hpf c') s.r ⟨fr2, hp2, r2, L2, w2, df2⟩) (EndI w0 hp2 r2 L2 w2 undef fun _ w1 => KeepsFrom w.heap.size W w1 ∧ Kp W w1 ∧ Φ (pre ++ [x]) c' w1)
        | .ret => s'.on fun fr2 hp2 r2 L2 w2 df2 => ∃ c', Need (CovH (hpx .ret c') s.r ⟨fr2, hp2, r2, L2, w2, df2⟩) (EndI w0 hp2 r2 L2 w2 undef fun _ w1 => KeepsFrom w.heap.size W w1 ∧ Ix .ret (pre ++ [x]) c' w1)
        | .exit id => s'.on fun fr2 hp2 r2 L2 w2 df2 => ∃ c', Need (CovH (hpx (.exit id) c') s.r ⟨fr2, hp2, r2, L2, w2, df2⟩) (EndI w0 hp2 r2 L2 w2 undef fun _ w1 => KeepsFrom w.heap.size W w1 ∧ Ix (.exit id) (pre ++ [x]) c' w1)
        | _ => False) ⟨frx x, hpf c ++ hpa x, s.r ++ bs, [], W, []⟩)
    (hdone : ∀ D xs c W, w.heap.size ≤ D → S xs → Φ xs c W → W.heap[D]? = some (.deferred (some [])) → K .normal ⟨s.fr, hpf c, s.r, [], W, { target := .collected D, args := #[] } :: s.df⟩)
    (hstop : ∀ D c e pre q W, w.heap.size ≤ D → Sp pre → Ix c pre q W → exitOf c = some e → W.heap[D]? = some (.deferred (some [])) → K e ⟨s.fr, hpx c q, s.r, [], W, { target := .collected D, args := #[] } :: s.df⟩) :
    (Code.rangeFunc g ps x y).wpIn Fence.wide n cx.P (fun e a' w' => ∃ s', Rel w0 s' a' w' ∧ K e s') a w := by
  have hev := hR.ev1 hg (by simp) []
  simp only [SV.den] at hev
  have hB : w0.B ≤ w.heap.size := Nat.le_trans w0.le hR.at_.below.size
  have withD : ∀ {hp : List LB} {W : World} (D : Nat), Rel w0 ⟨s.fr, hp, s.r, [], W, s.df⟩ a W → Rel w0 ⟨s.fr, hp, s.r, [], W, { target := .collected D, args := #[] } :: s.df⟩ { a with defers := { target := .collected D, args := #[] } :: a.defers } W := fun {hp} {W} D h =>
    ⟨congrArg (_ :: ·) h.df, h.fits, ⟨h.at_.below, h.at_.size, h.at_.step, h.at_.blk, h.at_.fresh, h.at_.lt, h.at_.base⟩, h.blk, h.nod, h.len⟩
  have inner : ∀ {hp : List LB} {W : World} {a' : Act} {fr : Fr}, Rel w0 ⟨s.fr, hp, s.r, [], W, s.df⟩ a W → a'.defers = [] → (∀ t, Fits (s.r ++ t) fr a'.tmps) → Rel w0 ⟨fr, hp, s.r, [], W, []⟩ a' W := fun {hp} {W} {a'} {fr} h hd hf =>
    ⟨hd, hf, ⟨h.at_.below, h.at_.size, h.at_.step, h.at_.blk, h.at_.fresh, h.at_.lt, h.at_.base⟩, h.blk, h.nod, h.len⟩
  have rowO : ∀ {A : World} {row : Option Nat}, (∀ r, row = some r → w.heap.size ≤ r ∧ ∃ o : Obj, A.heap[r]? = some o ∧ o.isCells = false) → RowB w.heap.size Bx A row := fun h r e => .inr (h r e)
  refine range_lawV h1 hev eg hseq hBx hKt hKb (fun z => by simp [hps]) (fun pre W => ∃ c, Rel w0 ⟨s.fr, hpf c, s.r, [], W, s.df⟩ a W ∧ w.heap.size ≤ W.heap.size ∧ Φ pre c W)
    (fun c pre W => (∃ e, exitOf c = some e) ∧ ∃ q, Rel w0 ⟨s.fr, hpx c q, s.r, [], W, s.df⟩ a W ∧ Ix c pre q W ∧ w.heap.size ≤ W.heap.size)
    (fun pre z a' W => V z W ∧ ∃ c bs, (bs.length = (hpa z).length ∧ Ψ c bs) ∧ Rel w0 ⟨s.fr, hpf c, s.r, [], W, s.df⟩ a W ∧ Rel w0 ⟨frx z, hpf c ++ hpa z, s.r ++ bs, [], W, []⟩ a' W ∧ w.heap.size ≤ W.heap.size ∧ Φ pre c W) ?_ ?_ ?_ ?_ (fun pre A ⟨c, hr, hs, hf⟩ => below_between hR.at_.below hr.at_.below hs) (fun c pre A ⟨_, q, hr, hx, hs⟩ => below_between hR.at_.below hr.at_.below hs) ?_ ?_ ?_ ?_
  · rintro pre A C row ⟨c, hr, hs, hf⟩ hgr hrow
    exact ⟨c, hr.keep (rel_turn hr hB hBx0 hBxr hgr hrow), Nat.le_trans hs hgr.size, hΦ c pre A C row hf hgr hrow⟩
  · rintro c pre A C row ⟨h0, q, hr, hx, hs⟩ hgr hrow
    exact ⟨h0, q, hr.keep (grown_keep hr hB hgr hrow), hIx c q pre A C row hx hgr hrow, Nat.le_trans hs hgr.size⟩
  · rintro pre z a' _ A C row ⟨hvz, c, bs, hl, hr, hr2, hs, hf⟩ hgr hrow
    exact ⟨hVo z () A C row hvz hgr hrow, c, bs, hl, hr.keep (grown_keep hr hB hgr hrow), hr2.keep (grown_keep hr2 hB hgr hrow), Nat.le_trans hs hgr.size, hΦ c pre A C row hf hgr (rowO hrow)⟩
  · refine ⟨c0, ?_, Nat.le_refl _, hΦ0⟩
    have h0 := hR.keep keep_refl
    rw [hp0]; exact h0
  · rintro l pre z W ⟨c, hr, hs, hf⟩ hvz hN
    have hr1 := rel_sets (w0 := w0) (s := ⟨s.fr, hpf c, s.r, [], W, []⟩) (a := ⟨a.tmps, []⟩) (inner hr rfl hr.fits) ps.toList (encs z)
    have e1 : (ps.zip (encs z).toArray).foldl (fun (t : Array Value) (x : Nat × Value) => t.setIfInBounds x.1 x.2) a.tmps = sets a.tmps ps.toList (encs z) := by
      rw [← sets_eq]
    show x.wpIn _ _ _ _ ({ tmps := (ps.zip (encs z).toArray).foldl (fun (t : Array Value) (x : Nat × Value) => t.setIfInBounds x.1 x.2) a.tmps, defers := [] } : Act) W
    rw [e1]
    refine codeD_round hcx l _ _ _ _ _ W _ (hassign l pre z c W hf hvz hr.at_.below hs hN) hr1 ?_
    rintro e s' a' W' ⟨rfl, hK⟩ hR'
    obtain ⟨fr2, hp2, r2, L2, w2, df2⟩ := s'
    rw [St.on_eq] at hK
    obtain ⟨bs, hl, hψ, ⟨e1, e2, e3, e4⟩, h2⟩ := hK
    simp only at e1 e2 e3 e4
    subst e1; subst e2; subst e3; subst e4
    obtain ⟨k1, k2, k3, k4⟩ := h2.h W' hR'.at_
    have hcov : Keep w0 s.r W W' := by
      refine ⟨?_, fun b hb => ?_⟩
      · exact ⟨hR'.at_.below.os.trans hr.at_.below.os.symm, hR'.at_.below.tape.trans hr.at_.below.tape.symm, hR'.at_.below.output.trans hr.at_.below.output.symm, k1.size, fun k hk => (hR'.at_.below.block k hk).trans (hr.at_.below.block k hk).symm⟩
      · obtain ⟨i, hi, hib⟩ := List.getElem_of_mem hb
        have hil : i < (hpf c).length := by have := hr.len; simp only at this; omega
        have g1 := hr.blk [] i b (hpf c)[i] (by show s.r[i]? = _; rw [List.getElem?_eq_getElem hi, hib]) (by show hget (hpf c) i = _; rw [hget_eq, List.getElem?_eq_getElem hil])
        have g2 := hR'.blk [] i b (hpf c)[i] (by show (s.r ++ bs)[i]? = _; rw [List.getElem?_append_left hi, List.getElem?_eq_getElem hi, hib]) (by show hget (hpf c ++ hpa z) i = _; rw [hget_eq, List.getElem?_append_left hil, List.getElem?_eq_getElem hil])
        have g3 := hr.blk bs i b (hpf c)[i] (by show s.r[i]? = _; rw [List.getElem?_eq_getElem hi, hib]) (by show hget (hpf c) i = _; rw [hget_eq, List.getElem?_eq_getElem hil])
        simp only [List.append_nil] at g1 g2
        rw [g2, ← g3]
    exact ⟨rfl, k1, k2, ⟨c, hr.keep hcov, Nat.le_trans hs k1.size, k3⟩, k4, c, bs, ⟨hl, hψ⟩, hr.keep hcov, hR'.keep keep_refl, Nat.le_trans hs k1.size, k3⟩
  · rintro l pre z a' W _ ⟨hvz, c, bs, hl, hr, hr2, hs, hf⟩ hN
    refine codeD_round hcx l _ y _ _ _ W _ (hbody l pre z c bs W hl.1 hl.2 hf hvz hr.at_.below hs hN) hr2 ?_
    intro e s' a2 w1 hK hR'
    cases e with
    | normal =>
      simp only [St.on_eq] at hK
      obtain ⟨c', h1, h2⟩ := hK
      obtain ⟨h3, h4, h5⟩ := h2.h w1 hR'.at_
      exact ⟨h3, h4, c', covH_rel (s := ⟨s.fr, hpf c, s.r, [], W, s.df⟩) hr hR' h1, Nat.le_trans hs h3.size, h5⟩
    | ret =>
      simp only [St.on_eq] at hK
      obtain ⟨c', h1, h2⟩ := hK
      obtain ⟨h3, h5⟩ := h2.h w1 hR'.at_
      exact ⟨h3, ⟨_, rfl⟩, c', covH_rel (s := ⟨s.fr, hpf c, s.r, [], W, s.df⟩) hr hR' h1, h5, Nat.le_trans hs h3.size⟩
    | exit id =>
      simp only [St.on_eq] at hK
      obtain ⟨c', h1, h2⟩ := hK
      obtain ⟨h3, h5⟩ := h2.h w1 hR'.at_
      exact ⟨h3, ⟨_, rfl⟩, c', covH_rel (s := ⟨s.fr, hpf c, s.r, [], W, s.df⟩) hr hR' h1, h5, Nat.le_trans hs h3.size⟩
    | goto l => exact hK.elim
    | panic ch => exact hK.elim
    | outgrown => exact hK.elim
  · rintro D xs W hD hS ⟨c, hr, hs, hf⟩ hd
    exact ⟨_, withD D hr, hdone D xs c W hD hS hf hd⟩
  · intro D c pre W hD hS hI hd
    obtain ⟨⟨e, he⟩, q, hRx, hix, hs⟩ := hI
    have hk := hstop D c e pre q W hD hS hix he hd
    cases c <;> simp only [exitOf] at he <;> try (cases he; done)
    · injection he with he; subst he; exact wpIn_exit ⟨_, withD D hRx, hk⟩
    · injection he with he; subst he; exact wpIn_ret ⟨_, withD D hRx, hk⟩
/-- the like where the frame that a round begins with is told by what its variables are. -/
theorem rangeVu (hcx : CxOk cx) {n : Nat} (h1 : 1 ≤ n) {s : St} {a : Act} {w : World} (hR : Rel w0 s a w) {g : Operand} {ps : Array Tmp} {x y : Code} {K : Exit → St → Prop} {gf : Nat} {lb : Array Value}
    (hg : ev s.fr g = .val (.func (.func gf) #[] lb)) (eg : Enters cx.P gf)
    {α : Type} {encs : α → List Value} {Kp : World → World → Prop} {S Sp : List α → Prop} {N Bx : Nat} {V : α → World → Prop} (hseq : SeqStopsV (n - 1) cx.P gf lb (fun x => (encs x).toArray) V Kp S Sp N Bx w0.B w) (hVo : ∀ z, OwnFrom w.heap.size (fun (_ : Unit) W => V z W)) (hBx : Bx < w.heap.size) (hBx0 : w0.B ≤ Bx) (hBxr : Bx ∉ s.r)
    (hKt : ∀ {A B C : World}, Kp A B → Kp B C → Kp A C) (hKb : ∀ (W : World) (l : Nat) (o o' : Obj), w.heap.size ≤ l → W.heap[l]? = some o → o.isCells = false → o.isWalk = false → Kp W (W.putObj l o'))
    (hps : ∀ x, (encs x).length = ps.size)
    {γ : Type} (hpf : γ → List LB) (Φ : List α → γ → World → Prop) (hΦ : ∀ c pre A B row, Φ pre c A → A.grownBy B row → RowB w.heap.size Bx A row → Φ pre c B) (c0 : γ) (hp0 : hpf c0 = s.hp) (hΦ0 : Φ [] c0 w)
    (Ix : Code → List α → γ → World → Prop) (hpx : Code → γ → List LB) (hIx : ∀ c q, OwnFrom w.heap.size (fun pre W => Ix c pre q W))
    (upd : α → List (Nat × SV)) (hpa : α → List LB) (Ψ : γ → List Nat → Prop)
    (hassign : ∀ l pre z c W, Φ pre c W → V z W → Below w0.B w0.W W → w.heap.size ≤ W.heap.size → pre.length < N → codeD (Fence.wide.inRound l) (n - 1 - 1) cx w0 x
      (fun e s' => e = .normal ∧ s'.on fun fr2 hp2 r2 L2 w2 df2 => ∃ bs, bs.length = (hpa z).length ∧ Ψ c bs ∧ Need (fr2 = setM (setP s.fr ps.toList (encs z)) (upd z) ∧ hp2 = hpf c ++ hpa z ∧ r2 = s.r ++ bs ∧ df2 = []) (EndI w0 hp2 r2 L2 w2 undef fun _ w1 => KeepsFrom w.heap.size W w1 ∧ Kp W w1 ∧ Φ pre c w1 ∧ V z w1)) ⟨setP s.fr ps.toList (encs z), hpf c, s.r, [], W, []⟩)
    (hbody : ∀ l pre x c bs W, bs.length = (hpa x).length → Ψ c bs → Φ pre c W → V x W → Below w0.B w0.W W → w.heap.size ≤ W.heap.size → pre.length < N → codeD (Fence.wide.inRound l) (n - 1 - 1) cx w0 y
      (fun e s' => match e with
        | .normal => s'.on fun fr2 hp2 r2 L2 w2 df2 => ∃ c', Need (CovH (hpf c') s.r ⟨fr2, hp2, r2, L2, w2, df2⟩) (EndI w0 hp2 r2 L2 w2 undef fun _ w1 => KeepsFrom w.heap.size W w1 ∧ Kp W w1 ∧ Φ (pre ++ [x]) c' w1)
        | .ret => s'.on fun fr2 hp2 r2 L2 w2 df2 => ∃ c', Need (CovH (hpx .ret c') s.r ⟨fr2, hp2, r2, L2, w2, df2⟩) (EndI w0 hp2 r2 L2 w2 undef fun _ w1 => KeepsFrom w.heap.size W w1 ∧ Ix .ret (pre ++ [x]) c' w1)
        | .exit id => s'.on fun fr2 hp2 r2 L2 w2 df2 => ∃ c', Need (CovH (hpx (.exit id) c') s.r ⟨fr2, hp2, r2, L2, w2, df2⟩) (EndI w0 hp2 r2 L2 w2 undef fun _ w1 => KeepsFrom w.heap.size W w1 ∧ Ix (.exit id) (pre ++ [x]) c' w1)
        | _ => False) ⟨setM (setP s.fr ps.toList (encs x)) (upd x), hpf c ++ hpa x, s.r ++ bs, [], W, []⟩)
    (hdone : ∀ D xs c W, w.heap.size ≤ D → S xs → Φ xs c W → W.heap[D]? = some (.deferred (some [])) → K .normal ⟨s.fr, hpf c, s.r, [], W, { target := .collected D, args := #[] } :: s.df⟩)
    (hstop : ∀ D c e pre q W, w.heap.size ≤ D → Sp pre → Ix c pre q W → exitOf c = some e → W.heap[D]? = some (.deferred (some [])) → K e ⟨s.fr, hpx c q, s.r, [], W, { target := .collected D, args := #[] } :: s.df⟩) :
    (Code.rangeFunc g ps x y).wpIn Fence.wide n cx.P (fun e a' w' => ∃ s', Rel w0 s' a' w' ∧ K e s') a w :=
  rangeV hcx h1 hR hg eg hseq hVo hBx hBx0 hBxr (fun h k => hKt h k) hKb hps hpf Φ hΦ c0 hp0 hΦ0 Ix hpx hIx (fun z => setM (setP s.fr ps.toList (encs z)) (upd z)) hpa Ψ hassign hbody hdone hstop
end
end Go.Proofs.YtjbhpfmnfdebkaaGreat.Eng

/-
  close.rounds: the rounds of a plus, one by one; its iterator's contract, by the engine.
-/
namespace Go.Proofs.YtjbhpfmnfdebkaaGreat
set_option linter.unusedVariables false
set_option linter.unusedSimpArgs false
set_option maxRecDepth 100000
open Go.RowKit Go.Proofs.YtjbhpfmnfdebkaaGreat.Eng Enc

namespace Cl
/-- the rounds, of at most so many, from a list and what was new in it. -/
def go (part : List Zn) (cz : Int) : Nat → List Zn → List Zn → List (List Zn × Int)
  | 0, all, _ => if all.length = 0 then [] else [([], 301)]
  | k + 1, all, last => if all.length = 0 then [] else (all, 0) :: (if (longer all last part cz).2.2 ≠ 0 then [([], (longer all last part cz).2.2)] else if (Cv.all_ (longer all last part cz).2.1 all).1 = true then [] else go part cz k (longer all last part cz).1 (longer all last part cz).2.1)
theorem go_succ (part : List Zn) (cz : Int) (k : Nat) (all last : List Zn) : go part cz (k + 1) all last = if all.length = 0 then [] else (all, 0) :: (if (longer all last part cz).2.2 ≠ 0 then [([], (longer all last part cz).2.2)] else if (Cv.all_ (longer all last part cz).2.1 all).1 = true then [] else go part cz k (longer all last part cz).1 (longer all last part cz).2.1) := rfl
theorem go_len (part : List Zn) (cz : Int) : ∀ (k : Nat) (all last : List Zn), (go part cz k all last).length ≤ k + 1
  | 0, all, last => by unfold go; split <;> simp
  | k + 1, all, last => by
    rw [go_succ]
    split
    · simp
    · simp only [List.length_cons]
      split
      · simp
      · split
        · simp
        · have := go_len part cz k (longer all last part cz).1 (longer all last part cz).2.1
          omega
def seq (old part : List Zn) (cz cr : Int) : List (List Zn × Int) :=
  if cz < (part.length : Int) then [([], 300)] else if (longer part old part cz).2.2 ≠ 0 then [([], (longer part old part cz).2.2)] else go part cz cr.toNat (longer part old part cz).1 (longer part old part cz).1
/-- what is yielded: where a list lies, the list, an error. -/
structure RV where
  a : Option Addr
  c : Nat
  l : List Zn
  e : Int
def encV (x : RV) : List Value := [.slice x.a x.l.length x.c, .int .i64 x.e]
def rv (x : RV) : List Zn × Int := (x.l, x.e)
def V (n₁ : Nat) (x : RV) (W : World) : Prop := Own TZ n₁ W (.slice x.a x.l.length x.c) x.l
/-- what a round of the caller's keeps: all below, all that stood at the start but some blocks, and rows of zones. -/
def KpR (n₀ n₁ : Nat) (R : List Nat) (W W' : World) : Prop := Below n₀ W W' ∧ (∀ k, k < n₁ → k ∉ R → W'.heap[k]? = W.heap[k]?) ∧ ∀ (k : Nat) (cs : Array Value) (f : Nat × Nat), W.heap[k]? = some (.cells cs TZ f) → W'.heap[k]? = W.heap[k]?
theorem V.kp {n₀ n₁ : Nat} {R : List Nat} {x : RV} {W X : World} (h : V n₁ x W) (k : KpR n₀ n₁ R W X) : V n₁ x X := by
  obtain ⟨hl, h0 | ⟨g, cap, cur, e1, e2, e3, e4⟩⟩ := h
  · exact ⟨hl, .inl h0⟩
  · exact ⟨hl, .inr ⟨g, cap, cur, e1, e2, (k.2.2 g _ _ e3).trans e3, e4⟩⟩
abbrev TZs : TypeId := 22
abbrev TCaps : TypeId := 70
/-- where the iterator stands. -/
structure Rd (n₀ n₁ Bo Bp Bc : Nat) (vo vp : Value) (cz cr : Int) (W X : World) : Prop where
  below : Below n₀ W X
  size : n₁ ≤ X.heap.size
  bo : X.heap[Bo]? = some (.cells #[vo] TZs (0, 0))
  bp : X.heap[Bp]? = some (.cells #[vp] TZs (0, 0))
  bc : X.heap[Bc]? = some (.cells #[.int .i64 cz, .int .i64 cr] TCaps (0, 0))
theorem Rd.go {n₀ n₁ Bo Bp Bc : Nat} {vo vp : Value} {cz cr : Int} {W X Y : World} (h : Rd n₀ n₁ Bo Bp Bc vo vp cz cr W X) (hn : n₀ ≤ n₁) (hB : Below X.heap.size X Y) : Rd n₀ n₁ Bo Bp Bc vo vp cz cr W Y :=
  ⟨h.below.trans (hB.mono (Nat.le_trans hn h.size)), Nat.le_trans h.size hB.size, (hB.block _ (Array.getElem?_eq_some_iff.1 h.bo).1).trans h.bo, (hB.block _ (Array.getElem?_eq_some_iff.1 h.bp).1).trans h.bp, (hB.block _ (Array.getElem?_eq_some_iff.1 h.bc).1).trans h.bc⟩
theorem Rd.kp {n₀ n₁ Bo Bp Bc : Nat} {vo vp : Value} {cz cr : Int} {R : List Nat} {W X Y : World} (h : Rd n₀ n₁ Bo Bp Bc vo vp cz cr W X) (h1 : Bo < n₁ ∧ Bo ∉ R) (h2 : Bp < n₁ ∧ Bp ∉ R) (h3 : Bc < n₁ ∧ Bc ∉ R) (k : KpR n₀ n₁ R X Y) : Rd n₀ n₁ Bo Bp Bc vo vp cz cr W Y :=
  ⟨h.below.trans k.1, Nat.le_trans h.size k.1.size, (k.2.1 _ h1.1 h1.2).trans h.bo, (k.2.1 _ h2.1 h2.2).trans h.bp, (k.2.1 _ h3.1 h3.2).trans h.bc⟩
end Cl
theorem Cl.Rd.cell {n₀ n₁ Bo Bp Bc : Nat} {vo vp : Value} {cz cr : Int} {W X : World} (h : Cl.Rd n₀ n₁ Bo Bp Bc vo vp cz cr W X) : X.cell? ⟨Bo, 0, none⟩ = some vo ∧ X.cell? ⟨Bp, 0, none⟩ = some vp ∧ X.cell? ((⟨Bc, 0, none⟩ : Addr).add 0) = some (.int .i64 cz) ∧ X.cell? ((⟨Bc, 0, none⟩ : Addr).add 1) = some (.int .i64 cr) := by
  refine ⟨?_, ?_, ?_, ?_⟩
  · simp [World.cell?, h.bo]
  · simp [World.cell?, h.bp]
  · simp [World.cell?, Addr.add, h.bc]
  · simp [World.cell?, Addr.add, h.bc]
theorem crounds_at (ao ap : Option Addr) (lo lp co cp : Nat) (cz cr : Int) (w : World) :
    Calls Tryz.prog 112 #[.slice ao lo co, .slice ap lp cp, .agg #[.int .i64 cz, .int .i64 cr]] w fun e w' => e = .returned (.func (.func 185) #[] #[.pointer (some ⟨w.heap.size + 1, 0, none⟩), .pointer (some ⟨w.heap.size + 2, 0, none⟩), .pointer (some ⟨w.heap.size, 0, none⟩)]) ∧ w' = ((w.alloc (.cells #[.slice ao lo co] Cl.TZs)).alloc (.cells #[.slice ap lp cp] Cl.TZs)).alloc (.cells #[.int .i64 cz, .int .i64 cr] Cl.TCaps) := by
  go_enter Tryz.func112, Tryz.ntmps112
  go_wp2
  go_ret
  exact ⟨by simp, rfl⟩
set_option maxHeartbeats 4000000 in
open Cl in
theorem rounds_stops (n Bo Bp Bc n₀ n₁ : Nat) (R : List Nat) (old part : List Zn) (ao ap : Option Addr) (co cp : Nat) (cz cr : Int) (hcz : 1 ≤ cz ∧ cz ≤ 4096) (hcr : 1 ≤ cr ∧ cr ≤ 4096) (w : World) (hn : n₀ ≤ n₁) (hn1 : n₁ ≤ w.heap.size)
    (hRo : Bo < n₁ ∧ Bo ∉ R) (hRp : Bp < n₁ ∧ Bp ∉ R) (hRc : Bc < n₁ ∧ Bc ∉ R)
    (ho : w.heap[Bo]? = some (.cells #[.slice ao old.length co] TZs (0, 0))) (hp : w.heap[Bp]? = some (.cells #[.slice ap part.length cp] TZs (0, 0))) (hc : w.heap[Bc]? = some (.cells #[.int .i64 cz, .int .i64 cr] TCaps (0, 0)))
    (hO : Sl n₀ w (.slice ao old.length co) old) (hP : Sl n₀ w (.slice ap part.length cp) part) :
    SeqStopsV n Tryz.prog 185 #[.pointer (some ⟨Bp, 0, none⟩), .pointer (some ⟨Bc, 0, none⟩), .pointer (some ⟨Bo, 0, none⟩)] (fun x => (encV x).toArray) (V n₁) (KpR n₀ n₁ R) (fun xs => xs.map rv = seq old part cz cr) (fun pre => pre.map rv <+: seq old part cz cr) 4100 Bc n₀ w := fun l J Jx W hW hJ hJx hY h0 => by
  have hsz := hW.size
  have hn0 : n₀ ≤ W.heap.size := by omega
  refine (fun_in n n₀ W hn0 Tryz.func185 (args := [.val (.func (.yield l) #[] #[]), .val (.pointer (some ⟨Bp, 0, none⟩)), .val (.pointer (some ⟨Bc, 0, none⟩)), .val (.pointer (some ⟨Bo, 0, none⟩))]) (R := fun _ W' => (∃ xs : List RV, xs.map rv = seq old part cz cr ∧ J xs W') ∨ (∃ pre : List RV, pre.map rv <+: seq old part cz cr ∧ Jx pre W')) rfl rfl ?_).mono ?_
  case refine_2 =>
    rintro e W' ⟨v, rfl, _, h⟩
    exact ⟨⟨_, rfl⟩, h⟩
  have hOW := hO.below (hW.mono (by omega))
  have hPW := hP.below (hW.mono (by omega))
  have rd : Rd n₀ n₁ Bo Bp Bc (.slice ao old.length co) (.slice ap part.length cp) cz cr W W := ⟨Below.refl _ _, by omega, (hW.block _ (by omega)).trans ho, (hW.block _ (by omega)).trans hp, (hW.block _ (by omega)).trans hc⟩
  have slO : ∀ X, Below n₀ W X → n₀ ≤ X.heap.size → Sl X.heap.size X (.slice ao old.length co) old := fun X hX hs => hOW.go hX hs
  have slP : ∀ X, Below n₀ W X → n₀ ≤ X.heap.size → Sl X.heap.size X (.slice ap part.length cp) part := fun X hX hs => hPW.go hX hs
  have jg : ∀ {pre A B}, J pre A → Below A.heap.size A B → J pre B := fun {pre A B} h hB => hJ _ _ _ h (below_grown hB _)
  have atB : ∀ {hp : List LB} {X Y : World}, At ⟨W, n₀, hn0⟩ hp [] [] X Y → Below X.heap.size X Y := fun {hp X Y} h => at_below h (by simp)
  unfold seq
  obtain ⟨c1, c2, c3, c4⟩ := rd.cell
  refine LoadI.mk ⟨_, ⟨c2, by simp⟩, ?_⟩
  refine LoadI.mk ⟨_, ⟨c3, by simp⟩, ?_⟩
  refine Branch.mk (fun z1 => ?_) (fun z1 => ?_)
  · rw [if_pos (of_decide_eq_true z1)]
    refine ⟨fun w5 h5 => ?_⟩
    have hB5 := atB h5
    refine (hY [] ⟨none, 0, [], 300⟩ w5 (jg h0 hB5) Own.nil (by simp)).mono ?_
    rintro e v5 (⟨rfl, hj6, hk5⟩ | ⟨rfl, hx5, hk5⟩)
    · refine ⟨_, rfl, (rd.go hn hB5).below.trans hk5.1, ?_⟩
      exact EndI.mk fun w6 h6 => .inl ⟨[⟨none, 0, [], 300⟩], rfl, jg hj6 (atB h6)⟩
    · refine ⟨_, rfl, (rd.go hn hB5).below.trans hk5, ?_⟩
      exact EndI.mk fun w6 h6 => .inr ⟨[⟨none, 0, [], 300⟩], List.prefix_refl _, hJx _ _ _ hx5 (at_grown h6 (by simp) _)⟩
  rw [if_neg (of_decide_eq_false z1)]
  refine LoadI.mk ⟨_, ⟨c2, by simp⟩, ?_⟩
  refine LoadI.mk ⟨_, ⟨c1, by simp⟩, ?_⟩
  refine LoadI.mk ⟨_, ⟨c2, by simp⟩, ?_⟩
  refine LoadI.mk ⟨_, ⟨c3, by simp⟩, ?_⟩
  apply CallI.use
  focus (exact fun w3 h3 => clonger_any part old part cz ap ao ap cp co cp w3 (slP w3 (rd.go hn (atB h3)).below (Nat.le_trans hn (rd.go hn (atB h3)).size)) (slO w3 (rd.go hn (atB h3)).below (Nat.le_trans hn (rd.go hn (atB h3)).size)) (slP w3 (rd.go hn (atB h3)).below (Nat.le_trans hn (rd.go hn (atB h3)).size)))
  rintro v w3 v3 h3 hB3 ⟨a1, k1, a2, k2, rfl, hO1, hO2⟩
  have rd3 := (rd.go hn (atB h3)).go hn hB3
  have j3 := jg (jg h0 (atB h3)) hB3
  have hs3 := (rd.go hn (atB h3)).size
  generalize longer part old part cz = Y at hO1 hO2 ⊢
  obtain ⟨A, Mo, E⟩ := Y
  simp only at hO1 hO2 ⊢
  refine Branch.mk (fun z2 => ?_) (fun z2 => ?_)
  · rw [if_pos (of_decide_eq_true z2)]
    refine ⟨fun w5 h5 => ?_⟩
    have hB5 := atB h5
    refine (hY [] ⟨none, 0, [], E⟩ w5 (jg j3 hB5) Own.nil (by simp)).mono ?_
    rintro e v5 (⟨rfl, hj6, hk5⟩ | ⟨rfl, hx5, hk5⟩)
    · refine ⟨_, rfl, (rd3.go hn hB5).below.trans hk5.1, ?_⟩
      exact EndI.mk fun w6 h6 => .inl ⟨[⟨none, 0, [], E⟩], rfl, jg hj6 (atB h6)⟩
    · refine ⟨_, rfl, (rd3.go hn hB5).below.trans hk5, ?_⟩
      exact EndI.mk fun w6 h6 => .inr ⟨[⟨none, 0, [], E⟩], List.prefix_refl _, hJx _ _ _ hx5 (at_grown h6 (by simp) _)⟩
  rw [if_neg (of_decide_eq_false z2)]
  obtain ⟨K, hK⟩ : ∃ K : Nat, cr = K := ⟨cr.toNat, by omega⟩
  subst hK
  rw [Int.toNat_natCast]
  refine LoopI.invC (α := (Nat × RV × RV × List RV) × World) (fun y => [(5, .val (.slice y.1.2.1.a y.1.2.1.l.length y.1.2.1.c)), (8, .val (.slice y.1.2.2.1.a y.1.2.2.1.l.length y.1.2.2.1.c)), (9, .val (.int .i64 y.1.1))]) (fun y => y.2)
    (fun y => y.1.1 ≤ K ∧ Rd n₀ n₁ Bo Bp Bc (.slice ao old.length co) (.slice ap part.length cp) cz K W y.2 ∧ V n₁ y.1.2.1 y.2 ∧ V n₁ y.1.2.2.1 y.2 ∧ J y.1.2.2.2 y.2 ∧ y.1.2.2.2.length = y.1.1 ∧ y.1.2.2.2.map rv ++ go part cz (K - y.1.1) y.1.2.1.l y.1.2.2.1.l = go part cz K A A) (fun y => K + 1 - y.1.1) ?_ ?_
  · intro w5 h5
    have hV := (hO1.lower hs3).below (atB h5)
    exact ⟨((0, ⟨a1, k1, A, 0⟩, ⟨a1, k1, A, 0⟩, []), w5), Cov.mk (by repeat' (first | exact trivial | refine And.intro rfl ?_)) rfl rfl rfl rfl rfl, rfl, Nat.zero_le _, rd3.go hn (atB h5), hV, hV, jg j3 (atB h5), rfl, rfl⟩
  rintro ⟨⟨m, all, last, pre⟩, U⟩ ⟨hm, rdU, hVa, hVl, hj, hlen, hseq⟩
  simp only at hm rdU hVa hVl hj hlen hseq
  obtain ⟨d1, d2, d3, d4⟩ := rdU.cell
  have hglen := go_len part cz K A A
  refine Branch.mk (fun z3 => ?_) (fun z3 => ?_)
  · have hpos : all.l.length ≠ 0 := by have := of_decide_eq_true z3; simp only at this; omega
    refine LoadI.mk ⟨_, ⟨d4, by simp⟩, ?_⟩
    refine Branch.mk (fun z4 => ?_) (fun z4 => ?_)
    · have hmK : m = K := by have := of_decide_eq_true z4; simp only at this; omega
      subst hmK
      have hgo : go part cz (m - m) all.l last.l = [([], 301)] := by rw [Nat.sub_self]; unfold go; rw [if_neg hpos]
      rw [hgo] at hseq
      refine ⟨fun w5 h5 => ?_⟩
      have hB5 := atB h5
      refine (hY pre ⟨none, 0, [], 301⟩ w5 (jg hj hB5) Own.nil (by omega)).mono ?_
      rintro e v5 (⟨rfl, hj6, hk5⟩ | ⟨rfl, hx5, hk5⟩)
      · refine ⟨_, rfl, (rdU.go hn hB5).below.trans hk5.1, ?_⟩
        exact EndI.mk fun w6 h6 => .inl ⟨pre ++ [⟨none, 0, [], 301⟩], by rw [List.map_append]; exact hseq, jg hj6 (atB h6)⟩
      · refine ⟨_, rfl, (rdU.go hn hB5).below.trans hk5, ?_⟩
        exact EndI.mk fun w6 h6 => .inr ⟨pre ++ [⟨none, 0, [], 301⟩], by rw [List.map_append]; exact ⟨[], by rw [List.append_nil]; exact hseq⟩, hJx _ _ _ hx5 (at_grown h6 (by simp) _)⟩
    have hlt : m < K := by have := of_decide_eq_false z4; simp only at this; omega
    obtain ⟨d, hd⟩ : ∃ d, K - m = d + 1 := ⟨K - m - 1, by omega⟩
    rw [hd, go_succ, if_neg hpos] at hseq
    refine ⟨fun w5 h5 => ?_⟩
    have hB5 := atB h5
    refine (hY pre ⟨all.a, all.c, all.l, 0⟩ w5 (jg hj hB5) (Own.below hVa hB5) (by omega)).mono ?_
    have hmap : (pre ++ [(⟨all.a, all.c, all.l, 0⟩ : RV)]).map rv = pre.map rv ++ [(all.l, 0)] := by rw [List.map_append]; rfl
    rintro e v5 (⟨rfl, hj6, hk5⟩ | ⟨rfl, hx5, hk5⟩)
    case inr =>
      refine ⟨_, rfl, (rdU.go hn hB5).below.trans hk5, ?_⟩
      refine Branch.yes rfl ?_
      exact EndI.mk fun w6 h6 => .inr ⟨pre ++ [⟨all.a, all.c, all.l, 0⟩], by rw [hmap]; exact ⟨_, by rw [List.append_assoc]; exact hseq⟩, hJx _ _ _ hx5 (at_grown h6 (by simp) _)⟩
    refine ⟨_, rfl, (rdU.go hn hB5).below.trans hk5.1, ?_⟩
    refine Branch.no rfl ?_
    have rd5 := (rdU.go hn hB5).kp hRo hRp hRc hk5
    have hVa5 : V n₁ all v5 := V.kp (Own.below hVa hB5) hk5
    have hVl5 : V n₁ last v5 := V.kp (Own.below hVl hB5) hk5
    obtain ⟨e1, e2, e3, e4⟩ := rd5.cell
    refine LoadI.mk ⟨_, ⟨e2, by simp⟩, ?_⟩
    refine LoadI.mk ⟨_, ⟨e3, by simp⟩, ?_⟩
    apply CallI.use
    focus (exact fun w7 h7 => clonger_any all.l last.l part cz all.a last.a ap all.c last.c cp w7 (Sl.go (Own.sl hVa5) (atB h7) (atB h7).size) (Sl.go (Own.sl hVl5) (atB h7) (atB h7).size) (slP w7 (rd5.go hn (atB h7)).below (Nat.le_trans hn (rd5.go hn (atB h7)).size)))
    rintro v w7 v7 h7 hB7 ⟨a3, k3, a4, k4, rfl, hO3, hO4⟩
    have rd7 := (rd5.go hn (atB h7)).go hn hB7
    have j7 := jg (jg hj6 (atB h7)) hB7
    have hs7 := (rd5.go hn (atB h7)).size
    have hVa7 : V n₁ all v7 := Own.below (Own.below hVa5 (atB h7)) hB7
    generalize longer all.l last.l part cz = Y2 at hO3 hO4 hseq ⊢
    obtain ⟨A2, M2, E2⟩ := Y2
    simp only at hO3 hO4 hseq ⊢
    refine Branch.mk (fun z5 => ?_) (fun z5 => ?_)
    · rw [if_pos (of_decide_eq_true z5)] at hseq
      refine ⟨fun w8 h8 => ?_⟩
      have hB8 := atB h8
      have hmap2 : (pre ++ [(⟨all.a, all.c, all.l, 0⟩ : RV)] ++ [(⟨none, 0, [], E2⟩ : RV)]).map rv = pre.map rv ++ [(all.l, 0), ([], E2)] := by rw [List.map_append, hmap, List.append_assoc]; rfl
      refine (hY (pre ++ [⟨all.a, all.c, all.l, 0⟩]) ⟨none, 0, [], E2⟩ w8 (jg j7 hB8) Own.nil (by simp; omega)).mono ?_
      rintro e v8 (⟨rfl, hj9, hk8⟩ | ⟨rfl, hx8, hk8⟩)
      · refine ⟨_, rfl, (rd7.go hn hB8).below.trans hk8.1, ?_⟩
        exact EndI.mk fun w6 h6 => .inl ⟨_, by rw [hmap2]; exact hseq, jg hj9 (atB h6)⟩
      · refine ⟨_, rfl, (rd7.go hn hB8).below.trans hk8, ?_⟩
        exact EndI.mk fun w6 h6 => .inr ⟨_, by rw [hmap2]; exact ⟨[], by rw [List.append_nil]; exact hseq⟩, hJx _ _ _ hx8 (at_grown h6 (by simp) _)⟩
    rw [if_neg (of_decide_eq_false z5)] at hseq
    apply CallI.use1
    focus (exact fun w8 h8 => zsin_any M2 all.l a4 all.a k4 all.c w8 (Sl.go (Own.sl hO4) (atB h8) (atB h8).size) (Sl.go (Own.sl hVa7) (atB h8) (atB h8).size))
    intro w8 v8 h8 hB8
    have hB78 : Below v7.heap.size v7 v8 := (atB h8).trans (hB8.mono (atB h8).size)
    refine Branch.mk (fun z6 => ?_) (fun z6 => ?_)
    · rw [if_pos z6] at hseq
      exact EndI.mk fun w6 h6 => .inl ⟨pre ++ [⟨all.a, all.c, all.l, 0⟩], by rw [hmap]; exact hseq, jg (jg j7 hB78) (atB h6)⟩
    rw [if_neg (by rw [z6]; decide)] at hseq
    refine Need.mk (by simp only [inK]; omega) (EndI.mk fun w9 h9 => ⟨((m + 1, ⟨a3, k3, A2, 0⟩, ⟨a4, k4, M2, 0⟩, pre ++ [⟨all.a, all.c, all.l, 0⟩]), w9), Cov.mk (by repeat' (first | exact trivial | refine And.intro rfl ?_)) rfl rfl rfl rfl rfl, rfl, ⟨hlt, ?_, ?_, ?_, ?_, ?_, ?_⟩, by simp only; omega⟩)
    · exact (rd7.go hn hB78).go hn (atB h9)
    · exact ((hO3.lower hs7).below hB78).below (atB h9)
    · exact ((hO4.lower hs7).below hB78).below (atB h9)
    · exact jg (jg j7 hB78) (atB h9)
    · simp [hlen]
    · rw [hmap, show K - (m + 1) = d by omega, List.append_assoc]
      exact hseq
  · have h0l : all.l.length = 0 := by have := of_decide_eq_false z3; simp only at this; omega
    have hgo : go part cz (K - m) all.l last.l = [] := by unfold go; split <;> rw [if_pos h0l]
    rw [hgo, List.append_nil] at hseq
    exact EndI.mk fun w6 h6 => .inl ⟨pre, hseq, jg hj (atB h6)⟩
end Go.Proofs.YtjbhpfmnfdebkaaGreat

/-
  close.Close and close.Rounds, by the engine.
-/
namespace Go.Proofs.YtjbhpfmnfdebkaaGreat
set_option linter.unusedVariables false
set_option linter.unusedSimpArgs false
set_option maxRecDepth 100000
open Go.RowKit Go.Shelf Go.Proofs.YtjbhpfmnfdebkaaGreat.Eng Enc

namespace Cl
/-- the list of the last round. -/
def lastS (s : List (List Zn × Int)) : List Zn := ((s.getLast?).map (·.1)).getD []
def close (old part : List Zn) (cz cr : Int) : List Zn × Int × Int :=
  if chk old part cz cr ≠ 0 then ([], 0, chk old part cz cr) else (match (seq old part cz cr).find? (fun x => decide (x.2 ≠ 0)) with
    | some x => ([], 0, x.2)
    | none => ((Cv.prune (lastS (seq old part cz cr))).1, (seq old part cz cr).length, (Cv.prune (lastS (seq old part cz cr))).2))
def rounds (old part : List Zn) (cz cr : Int) : List (List Zn) × Int :=
  if chk old part cz cr ≠ 0 then ([], chk old part cz cr) else (match (seq old part cz cr).find? (fun x => decide (x.2 ≠ 0)) with
    | some x => ([], x.2)
    | none => ((seq old part cz cr).map (fun x => (Cv.prune x.1).1), 0))
theorem chk_zero {old part : List Zn} {cz cr : Int} (h : chk old part cz cr = 0) : (1 ≤ cz ∧ cz ≤ 4096) ∧ (1 ≤ cr ∧ cr ≤ 4096) := by
  unfold chk at h
  split at h
  · cases h
  · rename_i h1
    simp only [not_or, Classical.not_not] at h1
    exact h1
theorem V.own {n₁ : Nat} (z : RV) : OwnFrom n₁ (fun (_ : Unit) W => V n₁ z W) := fun _ A C row h hg hr => by
  obtain ⟨hl, h0 | ⟨g, cap, cur, e1, e2, e3, e4⟩⟩ := id h
  · exact ⟨hl, .inl h0⟩
  · refine ⟨hl, .inr ⟨g, cap, cur, e1, e2, (hg.block g (Array.getElem?_eq_some_iff.1 e3).1 (fun e => ?_)).trans e3, e4⟩⟩
    obtain ⟨_, o, ho, hc⟩ := hr g e.symm
    rw [e3] at ho; injection ho with ho; subst ho; cases hc
theorem lastS_app (s : List (List Zn × Int)) (x : List Zn × Int) : lastS (s ++ [x]) = x.1 := by unfold lastS; simp
theorem own_turn {α : Type} [Enc α] {e : TypeId} {n₁ B Bx : Nat} {A C : World} {row : Option Nat} {v : Value} {l : List α} (h : Own e n₁ A v l) (hg : A.grownBy C row) (hr : RowB B Bx A row) (hx : Bx < n₁) : Own e n₁ C v l := by
  obtain ⟨hl, h0 | ⟨g, cap, cur, e1, e2, e3, e4⟩⟩ := id h
  · exact ⟨hl, .inl h0⟩
  · refine ⟨hl, .inr ⟨g, cap, cur, e1, e2, (hg.block g (Array.getElem?_eq_some_iff.1 e3).1 (fun e => ?_)).trans e3, e4⟩⟩
    rcases hr g e.symm with h | ⟨_, o, ho, hc⟩
    · omega
    · rw [e3] at ho; injection ho with ho; subst ho; cases hc
end Cl
set_option maxHeartbeats 4000000 in
open Cl in
theorem cclose_any (old part : List Zn) (cz cr : Int) (ao ap : Option Addr) (co cp : Nat) (w : World) (hO : Sl w.heap.size w (.slice ao old.length co) old) (hP : Sl w.heap.size w (.slice ap part.length cp) part) :
    Calls Tryz.prog 46 #[.slice ao old.length co, .slice ap part.length cp, .agg #[.int .i64 cz, .int .i64 cr]] w (Ret w fun v w' => ∃ a' c', v = .tuple #[.slice a' (Cl.close old part cz cr).1.length c', .int .i64 (Cl.close old part cz cr).2.1, .int .i64 (Cl.close old part cz cr).2.2] ∧ Own TZ w.heap.size w' (.slice a' (Cl.close old part cz cr).1.length c') (Cl.close old part cz cr).1) := by
  refine fun_at 9 w.heap.size w (Nat.le_refl _) Tryz.func46 (args := [.val (.slice ao old.length co), .val (.slice ap part.length cp), .agg [.val (.int .i64 cz), .val (.int .i64 cr)]]) rfl rfl ?_
  refine NewI.mk fun b5 hb5 => ?_
  refine NewI.mk fun b6 hb6 => ?_
  refine NewI.mk fun b7 hb7 => ?_
  refine NewI.mk fun b8 hb8 => ?_
  have e5 : w.heap.size ≤ b5 := hb5
  have e6 : w.heap.size ≤ b6 := hb6
  have e7 : w.heap.size ≤ b7 := hb7
  have e8 : w.heap.size ≤ b8 := hb8
  apply CallI.use1
  focus (exact fun w3 h3 => cchecked_any old part cz cr ao ap co cp w3 (Sl.at h3 hO) (Sl.at h3 hP))
  intro w3 v3 h3 hB3
  unfold Cl.close
  refine Branch.mk (fun z1 => ?_) (fun z1 => ?_)
  · rw [if_pos (of_decide_eq_true z1)]
    exact EndI.mk fun w9 h9 => ⟨_, _, rfl, Own.nil⟩
  have h0 : chk old part cz cr = 0 := by simpa using z1
  obtain ⟨hcz, hcr⟩ := chk_zero h0
  rw [if_neg (by rw [h0]; simp), h0]
  have lb : ∀ b, b ∈ [b5, b6, b7, b8] → b < w3.heap.size := fun b hb => h3.lt b hb
  have hw3 : w.heap.size ≤ w3.heap.size := h3.below.size
  have hs3 := hB3.size
  apply CallI.mk
  intro w7 h7
  refine (crounds_at ao ap old.length part.length co cp cz cr w7).mono ?_
  rintro e w8 ⟨rfl, rfl⟩
  have q1 : Below w7.heap.size w7 (w7.alloc (.cells #[.slice ao old.length co] TZs)) := below_al (Below.refl _ _)
  have g1 := World.alloc_heap_new w7 (.cells #[.slice ao old.length co] TZs)
  have s1 : (w7.alloc (.cells #[.slice ao old.length co] TZs)).heap.size = w7.heap.size + 1 := by simp
  generalize w7.alloc (.cells #[.slice ao old.length co] TZs) = x1 at q1 g1 s1 ⊢
  have q2 : Below x1.heap.size x1 (x1.alloc (.cells #[.slice ap part.length cp] TZs)) := below_al (Below.refl _ _)
  have g2 := World.alloc_heap_new x1 (.cells #[.slice ap part.length cp] TZs)
  have s2 : (x1.alloc (.cells #[.slice ap part.length cp] TZs)).heap.size = x1.heap.size + 1 := by simp
  generalize x1.alloc (.cells #[.slice ap part.length cp] TZs) = x2 at q2 g2 s2 ⊢
  have q3 : Below x2.heap.size x2 (x2.alloc (.cells #[.int .i64 cz, .int .i64 cr] TCaps)) := below_al (Below.refl _ _)
  have g3 := World.alloc_heap_new x2 (.cells #[.int .i64 cz, .int .i64 cr] TCaps)
  have s3 : (x2.alloc (.cells #[.int .i64 cz, .int .i64 cr] TCaps)).heap.size = x2.heap.size + 1 := by simp
  generalize x2.alloc (.cells #[.int .i64 cz, .int .i64 cr] TCaps) = w8 at q3 g3 s3 ⊢
  have hB8 : Below w7.heap.size w7 w8 := (q1.trans (q2.mono (by omega))).trans (q3.mono (by omega))
  refine ⟨h7.keep hB8, _, rfl, ?_⟩
  have k1 : w8.heap[w7.heap.size]? = some (.cells #[.slice ao old.length co] TZs (0, 0)) := (q3.block _ (by omega)).trans ((q2.block _ (by omega)).trans g1)
  have k2 : w8.heap[w7.heap.size + 1]? = some (.cells #[.slice ap part.length cp] TZs (0, 0)) := (q3.block _ (by omega)).trans (by rw [← s1]; exact g2)
  have k3 : w8.heap[w7.heap.size + 2]? = some (.cells #[.int .i64 cz, .int .i64 cr] TCaps (0, 0)) := by rw [show w7.heap.size + 2 = x2.heap.size by omega]; exact g3
  have lb7 : ∀ b, b ∈ [b5, b6, b7, b8] → b < w7.heap.size := fun b hb => h7.lt b hb
  have hw7 : w.heap.size ≤ w7.heap.size := h7.below.size
  have hw8 : Below w.heap.size w w8 := h7.below.trans (hB8.mono hw7)
  have s8 : w8.heap.size = w7.heap.size + 3 := by omega
  generalize w7.heap.size = B0 at k1 k2 k3 lb7 hw7 s8 ⊢
  refine RawI.mk fun ac w10 hR => ?_
  have h10 := hR.at_
  have hB10 : Below w8.heap.size w8 w10 := at_below h10 (by simp)
  have hsz10 : w8.heap.size ≤ w10.heap.size := hB10.size
  have hw10 : Below w.heap.size w w10 := hw8.trans (hB10.mono (by omega))
  have nR : ∀ q, B0 ≤ q → q ∉ [b5, b6, b7, b8] := fun q hq hm => by have := lb7 q hm; omega
  have hseq := rounds_stops 8 B0 (B0 + 1) (B0 + 2) w.heap.size w10.heap.size [b5, b6, b7, b8] old part ao ap co cp cz cr hcz hcr w10 (by omega) (Nat.le_refl _) ⟨by omega, nR _ (by omega)⟩ ⟨by omega, nR _ (by omega)⟩ ⟨by omega, nR _ (by omega)⟩ ((hB10.block _ (by omega)).trans k1) ((hB10.block _ (by omega)).trans k2) ((hB10.block _ (by omega)).trans k3) (hO.below hw10) (hP.below hw10)
  refine rangeVu (α := RV) (encs := encV) cxOk (by decide) hR rfl Tryz.call185 hseq (fun z => V.own z) (by omega) (by show w.heap.size ≤ B0 + 2; omega) (nR _ (by omega))
    ?kt ?kb (fun x => rfl)
    (γ := Value × Int) (fun c => [⟨[.val (.int .i64 cz), .val (.int .i64 cr)], TCaps⟩, ⟨[.val c.1], TZs⟩, ⟨[.val (.int .i64 c.2)], 3⟩, ⟨[.val (.int .i64 0)], 28⟩])
    (fun (pre : List RV) (c : Value × Int) W => (∀ x : RV, x ∈ pre → x.e = 0) ∧ c.2 = pre.length ∧ Own TZ w10.heap.size W c.1 (lastS (pre.map rv))) ?phi (.slice none 0 0, 0) rfl ⟨by simp, rfl, Own.nil⟩
    (fun (c : Code) (pre : List RV) (q : Value × Int) (W : World) => c = .ret ∧ ∃ (pre0 : List RV) (x : RV), pre = pre0 ++ [x] ∧ (∀ y : RV, y ∈ pre0 → y.e = 0) ∧ x.e ≠ 0 ∧ q.2 = x.e)
    (fun _ q => [⟨[.val (.int .i64 cz), .val (.int .i64 cr)], TCaps⟩, ⟨[.val (.slice none 0 0)], TZs⟩, ⟨[.val (.int .i64 0)], 3⟩, ⟨[.val (.int .i64 q.2)], 28⟩])
    (fun c q pre A B row h hg hr => h) (fun z => [(9, .val (.slice z.a z.l.length z.c)), (10, .val (.int .i64 z.e))]) (fun z => []) (fun c bs => True) ?asg ?body ?done ?stop
  case kt =>
    exact fun h k => ⟨h.1.trans k.1, fun q hq hm => (k.2.1 q hq hm).trans (h.2.1 q hq hm), fun q cs f hq => (k.2.2 q cs f ((h.2.2 q cs f hq).trans hq)).trans (h.2.2 q cs f hq)⟩
  case kb =>
    intro W l o o' hl ho h1 h2
    refine ⟨⟨rfl, rfl, rfl, by simp, fun k hk => World.putObj_heap_other (by omega)⟩, fun q hq _ => World.putObj_heap_other (by omega), fun q cs f hq => World.putObj_heap_other (fun e => ?_)⟩
    subst e
    rw [ho] at hq; injection hq with hq; subst hq; cases h1
  case phi =>
    rintro c pre A C row ⟨hz, hn, hOw⟩ hg hr
    exact ⟨hz, hn, own_turn hOw hg hr (by omega)⟩
  case asg =>
    intro l pre z c W hΦ hV hBW hsW hN
    refine ⟨rfl, [], rfl, trivial, Need.mk ⟨rfl, rfl, (List.append_nil _).symm, rfl⟩ (EndI.mk fun w9 h9 => ?_)⟩
    have hg := at_below h9 (by simp)
    exact ⟨below_keepsFrom hg _, ⟨hg.mono (by omega), fun q hq _ => hg.block q (by omega), fun q cs f hq => hg.block q (Array.getElem?_eq_some_iff.1 hq).1⟩, ⟨hΦ.1, hΦ.2.1, hΦ.2.2.below hg⟩, Own.below hV hg⟩
  case body =>
    intro l pre x c bs W hbs hψ hΦ hV hBW hsW hN
    obtain rfl := List.eq_nil_of_length_eq_zero hbs
    obtain ⟨hz, hn, hOw⟩ := hΦ
    refine Branch.mk (fun z3 => ?_) (fun z3 => ?_)
    · have hx : x.e ≠ 0 := by simpa using z3
      refine ⟨(c.1, x.e), Need.mk (CovH.mk rfl rfl rfl) (EndI.mk fun w9 h9 => ?_)⟩
      refine ⟨⟨h9.size, fun k o hk ho hcl => (h9.step k (Array.getElem?_eq_some_iff.1 ho).1 (fun hm => ?_)).trans ho⟩, rfl, pre, x, rfl, hz, hx, rfl⟩
      have m6 := lb7 b6 (by simp); have m7 := lb7 b7 (by simp); have m8 := lb7 b8 (by simp)
      simp at hm
      omega
    · have hx : x.e = 0 := by simpa using z3
      refine DrawI.wr (.tk 0 (.two 1 (.tk 2 (.ev 3 (.ev 4 .done))) 3 (.ev 1 (.tk 2 (.ev 4 .done))))) [1, 2] [] (by kernel_rfl) rfl (by simp) fun w11 h11 => ?_
      have hn1 : inK .i64 (c.2 + 1) := by rw [hn]; simp only [inK]; omega
      have fin : ∀ w9, Below w.heap.size w w9 → W.heap.size ≤ w9.heap.size → (∀ k, k < W.heap.size → k ∉ [b6, b7] → w9.heap[k]? = W.heap[k]?) →
          KeepsFrom w10.heap.size W w9 ∧ KpR w.heap.size w10.heap.size [b5, b6, b7, b8] W w9 ∧ (∀ y : RV, y ∈ pre ++ [x] → y.e = 0) ∧ c.2 + 1 = ((pre ++ [x]).length : Int) ∧ Own TZ w10.heap.size w9 (.slice x.a x.l.length x.c) (lastS ((pre ++ [x]).map rv)) := fun w9 h1 h2 h3 => by
        have m6 := lb7 b6 (by simp); have m7 := lb7 b7 (by simp)
        have t6 : ∃ cs, W.heap[b6]? = some (.cells cs TZs (0, 0)) := ⟨_, (h11.step b6 (by omega) (by simp)).symm.trans (h11.blk 1 b6 _ rfl rfl)⟩
        have t7 : ∃ cs, W.heap[b7]? = some (.cells cs 3 (0, 0)) := ⟨_, (h11.step b7 (by omega) (by simp)).symm.trans (h11.blk 2 b7 _ rfl rfl)⟩
        have big : ∀ q, w10.heap.size ≤ q → q ∉ [b6, b7] := fun q hq hm => by simp at hm; omega
        refine ⟨⟨h2, fun k o hk ho hcl => (h3 k (Array.getElem?_eq_some_iff.1 ho).1 (big k hk)).trans ho⟩, ⟨below_between (X := w) hBW h1 h2, fun q hq hm => h3 q (by omega) (fun hm2 => hm (by simp at hm2 ⊢; omega)), fun q cs f hq => h3 q (Array.getElem?_eq_some_iff.1 hq).1 (fun hm => ?_)⟩, fun y hy => ?_, by simp [hn], ?_⟩
        · obtain ⟨_, t6⟩ := t6
          obtain ⟨_, t7⟩ := t7
          simp at hm
          rcases hm with rfl | rfl
          · rw [t6] at hq; injection hq with hq; injection hq with _ hq; exact absurd hq (by decide)
          · rw [t7] at hq; injection hq with hq; injection hq with _ hq; exact absurd hq (by decide)
        · rcases List.mem_append.1 hy with hy | hy
          · exact hz y hy
          · rw [List.mem_singleton.1 hy]; exact hx
        · have e1 : lastS ((pre ++ [x]).map rv) = x.l := by rw [List.map_append]; exact lastS_app _ _
          rw [e1]
          obtain ⟨hl, h0 | ⟨g, cap, cur, e1, e2, e3, e4⟩⟩ := hV
          · exact ⟨hl, .inl h0⟩
          · exact ⟨hl, .inr ⟨g, cap, cur, e1, e2, (h3 g (Array.getElem?_eq_some_iff.1 e3).1 (big g e2)).trans e3, e4⟩⟩
      refine Both.mk ?_ ?_
      all_goals
        refine Need.mk hn1 ?_
        refine ⟨(.slice x.a x.l.length x.c, c.2 + 1), Need.mk (CovH.mk rfl rfl rfl) (EndI.mk fun w9 h9 => ?_)⟩
        have hs11 := h11.size
        refine fin w9 h9.below (Nat.le_trans h11.size h9.size) fun k hk hm => (h9.step k (Nat.lt_of_lt_of_le hk h11.size) (fun hm2 => hm (by simp at hm2 ⊢; omega))).trans (h11.step k hk (by simp))
  case done =>
    rintro D xs c W hD hSx ⟨hz, hn, hOw⟩ hmark
    have hDW : D < W.heap.size := (Array.getElem?_eq_some_iff.1 hmark).1
    have hf : (seq old part cz cr).find? (fun x => decide (x.2 ≠ 0)) = none := by
      rw [← hSx, List.find?_eq_none]
      intro y hy
      obtain ⟨x, hx, rfl⟩ := List.mem_map.1 hy
      simp [rv, hz x hx]
    rw [hf]
    rw [hSx] at hOw
    have hxl : (xs.length : Int) = (seq old part cz cr).length := by rw [← hSx, List.length_map]
    rw [hxl] at hn
    obtain ⟨a', c', hcc⟩ := hOw.form
    obtain ⟨c1, c2⟩ := c
    simp only at hOw hcc hn
    subst hcc
    subst hn
    have m5 := lb7 b5 (by simp); have m6 := lb7 b6 (by simp); have m7 := lb7 b7 (by simp); have m8 := lb7 b8 (by simp)
    apply CallI.use
    focus (exact fun w3 h3 => zsof_any (lastS (seq old part cz cr)) a' c' w3 (Sl.go hOw.sl (at_below h3 (by simp)) (at_below h3 (by simp)).size))
    rintro v w12 v12 h12 hB12 ⟨a12, c12, rfl, hO12⟩
    have hm12 : v12.heap[D]? = some (.deferred (some [])) := (hB12.block D (Nat.lt_of_lt_of_le hDW h12.size)).trans ((h12.step D hDW (by simp)).trans hmark)
    have hD12 : D < v12.heap.size := (Array.getElem?_eq_some_iff.1 hm12).1
    have hDb : D ∉ [b8, b6] := fun hm => by simp at hm; omega
    refine EndM.mk fun w13 h13 => ⟨⟨by show w.heap.size ≤ D; omega, (h13.step D hD12 hDb).trans hm12⟩, fun w14 hu => ?_⟩
    have hs12 : W.heap.size ≤ w12.heap.size := h12.size
    have hO13 := hO12.at h13 (fun b hb => by simp at hb; omega)
    refine ⟨_, _, rfl, (Own.kept (row := some D) hO13 ⟨hu.2.1, hu.2.2.1, hu.2.2.2.1, by rw [hu.1]; exact Nat.le_refl _, fun k _ hk => hu.2.2.2.2 k (fun e => hk (by rw [e]))⟩ ?_).lower h12.below.size⟩
    obtain ⟨_, ⟨e, _⟩ | ⟨g, cp, cur, e, _, hgb, _⟩⟩ := id hO13
    · rw [e]; exact .inl rfl
    · rw [e]
      refine .inr (fun e' => ?_)
      injection e' with e'
      subst e'
      have := (h13.step _ hD12 hDb).trans hm12
      rw [hgb] at this; cases this
  case stop =>
    rintro D cd e pre q W hD hSp ⟨rfl, pre0, x, rfl, hz, hx, hq⟩ hex hmark
    have hDW : D < W.heap.size := (Array.getElem?_eq_some_iff.1 hmark).1
    obtain ⟨t, ht⟩ := hSp
    have hf : (seq old part cz cr).find? (fun x => decide (x.2 ≠ 0)) = some (rv x) := by
      rw [← ht, List.map_append, List.append_assoc, List.find?_append, List.find?_eq_none.2 (fun y hy => by
        obtain ⟨z, hz', rfl⟩ := List.mem_map.1 hy
        simp [rv, hz z hz'])]
      simp [rv, hx]
    rw [hf]
    injection hex with hex
    subst hex
    refine EndM.mk fun w10 h10 => ⟨⟨by show w.heap.size ≤ D; omega, (h10.step D hDW (by simp)).trans hmark⟩, fun w11 hu => ?_⟩
    exact ⟨_, _, by rw [hq]; rfl, Own.nil⟩
end Go.Proofs.YtjbhpfmnfdebkaaGreat

/-
  Plain laws of sets of zones: the points of what two zones have in common, of unions, of pairs. No program is in sight.
-/
namespace Go.Proofs.YtjbhpfmnfdebkaaGreat
set_option linter.unusedVariables false
set_option linter.unusedSimpArgs false
open Go.RowKit Go.Proofs.YtjbhpfmnfdebkaaGreat.Eng Enc
namespace Zo
open Mi Dbm
end Zo
namespace Zs
open Mi Dbm
/-- what is answered of a set: as it has to be, where that is answered. -/
def Fine (m : List Zn) : Prop := m.length ≤ 4096 ∧ (∀ z, z ∈ m → Zo.chk z = 0) ∧ ((Cv.prune m).2 = 0 → (Cv.prune m).1 = m)
end Zs
end Go.Proofs.YtjbhpfmnfdebkaaGreat

/-
  The plain facts of CoverNames.
-/
namespace Go.Proofs.YtjbhpfmnfdebkaaGreat
set_option linter.unusedVariables false
set_option linter.unusedSimpArgs false
open Go.RowKit Go.Proofs.YtjbhpfmnfdebkaaGreat.Eng Enc
namespace Cv
open Mi Zo
end Cv
end Go.Proofs.YtjbhpfmnfdebkaaGreat

/-
  rallentandolaw13's helpers: of, alive, wanted; by the engine.
-/
namespace Go.Proofs.YtjbhpfmnfdebkaaGreat
set_option linter.unusedVariables false
set_option linter.unusedSimpArgs false
set_option maxRecDepth 100000
open Go.RowKit Go.Proofs.YtjbhpfmnfdebkaaGreat.Eng Enc

namespace Zs
open Cv
theorem prune_one (z : Zn) (h0 : checked [[z]] = 0) (h : in_ z [] = (false, 0)) : prune [z] = ([z], 0) := by
  unfold prune
  rw [if_neg (by rw [h0]; simp), sorted_self (List.pairwise_singleton _ _)]
  show pgo 1 [z] = _
  rw [pgo_succ (z := z) rfl]
  show (if (in_ z []).2 ≠ 0 then _ else if (in_ z []).1 = true then _ else pgo 0 [z]) = _
  rw [h]
  rfl
end Zs
namespace Zs
def wanted (l : List Zn) : Bool := decide ((Cv.prune l).2 ≠ 0) || decide (check l = 0)
theorem Fine.wanted {l : List Zn} (h : Fine l) : wanted l = true := by
  unfold Zs.wanted check
  by_cases h0 : (Cv.prune l).2 = 0
  · rw [if_pos ⟨h0, h.2.2 h0⟩]; simp
  · simp [h0]
end Zs
end Go.Proofs.YtjbhpfmnfdebkaaGreat

/-
  close: the chapter's examples, in plain Lean.
-/
namespace Go.Proofs.YtjbhpfmnfdebkaaGreat
set_option linter.unusedVariables false
set_option linter.unusedSimpArgs false
set_option maxRecDepth 100000
open Go.RowKit Go.Proofs.YtjbhpfmnfdebkaaGreat.Eng Enc

namespace Cl
def step1 : Zn := (Zo.make ⟨0, false, 3, false, false⟩ ⟨0, false, 3, false, false⟩ ⟨1, false, 1, false, false⟩).1
def step2 : Zn := (Cmp.comp step1 step1).1
def step3 : Zn := (Cmp.comp step2 step1).1
theorem st_make : Zo.make ⟨0, false, 3, false, false⟩ ⟨0, false, 3, false, false⟩ ⟨1, false, 1, false, false⟩ = (step1, 0) := by decide +kernel
theorem st_c1 : Cmp.comp step1 step1 = (step2, 0) := by decide +kernel
theorem st_c2 : Cmp.comp step2 step1 = (step3, 0) := by decide +kernel
theorem st_c3 : (Cmp.comp step3 step1).2 = 6 := by decide +kernel
theorem st_p1 : Cv.prune [step1] = ([step1], 0) := Zs.prune_one _ (by decide +kernel) (by decide +kernel)
theorem st_p2 : Cv.prune [step2] = ([step2], 0) := Zs.prune_one _ (by decide +kernel) (by decide +kernel)
theorem st_p3 : Cv.prune [step3] = ([step3], 0) := Zs.prune_one _ (by decide +kernel) (by decide +kernel)
theorem st_lt1 : Zo.Lt step2 step1 := (Zo.cmp_lt _ _).1 (by decide +kernel)
theorem st_lt2 : Zo.Lt step3 step2 := (Zo.cmp_lt _ _).1 (by decide +kernel)
theorem st_p12 : Cv.prune [step1, step2] = ([step2, step1], 0) := by
  rw [Cv.prune_order (m := [step2, step1]) (fun x => by simp only [List.mem_cons, List.not_mem_nil, or_false]; constructor <;> (rintro (h | h) <;> simp [h])) (by simp) (by simp)]
  unfold Cv.prune
  rw [Cv.sorted_self (by simp only [List.pairwise_cons, List.mem_cons, List.not_mem_nil, or_false, forall_eq, List.Pairwise.nil, and_true]; exact ⟨st_lt1, fun _ h => h.elim⟩)]
  decide +kernel
theorem st_p123 : Cv.prune [step3, step2, step1] = ([step3, step2, step1], 0) := by
  unfold Cv.prune
  rw [Cv.sorted_self (by simp only [List.pairwise_cons, List.mem_cons, List.not_mem_nil, or_false, forall_eq, forall_eq_or_imp, List.Pairwise.nil, and_true]; exact ⟨⟨st_lt2, st_lt2.trans st_lt1⟩, st_lt1, fun _ h => h.elim⟩)]
  decide +kernel
theorem st_p213 : Cv.prune [step2, step1, step3] = ([step3, step2, step1], 0) := by
  rw [Cv.prune_order (m := [step3, step2, step1]) (fun x => by simp only [List.mem_cons, List.not_mem_nil, or_false]; constructor <;> (rintro (h | h | h) <;> simp [h])) (by simp) (by simp)]
  exact st_p123
theorem st_p0 : Cv.prune [] = ([], 0) := by
  unfold Cv.prune
  rw [Cv.sorted_self List.Pairwise.nil]
  decide +kernel
theorem comp_one {x y z : Zn} (h : Cmp.comp x y = (z, 0)) (hc : Cv.checked [[x], [y]] = 0) (hp : Cv.prune [z] = ([z], 0)) : Zs.comp [x] [y] = ([z], 0) := by
  unfold Zs.comp Zs.paired
  rw [if_pos hc, Zs.pairGo_cons, Zs.come_cons, h]
  show (if (Cv.prune [z]).2 = 0 then Zs.pairGo Cmp.comp [y] (Cv.prune [z]).1 [] else _) = _
  rw [hp]; rfl
theorem comp_31 : Zs.comp [step3] [step1] = ([], 0) := by
  unfold Zs.comp Zs.paired
  have e : Zs.come (Cmp.comp step3) [] [step1] = ([], 0) := by
    rw [Zs.come_cons, if_neg (by rw [st_c3]; decide), if_pos st_c3]
    exact st_p0
  rw [if_pos (by decide +kernel), Zs.pairGo_cons, e]
  rfl
theorem lo0 (cz : Int) (h : 4 ≤ cz) : longer [step1] [] [step1] cz = ([step1], [], 0) := by
  have e1 : Zs.comp [] [step1] = ([], 0) := by
    unfold Zs.comp Zs.paired
    rw [if_pos (by decide +kernel)]; rfl
  have e2 : Zs.or [step1] [] = ([step1], 0) := by
    unfold Zs.or
    rw [if_pos (by decide +kernel)]; exact st_p1
  unfold longer
  rw [e1, e2]
  rw [if_neg (by simp; omega), if_neg (by simp; omega)]
theorem lo1 (cz : Int) (h : 4 ≤ cz) : longer [step1] [step1] [step1] cz = ([step2, step1], [step2], 0) := by
  have e1 : Zs.comp [step1] [step1] = ([step2], 0) := comp_one st_c1 (by decide +kernel) st_p2
  have e2 : Zs.or [step1] [step2] = ([step2, step1], 0) := by
    unfold Zs.or
    rw [if_pos (by decide +kernel)]; exact st_p12
  unfold longer
  rw [e1, e2]
  rw [if_neg (by simp; omega), if_neg (by simp; omega)]
theorem lo2 (cz : Int) (h : 4 ≤ cz) : longer [step2, step1] [step2] [step1] cz = ([step3, step2, step1], [step3], 0) := by
  have e1 : Zs.comp [step2] [step1] = ([step3], 0) := comp_one st_c2 (by decide +kernel) st_p3
  have e2 : Zs.or [step2, step1] [step3] = ([step3, step2, step1], 0) := by
    unfold Zs.or
    rw [if_pos (by decide +kernel)]; exact st_p213
  unfold longer
  rw [e1, e2]
  rw [if_neg (by simp; omega), if_neg (by simp; omega)]
theorem lo3 (cz : Int) (h : 4 ≤ cz) : longer [step3, step2, step1] [step3] [step1] cz = ([step3, step2, step1], [], 0) := by
  have e2 : Zs.or [step3, step2, step1] [] = ([step3, step2, step1], 0) := by
    unfold Zs.or
    rw [if_pos (by decide +kernel)]; exact st_p123
  unfold longer
  rw [comp_31, e2]
  rw [if_neg (by simp; omega), if_neg (by simp; omega)]
theorem st_in1 : (Cv.all_ [step2] [step1]).1 = false := by decide +kernel
theorem st_in2 : (Cv.all_ [step3] [step2, step1]).1 = false := by decide +kernel
theorem st_in3 : (Cv.all_ [] [step3, step2, step1]).1 = true := by decide +kernel
theorem st_chk1 : Zs.check [] = 0 := by
  unfold Zs.check
  rw [st_p0]; decide
theorem st_chk2 : Zs.check [step1] = 0 := by
  unfold Zs.check
  rw [st_p1]; decide
theorem st_chk (cz cr : Int) (h1 : 1 ≤ cz ∧ cz ≤ 4096) (h2 : 1 ≤ cr ∧ cr ≤ 4096) : chk [] [step1] cz cr = 0 := by
  unfold chk
  rw [if_neg (by omega), st_chk1, st_chk2, if_neg (by decide +kernel)]
theorem st_seq3 : seq [] [step1] 100 100 = [([step1], 0), ([step2, step1], 0), ([step3, step2, step1], 0)] := by
  unfold seq
  rw [if_neg (by simp), lo0 100 (by omega), if_neg (by simp), show (100 : Int).toNat = 97 + 1 + 1 + 1 from rfl]
  simp only
  rw [go_succ, lo1 100 (by omega), if_neg (by simp), if_neg (by simp)]
  simp only
  rw [st_in1, if_neg (by decide), go_succ, lo2 100 (by omega), if_neg (by simp), if_neg (by simp)]
  simp only
  rw [st_in2, if_neg (by decide), go_succ, lo3 100 (by omega), if_neg (by simp), if_neg (by simp)]
  simp only
  rw [st_in3, if_pos rfl]
theorem st_seq2 : seq [] [step1] 100 2 = [([step1], 0), ([step2, step1], 0), ([], 301)] := by
  unfold seq
  rw [if_neg (by simp), lo0 100 (by omega), if_neg (by simp), show (2 : Int).toNat = 0 + 1 + 1 from rfl]
  simp only
  rw [go_succ, lo1 100 (by omega), if_neg (by simp), if_neg (by simp)]
  simp only
  rw [st_in1, if_neg (by decide), go_succ, lo2 100 (by omega), if_neg (by simp), if_neg (by simp)]
  simp only
  rw [st_in2, if_neg (by decide)]
  unfold go
  rw [if_neg (by simp)]
theorem st_close3 : close [] [step1] 100 100 = ([step3, step2, step1], 3, 0) := by
  unfold close
  rw [st_chk 100 100 (by omega) (by omega), if_neg (by simp), st_seq3]
  show ((Cv.prune (lastS _)).1, _, (Cv.prune (lastS _)).2) = _
  rw [show lastS [([step1], (0 : Int)), ([step2, step1], 0), ([step3, step2, step1], 0)] = [step3, step2, step1] from rfl, st_p123]
  rfl
theorem st_close2 : close [] [step1] 100 2 = ([], 0, 301) := by
  unfold close
  rw [st_chk 100 2 (by omega) (by omega), if_neg (by simp), st_seq2]
  rfl
theorem st_close0 : close [] [step1] 0 0 = ([], 0, 2) := by
  have h : chk [] [step1] 0 0 = 2 := by unfold chk; rw [if_pos (by omega)]
  unfold close
  rw [h, if_pos (by simp)]
def pt0 (u : Int) : Pt := ⟨(Fr.of 0 2).1, (Fr.of u 2).1⟩
theorem st_has6 : Zs.has [step3, step2, step1] (pt0 6) = (true, 0) := by decide +kernel
theorem st_has5 : Zs.has [step3, step2, step1] (pt0 5) = (false, 0) := by decide +kernel
end Cl
end Go.Proofs.YtjbhpfmnfdebkaaGreat

/-
  rallentandolaw25's helpers: steps, point, alive; and the walk of CloseNames; by the engine.
-/
namespace Go.Proofs.YtjbhpfmnfdebkaaGreat
set_option linter.unusedVariables false
set_option linter.unusedSimpArgs false
set_option maxRecDepth 100000
open Go.RowKit Go.Proofs.YtjbhpfmnfdebkaaGreat.Eng Enc

theorem steps_any (w : World) : Calls Tryz.prog 52 #[] w (Ret w fun v w' => ∃ a' c', v = .slice a' 1 c' ∧ Own TZ w.heap.size w' (.slice a' 1 c') [Cl.step1]) := by
  refine fun_at 0 w.heap.size w (Nat.le_refl _) Tryz.func52 (args := []) rfl rfl ?_
  have hmk := fun (w : World) => make_any ⟨0, false, 3, false, false⟩ ⟨0, false, 3, false, false⟩ ⟨1, false, 1, false, false⟩ ⟨by simp only [inK]; omega, by simp only [inK]; omega⟩ ⟨by simp only [inK]; omega, by simp only [inK]; omega⟩ ⟨by simp only [inK]; omega, by simp only [inK]; omega⟩ w
  rw [Cl.st_make] at hmk
  apply CallI.use1
  focus (exact fun w1 h1 => hmk w1)
  intro w1 v1 h1 hB1
  refine NewI.mk fun b1 hb1 => ?_
  refine Branch.no rfl ?_
  refine NewI.mk fun b2 hb2 => ?_
  have hb2' : w.heap.size ≤ b2 := Nat.le_trans h1.below.size (Nat.le_trans hB1.size hb2)
  exact EndI.mk fun w9 h9 => ⟨_, _, rfl, Own.own (l := [Cl.step1]) h9 1 rfl rfl rfl hb2'⟩
theorem point25_any (t u : Int) (ht : inK .i64 t) (hu : inK .i64 u) (w : World) :
    Calls Tryz.prog 116 #[.int .i64 t, .int .i64 u] w fun e w' => e = .returned (.agg #[.int .i64 (Fr.of t 2).1.num, .int .i64 (Fr.of t 2).1.den, .int .i64 (Fr.of u 2).1.num, .int .i64 (Fr.of u 2).1.den]) ∧ Below w.heap.size w w' := by
  refine fun_eq 0 w Tryz.func116 (args := [.val (.int .i64 t), .val (.int .i64 u)]) rfl rfl ?_
  refine NewI.mk fun b1 hb1 => ?_
  (first
    | (refine CallI.to1 (rof_any t 2 ht (by simp only [inK]; omega)) fun w2 => ?_)
    | (refine Branch.yes rfl ?_)
    | (refine Branch.no rfl ?_)
    | (refine Branch.mk (fun hb => ?_) (fun hb => ?_))
    | (refine NewI.mk fun nb hnb => ?_)
    | (refine Need.mk (by show _ ∧ _; omega) ?_)
    | (refine Need.mk (by omega) ?_)
    | (refine Need.mk ?_ ?_)
    | (refine EndI.mk fun w1 h1 => ?_))
  refine NewI.mk fun b2 hb2 => ?_
  (first
    | (refine CallI.to1 (rof_any u 2 hu (by simp only [inK]; omega)) fun w2 => ?_)
    | (refine Branch.yes rfl ?_)
    | (refine Branch.no rfl ?_)
    | (refine Branch.mk (fun hb => ?_) (fun hb => ?_))
    | (refine NewI.mk fun nb hnb => ?_)
    | (refine Need.mk (by show _ ∧ _; omega) ?_)
    | (refine Need.mk (by omega) ?_)
    | (refine Need.mk ?_ ?_)
    | (refine EndI.mk fun w1 h1 => ?_))
  refine NewI.mk fun b3 hb3 => ?_
  exact EndI.mk fun w3 h3 => rfl
open Cl in
theorem alive25_any (w : World) : Calls Tryz.prog 53 #[] w fun e w' => e = .returned (.bool true) ∧ Below w.heap.size w w' := by
  refine fun_eq 0 w Tryz.func53 (args := []) rfl rfl ?_
  have hcl := fun (w : World) ap cp h2 => cclose_any [] [step1] 100 100 none ap 0 cp w Sl.nil h2
  rw [st_close3] at hcl
  have p6 := fun w => point25_any 0 6 (by simp [inK]) (by simp [inK]) w
  have p5 := fun w => point25_any 0 5 (by simp [inK]) (by simp [inK]) w
  have hh6 := fun (w : World) a c h => zshas_any [step3, step2, step1] (pt0 6) ⟨Fr.of_ins (by simp [inK]), Fr.of_ins (by simp [inK])⟩ a c w h
  rw [st_has6] at hh6
  have hh5 := fun (w : World) a c h => zshas_any [step3, step2, step1] (pt0 5) ⟨Fr.of_ins (by simp [inK]), Fr.of_ins (by simp [inK])⟩ a c w h
  rw [st_has5] at hh5
  apply CallI.use
  focus (exact fun w1 h1 => steps_any w1)
  rintro v w1 v1 h1 hB1 ⟨a1, c1, rfl, hO1⟩
  apply CallI.use
  focus (exact fun w2 h2 => hcl w2 _ _ (Sl.go hO1.sl (at_belowM h2 (by simp)) (at_belowM h2 (by simp)).size))
  rintro v w2 v2 h2 hB2 ⟨a2, c2, rfl, hO2⟩
  apply CallI.use1
  focus (exact fun w3 h3 => p6 w3)
  intro w3 v3 h3 hB3
  have hO3 := (hO2.below (at_belowM h3 (by simp))).below hB3
  apply CallI.use1
  focus (exact fun w4 h4 => hh6 w4 _ _ (Sl.go hO3.sl (at_belowM h4 (by simp)) (at_belowM h4 (by simp)).size))
  intro w4 v4 h4 hB4
  have hO4 := (hO3.below (at_belowM h4 (by simp))).below hB4
  apply CallI.use1
  focus (exact fun w5 h5 => p5 w5)
  intro w5 v5 h5 hB5
  have hO5 := (hO4.below (at_belowM h5 (by simp))).below hB5
  apply CallI.use1
  focus (exact fun w6 h6 => hh5 w6 _ _ (Sl.go hO5.sl (at_belowM h6 (by simp)) (at_belowM h6 (by simp)).size))
  intro w6 v6 h6 hB6
  iterate 5 refine Branch.yes rfl ?_
  exact EndI.mk fun w15 h15 => rfl
open Cl in
theorem closeNames_walk (w : World) :
    Calls Tryz.prog 9 #[] w fun e w' => e = .returned (.bool true) ∧ Below w.heap.size w w' := by
  refine fun_eq 0 w Tryz.func9 (args := []) rfl rfl ?_
  have hc2 := fun (w : World) ap cp h2 => cclose_any [] [step1] 100 2 none ap 0 cp w Sl.nil h2
  rw [st_close2] at hc2
  have hc0 := fun (w : World) ap cp h2 => cclose_any [] [step1] 0 0 none ap 0 cp w Sl.nil h2
  rw [st_close0] at hc0
  apply CallI.use
  focus (exact fun w1 h1 => steps_any w1)
  rintro v w1 v1 h1 hB1 ⟨a1, c1, rfl, hO1⟩
  apply CallI.use
  focus (exact fun w2 h2 => hc2 w2 _ _ (Sl.go hO1.sl (at_belowM h2 (by simp)) (at_belowM h2 (by simp)).size))
  rintro v w2 v2 h2 hB2 ⟨a2, c2, rfl, hO2⟩
  apply CallI.use
  focus (exact fun w3 h3 => steps_any w3)
  rintro v w3 v3 h3 hB3 ⟨a3, c3, rfl, hO3⟩
  apply CallI.use
  focus (exact fun w4 h4 => hc0 w4 _ _ (Sl.go hO3.sl (at_belowM h4 (by simp)) (at_belowM h4 (by simp)).size))
  rintro v w4 v4 h4 hB4 ⟨a4, c4, rfl, hO4⟩
  apply CallI.use1
  focus (exact fun w5 h5 => alive25_any w5)
  intro w5 v5 h5 hB5
  iterate 2 refine Branch.yes rfl ?_
  exact EndI.mk fun w15 h15 => rfl
end Go.Proofs.YtjbhpfmnfdebkaaGreat

