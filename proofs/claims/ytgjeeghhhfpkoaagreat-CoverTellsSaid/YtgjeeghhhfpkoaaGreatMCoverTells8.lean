/-
  Merged texts of this seat (each with its own head below).
-/
import Derived.Test.YtgjeeghhhfpkoaaGreatMCoverTells7
import Derived.Test.YtgjeeghhhfpkoaaGreatMCoverTells3
import Derived.Laws.StructEq
import Derived.Test.YtgjeeghhhfpkoaaGreatMCoverTells4
import Derived.Test.YtgjeeghhhfpkoaaGreatMCoverTells6
/-
  The document's answers: ref08.Picked and ref12.Witness, by the engine.
-/
namespace Go.Proofs.YtgjeeghhhfpkoaaGreat
set_option linter.unusedVariables false
set_option linter.unusedSimpArgs false
set_option maxRecDepth 100000
open Go.RowKit Go.Proofs.YtgjeeghhhfpkoaaGreat.Eng Enc

theorem rpicked08_any (z : Zn) (h0 : Zo.chk z = 0) (w : World) :
    Calls Tryz.prog 127 #[.agg #[.int .i64 z.a, .int .i64 z.b, .int .i64 z.c, .int .i64 z.d, .int .i64 z.e, .int .i64 z.f]] w fun e w' => e = .returned (.agg #[.int .i64 (Zo.pick z).1.t.num, .int .i64 (Zo.pick z).1.t.den, .int .i64 (Zo.pick z).1.u.num, .int .i64 (Zo.pick z).1.u.den]) ∧ Below w.heap.size w w' := by
  obtain ⟨c1, c2⟩ := Zo.clo h0
  obtain ⟨t, u, hp, ht, hu, hf⟩ := Incl.picks_in c1 c2
  have hpk : Incl.picked 3 (Zo.matL z) = [t, u] := by
    unfold Incl.picks at hp
    rw [if_pos c1] at hp
    have e3 : Int.toNat 3 = 3 := rfl
    rw [e3, c2.close] at hp
    exact (Prod.mk.inj hp).1
  have hzp : (Zo.pick z).1 = ⟨t, u⟩ := by unfold Zo.pick; rw [if_pos h0, hp]
  have hcp := fun (w : World) (a : Option Addr) (ca : Nat) h => rpicked06_any (Zo.matL z) c1 c2 a ca w h
  rw [hpk] at hcp
  rw [hzp]
  refine fun_eq 0 w Tryz.func127 (args := [.agg [.val (.int .i64 z.a), .val (.int .i64 z.b), .val (.int .i64 z.c), .val (.int .i64 z.d), .val (.int .i64 z.e), .val (.int .i64 z.f)]]) rfl rfl ?_
  have st := Stay.first (w := w)
  refine NewI.mk fun b1 hb1 => ?_
  refine NewI.mk fun b2 hb2 => ?_
  apply CallI.use
  focus (exact fun w2 h2 => rfull_any z w2)
  rintro v w2 v2 h2 hB2 ⟨a1, q1, rfl, hF1⟩
  have st := st.next h2 (fun x hx => by simp at hx <;> omega) hB2
  apply CallI.use
  focus (exact fun w3 h3 => hcp w3 a1 q1 (hF1.st (st.at h3 (fun x hx => by simp at hx <;> omega))))
  rintro v w3 v3 h3 hB3 ⟨a2, q2, rfl, hS2, hfr⟩
  have st := st.next h3 (fun x hx => by simp at hx <;> omega) hB3
  have hb2w : b2 < w3.heap.size := h3.lt b2 (by simp)
  refine DrawI.wr (.tk 0 (.tk 1 (.tk 2 (.tk 3 (.tk 4 (.tk 5 (.tk 6 (.ev 7 .done)))))))) [1] [] (by kernel_rfl) rfl (by simp) fun w4 h4 => ?_
  have hS4 : Sl w4.heap.size w4 (.slice a2 ([t, u] : List Rt).length q2) [t, u] := hS2.st (st.at h4 (fun x hx => by simp at hx <;> omega))
  refine hS4.idx (k := 0) (x := t) rfl fun ad had => ?_
  refine ld_row hS4 (k := 0) (x := t) rfl had (by have := hfr ad had; simp; omega) ?_
  refine hS4.idx (k := 1) (x := u) rfl fun ad2 had2 => ?_
  refine ld_row hS4 (k := 1) (x := u) rfl had2 (by have := hfr ad2 had2; simp; omega) ?_
  exact EndI.mk fun w9 h9 => rfl
theorem rwitness12_any (z : Zn) (hz : Zo.i64 z) (l : List Zn) (hl : ∀ b, b ∈ l → Zo.i64 b) (a : Option Addr) (cap : Nat) (w : World) (hS : Sl w.heap.size w (.slice a l.length cap) l) :
    Calls Tryz.prog 54 #[.agg #[.int .i64 z.a, .int .i64 z.b, .int .i64 z.c, .int .i64 z.d, .int .i64 z.e, .int .i64 z.f], .slice a l.length cap] w fun e w' => e = .returned (.tuple #[.agg #[.int .i64 (Cv.witness z l).1.t.num, .int .i64 (Cv.witness z l).1.t.den, .int .i64 (Cv.witness z l).1.u.num, .int .i64 (Cv.witness z l).1.u.den], .int .i64 (Cv.witness z l).2]) ∧ Below w.heap.size w w' := by
  refine fun_eq 0 w Tryz.func54 (args := [.agg [.val (.int .i64 z.a), .val (.int .i64 z.b), .val (.int .i64 z.c), .val (.int .i64 z.d), .val (.int .i64 z.e), .val (.int .i64 z.f)], .val (.slice a l.length cap)]) rfl rfl ?_
  refine NewI.mk fun b1 hb1 => ?_
  refine NewI.mk fun b2 hb2 => ?_
  refine NewI.mk fun b3 hb3 => ?_
  unfold Cv.witness
  apply CallI.use1
  focus (exact fun w2 h2 => rcheck12_any l [z] hl (by simp [hz]) a _ cap _ w2 (hS.go h2.below h2.below.size) (Sl.own (l := [z]) h2 2 rfl rfl rfl (Nat.le_refl _) (by simp [maxLen])))
  intro w2 v2 h2 hB2
  refine Branch.mk (fun z1 => ?_) (fun z1 => ?_)
  · have h0 : ¬ Cv.checked [l, [z]] = 0 := of_decide_eq_true z1
    rw [if_neg h0]
    exact EndI.mk fun w3 h3 => rfl
  have h0 : Cv.checked [l, [z]] = 0 := by have := of_decide_eq_false z1; simpa using this
  obtain ⟨h4, _, hlc, hzc⟩ := Cv.checked_zero h0
  have hzc := hzc z (by simp)
  rw [if_pos h0]
  have hlo : Mi.left z l = Mi.outer l [z] := Cv.left_outer hzc hlc
  rw [hlo]
  apply CallI.use
  focus (exact fun w2 h2 => rrest_any z hzc l hlc a cap w2 (hS.go h2.below h2.below.size))
  rintro v w3 v3 h3 hB3 ⟨a2, c2, rfl, hS2⟩
  have hok : ∀ y, y ∈ (Mi.outer l [z]).1 → (Mi.outer l [z]).2 = 0 → Zo.chk y = 0 := fun y hy he => ((Mi.left_ok (a := z) (l := l) (by rw [hlo]; exact he)).2.2.2 y (by rw [hlo]; exact hy)).1
  generalize Mi.outer l [z] = X at *
  obtain ⟨x, e⟩ := X
  refine Branch.mk (fun hc2 => ?_) (fun hc2 => ?_)
  · have h1 : ¬ e = 0 := by simpa using hc2
    rw [if_neg h1]
    exact EndI.mk fun w3 h3 => rfl
  have h1 : e = 0 := by simpa using hc2
  rw [if_pos h1]
  refine Branch.mk (fun hc3 => ?_) (fun hc3 => ?_)
  · have hx : x = [] := by have : x.length = 0 := by simpa using hc3
                           exact List.eq_nil_of_length_eq_zero this
    subst hx
    exact EndI.mk fun w3 h3 => rfl
  cases x with
  | nil => simp at hc3
  | cons y t =>
    have hy := hok y (by simp) h1
    have hy2 : (Zo.pick y).2 = 0 := (Zo.pick_ok hy).1
    refine hS2.idx (k := 0) (x := y) rfl fun ad had => ?_
    refine hS2.ld (k := 0) (x := y) rfl had (Below.refl _ _) (by simp) ?_
    apply CallI.use1
    focus (exact fun w4 h4 => rpicked08_any y hy w4)
    intro w4 v4 h4 hB4
    exact EndI.mk fun w3 h3 => by rw [hy2]
end Go.Proofs.YtgjeeghhhfpkoaaGreat

/-
  == at two points.
-/
namespace Go.Proofs.YtgjeeghhhfpkoaaGreat
set_option linter.unusedVariables false
set_option linter.unusedSimpArgs false
set_option maxRecDepth 100000
open Go.RowKit Go.Proofs.YtgjeeghhhfpkoaaGreat.Eng Enc

theorem run_eql_pt (p q : Pt) (w : World) : (binOp .eql 25 (.agg #[.int .i64 p.t.num, .int .i64 p.t.den, .int .i64 p.u.num, .int .i64 p.u.den]) (.agg #[.int .i64 q.t.num, .int .i64 q.t.den, .int .i64 q.u.num, .int .i64 q.u.den])).run Tryz.prog w = .ok (.bool (decide (p = q))) w := by
  have u3 := Tryz.underlying3
  have a3 := Tryz.isAgg3
  have z3 := Tryz.sizeOf3
  have hS : Tryz.prog.underlying 25 = some (.struct (Tryz.prog.fieldsOf 25)) := by kernel_rfl
  have hp : Tryz.prog.stoodInHeld 25 = false := by kernel_rfl
  rw [run_eql_struct, show (10000 : Nat) = 9999 + 1 from rfl, run_equalIn_agg w 9999 25 _ _ hS hp]
  simp only [Program.fieldsOf, Tryz.underlying25]
  go_simp
  have hpq : p = q ↔ (p.t.num = q.t.num ∧ p.t.den = q.t.den ∧ p.u.num = q.u.num ∧ p.u.den = q.u.den) := by
    obtain ⟨⟨a, b⟩, c, d⟩ := p
    obtain ⟨⟨a', b'⟩, c', d'⟩ := q
    simp only [Pt.mk.injEq, Rt.mk.injEq, and_assoc]
  simp only [hpq]
  repeat' split
  all_goals simp_all

theorem run_eql_ptG (x y : Operand) (p q : Pt) (w : World) : (do eqGuard .eql 25 x y (.agg #[.int .i64 p.t.num, .int .i64 p.t.den, .int .i64 p.u.num, .int .i64 p.u.den]) (.agg #[.int .i64 q.t.num, .int .i64 q.t.den, .int .i64 q.u.num, .int .i64 q.u.den]); binOp .eql 25 (.agg #[.int .i64 p.t.num, .int .i64 p.t.den, .int .i64 p.u.num, .int .i64 p.u.den]) (.agg #[.int .i64 q.t.num, .int .i64 q.t.den, .int .i64 q.u.num, .int .i64 q.u.den]) : Sem Value).run Tryz.prog w = .ok (.bool (decide (p = q))) w := by
  have hg : (eqGuard .eql 25 x y (.agg #[.int .i64 p.t.num, .int .i64 p.t.den, .int .i64 p.u.num, .int .i64 p.u.den]) (.agg #[.int .i64 q.t.num, .int .i64 q.t.den, .int .i64 q.u.num, .int .i64 q.u.den])).run Tryz.prog w = .ok () w := run_eqGuard_agg _ _ _ _ _ _ _ (by kernel_rfl)
  rw [Sem.run_bind, hg]
  exact run_eql_pt p q w

end Go.Proofs.YtgjeeghhhfpkoaaGreat

/-
  Small laws of worlds that grow; a row of zones whose cells are numbers, whatever they are.
-/
namespace Go.Proofs.YtgjeeghhhfpkoaaGreat
set_option linter.unusedVariables false
set_option linter.unusedSimpArgs false
open Go.RowKit Go.Proofs.YtgjeeghhhfpkoaaGreat.Eng Enc

theorem grown_belowM {n : Nat} {W w1 w2 : World} {row : Option Nat} (hB : Below n W w1) (hg : w1.grownBy w2 row) (hr : ∀ k, row = some k → n ≤ k) (hn : n ≤ w1.heap.size) : Below n W w2 :=
  ⟨hg.os.trans hB.os, hg.tape.trans hB.tape, hg.output.trans hB.output, Nat.le_trans hB.size hg.size, fun k hk => (hg.block k (Nat.lt_of_lt_of_le hk hn) (fun e => absurd (hr k e.symm) (Nat.not_le.2 hk))).trans (hB.block k hk)⟩
/-- a row of zones of the run's own, whose cells are numbers. -/
structure ZRow (W : World) (g cap n : Nat) : Prop where
  le : n ≤ cap
  max : cap ≤ maxLen
  row : ∃ cur : Array Value, W.heap[g]? = some (.cells cur TZ (0, 0)) ∧ cur.size = cap * 6 ∧ ∀ j, j < n * 6 → ∃ x, cur[j]? = some (.int .i64 x)
theorem cellsL_zn : ∀ (l : List Zn) (j : Nat), j < l.length * 6 → ∃ x, (cellsL l)[j]? = some (.int .i64 x)
  | [], j, h => by simp at h
  | z :: l, j, h => by
    have hlen : (enc z).length = 6 := rfl
    rw [List.length_cons] at h
    by_cases hj : j < 6
    · have : j = 0 ∨ j = 1 ∨ j = 2 ∨ j = 3 ∨ j = 4 ∨ j = 5 := by omega
      have hx : (cellsL (z :: l))[j]? = (enc z)[j]? := by
        show (enc z ++ cellsL l)[j]? = _
        rw [List.getElem?_append_left (by rw [hlen]; exact hj)]
      rw [hx]
      rcases this with rfl | rfl | rfl | rfl | rfl | rfl
      · exact ⟨z.a, rfl⟩
      · exact ⟨z.b, rfl⟩
      · exact ⟨z.c, rfl⟩
      · exact ⟨z.d, rfl⟩
      · exact ⟨z.e, rfl⟩
      · exact ⟨z.f, rfl⟩
    · obtain ⟨x, hx⟩ := cellsL_zn l (j - 6) (by omega)
      refine ⟨x, ?_⟩
      show (enc z ++ cellsL l)[j]? = _
      rw [List.getElem?_append_right (by rw [hlen]; omega), hlen]
      exact hx
theorem ZRow.of {base : Nat} {W : World} {g n cap : Nat} {l : List Zn} (h : Own TZ base W (.slice (some ⟨g, 0, none⟩) n cap) l) : ZRow W g cap n ∧ base ≤ g ∧ g < W.heap.size := by
  obtain ⟨rfl, hb, hlt, cur', hg, hn, hm, hs, ht⟩ := h.at0
  refine ⟨⟨hn, hm, cur', hg, hs, fun j hj => ?_⟩, hb, hlt⟩
  obtain ⟨x, hx⟩ := cellsL_zn l j hj
  refine ⟨x, ?_⟩
  have h1 : (cur'.toList.take (l.length * 6))[j]? = some (.int .i64 x) := by
    have : cur'.toList.take (l.length * size Zn) = cellsL l := ht
    rw [show l.length * 6 = l.length * size Zn from rfl, this]; exact hx
  rw [List.getElem?_take] at h1
  rw [if_pos hj] at h1
  rw [← h1, Array.getElem?_toList]
theorem ZRow.kept {W X : World} {g cap n : Nat} (h : ZRow W g cap n) (e : X.heap[g]? = W.heap[g]?) : ZRow X g cap n := by
  obtain ⟨a, b, cur, c⟩ := h
  exact ⟨a, b, cur, e.trans c.1, c.2⟩
theorem ZRow.lt {W : World} {g cap n : Nat} (h : ZRow W g cap n) : g < W.heap.size := by
  obtain ⟨_, _, cur, c, _⟩ := h
  exact (Array.getElem?_eq_some_iff.1 c).1
theorem ZRow.at {w0 : Base} {hp : List LB} {r L : List Nat} {w w1 : World} {g cap n : Nat} (h : ZRow w g cap n) (h1 : At w0 hp r L w w1) (hL : g ∉ L) : ZRow w1 g cap n := h.kept (h1.step g h.lt hL)
theorem ZRow.below {W X : World} {g cap n : Nat} (h : ZRow W g cap n) (hB : Below W.heap.size W X) : ZRow X g cap n := h.kept (hB.block _ h.lt)
theorem ZRow.cell {W : World} {g cap n : Nat} (h : ZRow W g cap n) {j : Nat} (hj : j < n * 6) : ∃ x, W.cell? ⟨g, j, none⟩ = some (.int .i64 x) := by
  obtain ⟨_, _, cur, c, _, d⟩ := h
  obtain ⟨x, hx⟩ := d j hj
  refine ⟨x, ?_⟩
  simp [World.cell?, c, hx]
theorem ZRow.frozen {W : World} {g cap n : Nat} (h : ZRow W g cap n) (j : Nat) : W.frozen? ⟨g, j, none⟩ = false := by
  obtain ⟨_, _, cur, c, _⟩ := h
  simp [World.frozen?, c]
theorem ZRow.set {W : World} {g cap n : Nat} (h : ZRow W g cap n) {j : Nat} (hj : j < n * 6) (x : Int) : ZRow (W.setCell ⟨g, j, none⟩ (.int .i64 x)) g cap n := by
  obtain ⟨a, b, cur, c, d, e⟩ := h
  refine ⟨a, b, cur.setIfInBounds j (.int .i64 x), ?_, by simp [d], fun i hi => ?_⟩
  · simp only [World.setCell]
    rw [Array.getElem?_modify, if_pos rfl, c]
    rfl
  · by_cases hij : i = j
    · subst hij
      refine ⟨x, ?_⟩
      have : i < cur.size := by rw [d]; have := Nat.mul_le_mul_right 6 a; omega
      simp [this]
    · obtain ⟨y, hy⟩ := e i hi
      refine ⟨y, ?_⟩
      rw [Array.getElem?_setIfInBounds_ne (fun h => hij h.symm)]; exact hy
theorem setCell_neM {W : World} {B o k : Nat} {u : Value} (h : k ≠ B) : (W.setCell ⟨B, o, none⟩ u).heap[k]? = W.heap[k]? := Below.heap_setCell _ _ _ _ (by simpa using h)
theorem below_setCellM {n : Nat} {W X : World} {B o : Nat} {u : Value} (h : Below n W X) (hB : n ≤ B) : Below n W (X.setCell ⟨B, o, none⟩ u) :=
  ⟨h.os, h.tape, h.output, by simpa [World.setCell] using h.size, fun k hk => (setCell_neM (by omega)).trans (h.block k hk)⟩
theorem Own.setCellM {α : Type} [Enc α] {e : TypeId} {base : Nat} {W : World} {sv : Value} {l : List α} {B o : Nat} {u : Value} (h : Own e base W sv l) (hne : ∀ g, sv.ownBlock = some g → g ≠ B) : Own e base (W.setCell ⟨B, o, none⟩ u) sv l :=
  Own.kept (row := some B) h ⟨rfl, rfl, rfl, by simp [World.setCell], fun j hj hn => setCell_neM (fun e => hn (by rw [e]))⟩ (by
    cases ho : sv.ownBlock with
    | none => exact .inl rfl
    | some g => exact .inr (fun e => hne g ho (by injection e)))
end Go.Proofs.YtgjeeghhhfpkoaaGreat

/-
  The walk of rallentandolaw12.CoverTells, by the engine.
-/
namespace Go.Proofs.YtgjeeghhhfpkoaaGreat
set_option linter.unusedVariables false
set_option linter.unusedSimpArgs false
set_option maxRecDepth 100000
open Go.RowKit Go.Proofs.YtgjeeghhhfpkoaaGreat.Eng Enc

theorem ins_i64 {z : Zn} (h : Zn.ins z) : Zo.i64 z := by
  obtain ⟨h1, h2, h3, h4, h5, h6⟩ := h
  simp only [inK] at h1 h2 h3 h4 h5 h6
  intro b hb
  unfold Zo.matL at hb
  unfold Dbm.int64
  simp only [List.mem_cons, List.not_mem_nil, or_false] at hb
  omega
theorem coverTells_walk (z : Zn) (hz : Zo.i64 z) (l m : List Zn) (hl : ∀ z, z ∈ l → Zo.i64 z) (hm : ∀ z, z ∈ m → Zo.i64 z) (a b : Option Addr) (ca cb : Nat) (w : World) (hS : Sl w.heap.size w (.slice a l.length ca) l) (hT : Sl w.heap.size w (.slice b m.length cb) m) :
    Calls Tryz.prog 8 #[.agg #[.int .i64 z.a, .int .i64 z.b, .int .i64 z.c, .int .i64 z.d, .int .i64 z.e, .int .i64 z.f], .slice a l.length ca, .slice b m.length cb] w fun e w' => e = .returned (.bool true) ∧ Below w.heap.size w w' := by
  refine fun_eqW 0 w Tryz.func8 (args := [.agg [.val (.int .i64 z.a), .val (.int .i64 z.b), .val (.int .i64 z.c), .val (.int .i64 z.d), .val (.int .i64 z.e), .val (.int .i64 z.f)], .val (.slice a l.length ca), .val (.slice b m.length cb)]) rfl rfl ?_
  have st := Stay.first (w := w)
  refine NewI.mk fun b1 hb1 => ?_
  refine Branch.mk (fun hc => ?_) (fun hc => ?_)
  · exact EndI.mk fun w9 h9 => rfl
  have h6 : l.length ≤ 6 := by have := of_decide_eq_false hc; omega
  refine Branch.mk (fun hc2 => ?_) (fun hc2 => ?_)
  · exact EndI.mk fun w9 h9 => rfl
  have h6' : m.length ≤ 6 := by have := of_decide_eq_false hc2; omega
  refine GenN.app (α := Zn) elZ [] l w.heap.size (fun w5 h5 => Own.nil) (fun w5 h5 => (hS.go h5.below h5.below.size).src) (by unfold maxLen; simp; omega) (by simp; omega) (fun w5 h5 => h5.below.size) (fun w5 w6 h5 hg => keep_grown h5 hg (fun k hk => by cases hk)) fun v1 w5 w6 h5 hg hO1 => ?_
  rw [List.nil_append] at hO1
  obtain ⟨a1, c1, rfl⟩ := hO1.form
  have st := (st.at h5 (fun x hx => by simp at hx <;> omega)).go h5.below.size h5.below (grown_belowM (Below.refl _ _) hg (fun k hk => by cases hk) (Nat.le_refl _))
  have hO1 : Own TZ w.heap.size w6 (.slice a1 l.length c1) l := hO1
  apply CallI.use1
  focus (exact fun w11 h11 => cin_any z l a1 c1 w11 ((hO1.st (st.at h11 (fun x hx => by simp at hx <;> omega))).sl))
  intro w11 v11 h11 hB11
  have st := st.next h11 (fun x hx => by simp at hx <;> omega) hB11
  apply CallI.use1
  focus (exact fun w12 h12 => rin12_any z hz l hl a ca w12 (hS.st (st.at h12 (fun x hx => by simp at hx <;> omega))))
  intro w12 v12 h12 hB12
  have st := st.next h12 (fun x hx => by simp at hx <;> omega) hB12
  apply CallI.use1
  focus (exact fun w13 h13 => all_any l m a1 c1 b cb w13 ((hO1.st (st.at h13 (fun x hx => by simp at hx <;> omega))).sl) (hT.st (st.at h13 (fun x hx => by simp at hx <;> omega))))
  intro w13 v13 h13 hB13
  have st := st.next h13 (fun x hx => by simp at hx <;> omega) hB13
  apply CallI.use1
  focus (exact fun w14 h14 => rall12_any l m hl hm a b ca cb w14 (hS.st (st.at h14 (fun x hx => by simp at hx <;> omega))) (hT.st (st.at h14 (fun x hx => by simp at hx <;> omega))))
  intro w14 v14 h14 hB14
  have st := st.next h14 (fun x hx => by simp at hx <;> omega) hB14
  apply CallI.use
  focus (exact fun w15 h15 => prune_any l a1 c1 w15 ((hO1.st (st.at h15 (fun x hx => by simp at hx <;> omega))).sl))
  rintro v w15 v15 h15 hB15 ⟨a2, c2, rfl, hO2⟩
  have st := st.next h15 (fun x hx => by simp at hx <;> omega) hB15
  apply CallI.use
  focus (exact fun w16 h16 => rprune12_any l hl a ca w16 (hS.st (st.at h16 (fun x hx => by simp at hx <;> omega))))
  rintro v w16 v16 h16 hB16 ⟨a3, c3, rfl, hS3⟩
  have st := st.next h16 (fun x hx => by simp at hx <;> omega) hB16
  apply CallI.use1
  focus (exact fun w17 h17 => cwitness_any z l a1 c1 w17 ((hO1.st (st.at h17 (fun x hx => by simp at hx <;> omega))).sl))
  intro w17 v17 h17 hB17
  have st := st.next h17 (fun x hx => by simp at hx <;> omega) hB17
  refine NewI.mk fun b2 hb2 => ?_
  apply CallI.use1
  focus (exact fun w18 h18 => rwitness12_any z hz l hl a ca w18 (hS.st (st.at h18 (fun x hx => by simp at hx <;> omega))))
  intro w18 v18 h18 hB18
  have st := st.next h18 (fun x hx => by simp at hx <;> omega) hB18
  refine NewI.mk fun b3 hb3 => ?_
  refine Branch.yes (by simp) ?_
  refine Branch.yes (by simp) ?_
  refine Branch.yes (by simp) ?_
  refine Branch.yes (by simp) ?_
  apply CallI.use1
  focus (exact fun w21 h21 => same11_any (Cv.prune l).1 (Cv.prune l).1 a2 c2 a3 c3 w21 ((hO2.st (st.at h21 (fun x hx => by simp at hx <;> omega))).sl) (hS3.st (st.at h21 (fun x hx => by simp at hx <;> omega))))
  intro w21 v21 h21 hB21
  have st := st.next h21 (fun x hx => by simp at hx <;> omega) hB21
  refine Branch.yes (by simp) ?_
  refine Branch.yes (by simp) ?_
  refine GenV.to (fun w => run_eql_ptG _ _ (Cv.witness z l).1 (Cv.witness z l).1 w) fun u0 k0 => ?_
  have st := st.at k0 (fun x hx => by simp at hx <;> omega)
  refine Branch.yes (by simp) ?_
  have hOk : Own TZ w15.heap.size u0 (.slice a2 (Cv.prune l).1.length c2) (Cv.prune l).1 := hO2.st st
  have hO1u : Own TZ w.heap.size u0 (.slice a1 l.length c1) l := hO1.st st
  have hg1 : ∀ k, (Value.slice a1 l.length c1).ownBlock = some k → k < w15.heap.size := fun k hk => Nat.lt_of_lt_of_le (hO1.lt k hk).2 (by have := (st.get (X := w15) (by simp)).size; have := h11.size; exact Nat.le_trans (Nat.le_trans h11.size (Nat.le_trans hB11.size (Nat.le_trans h12.size (Nat.le_trans hB12.size (Nat.le_trans h13.size (Nat.le_trans hB13.size (Nat.le_trans h14.size hB14.size))))))) h15.size)
  have hbb1 : b1 < w15.heap.size := h15.lt b1 (by simp)
  have hbb2 : v15.heap.size ≤ b2 := Nat.le_trans h16.size (Nat.le_trans hB16.size (Nat.le_trans h17.size (Nat.le_trans hB17.size hb2)))
  have hbb3 : v15.heap.size ≤ b3 := Nat.le_trans h16.size (Nat.le_trans hB16.size (Nat.le_trans h17.size (Nat.le_trans hB17.size (Nat.le_trans h18.size (Nat.le_trans hB18.size hb3)))))
  generalize (Cv.prune l).1 = K at *
  obtain ⟨gk, hgk⟩ : ∃ gk : Nat, 0 < K.length → a2 = some ⟨gk, 0, none⟩ ∧ ZRow u0 gk c2 K.length ∧ w15.heap.size ≤ gk ∧ gk < v15.heap.size := by
    by_cases hn : 0 < K.length
    · obtain ⟨_, ⟨e, h0⟩ | ⟨g, cap, cur, e, _⟩⟩ := id hO2
      · omega
      · injection e with e1 e2 e3
        subst e1; subst e3
        refine ⟨g, fun _ => ⟨rfl, (ZRow.of hOk).1, (ZRow.of hOk).2.1, (ZRow.of hO2).2.2⟩⟩
    · exact ⟨0, fun h => absurd h hn⟩
  have wu := st.get (X := w) (by simp)
  refine LoopI.invC (α := Nat × World) (fun y => [(25, .val (.int .i64 y.1))]) (fun y => y.2) (fun y => y.1 ≤ K.length ∧ Below w.heap.size w y.2 ∧ Own TZ w.heap.size y.2 (.slice a1 l.length c1) l ∧ (0 < K.length → ZRow y.2 gk c2 K.length)) (fun y => K.length - y.1) ?_ ?_
  · intro w1 h1
    exact ⟨(0, w1), Cov.mk (by repeat' (first | exact trivial | refine And.intro rfl ?_)) rfl rfl rfl rfl rfl, rfl, Nat.zero_le _, h1.below, hO1u.at h1 (by simp), fun hn => (hgk hn).2.1.at h1 (by simp)⟩
  rintro ⟨k, U⟩ ⟨hk, hU, hOU, hRU⟩
  simp only at hk hU hOU hRU
  refine Branch.mk (fun z3 => ?_) (fun z3 => ?_)
  · have hlt : k < K.length := by have := of_decide_eq_true z3; simp only at this; omega
    obtain ⟨rfl, _, hge, hgl⟩ := hgk (by omega)
    have hRU := hRU (by omega)
    have hwg : w.heap.size ≤ gk := Nat.le_trans h15.below.size hge
    have hmx := hRU.max
    have hle := hRU.le
    unfold maxLen at hmx
    refine DrawI.wr (.tk 0 (.tk 1 (.tk 2 (.tk 3 (.tk 6 (.ev 4 (.tk 5 (.tk 7 (.ev 8 .done))))))))) [] [gk] (by kernel_rfl) rfl (by intro b hb hm; simp at hb hm; omega) fun w2 h2 => ?_
    have hR2 := hRU.at h2 (by simp)
    refine IdxI.mk ⟨_, ⟨rfl, by simp, by simpa using hlt⟩, ?_⟩
    refine Need.mk (by decide) ?_
    refine IdxI.mk ⟨_, ⟨rfl, by simp, by simpa using hlt⟩, ?_⟩
    obtain ⟨x, hx⟩ := hR2.cell (j := k * 6) (by omega)
    have had : ((⟨gk, 0, none⟩ : Addr).add ((k : Int).toNat * 6)).add (Int.toNat 0 * 1) = ⟨gk, k * 6, none⟩ := by simp [Addr.add]; omega
    refine LoadI.mk ⟨_, ⟨by rw [had]; exact hx, by simp⟩, ?_⟩
    refine Wr.mk ?_
    refine Need.mk (by decide) ?_
    refine StoreI.mk fun w3 h3 => ?_
    rw [had]
    have hR3 := hR2.at h3 (by simp)
    have hO3 := (hOU.at h2 (by simp)).at h3 (by simp)
    have hw3 := h3.below
    obtain ⟨x', hx'⟩ := hR3.cell (j := k * 6) (by omega)
    refine ⟨⟨⟨_, hx'⟩, hR3.frozen _⟩, fun hs => ⟨⟨below_setCellM (Below.refl _ _) hwg, fun b hb => setCell_neM (by simp at hb; omega)⟩, fun j hj hm => setCell_neM (by simpa using hm)⟩, ?_⟩
    have hR4 := hR3.set (j := k * 6) (by omega) ((x + 1 + 9223372036854775808) % 18446744073709551616 - 9223372036854775808)
    have hO4 := hO3.setCellM (B := gk) (o := k * 6) (u := .int .i64 ((x + 1 + 9223372036854775808) % 18446744073709551616 - 9223372036854775808)) (fun g hg => by have := hg1 g hg; omega)
    have hw4 := below_setCellM (B := gk) (o := k * 6) (u := .int .i64 ((x + 1 + 9223372036854775808) % 18446744073709551616 - 9223372036854775808)) hw3 hwg
    generalize w3.setCell ⟨gk, k * 6, none⟩ _ = w4 at *
    refine Wr.fit (by omega) (EndI.mk fun w7 h7 => ⟨(k + 1, w7), Cov.mk (by repeat' (first | exact trivial | refine And.intro rfl ?_)) rfl rfl rfl rfl rfl, rfl, ⟨hlt, h7.below, hO4.at h7 (by simp), fun _ => hR4.at h7 (by simp)⟩, by simp only; omega⟩)
  · have hge : k = K.length := by have := of_decide_eq_false z3; simp only at this; omega
    subst hge
    refine Branch.yes (by simp) ?_
    apply CallI.use1
    focus (exact fun w5 h5 => same11_any l l a1 c1 a ca w5 (hOU.at h5 (by simp)).sl (hS.go h5.below h5.below.size))
    intro w5 v5 h5 hB5
    exact EndI.mk fun w9 h9 => by simp
end Go.Proofs.YtgjeeghhhfpkoaaGreat

