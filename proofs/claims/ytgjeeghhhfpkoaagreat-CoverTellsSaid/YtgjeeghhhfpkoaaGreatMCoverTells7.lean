/-
  Merged texts of this seat (each with its own head below).
-/
import Derived.Test.YtgjeeghhhfpkoaaGreatMCoverTells6
import Derived.Test.YtgjeeghhhfpkoaaGreatMCoverTells5
import Derived.Test.YtgjeeghhhfpkoaaGreatMCoverTells3
import Derived.Test.YtgjeeghhhfpkoaaGreatMCoverTells4
/-
  The document's answer of layer 11, by the engine: Less.
-/
namespace Go.Proofs.YtgjeeghhhfpkoaaGreat
set_option linter.unusedVariables false
set_option linter.unusedSimpArgs false
set_option maxRecDepth 100000
open Go.RowKit Go.Proofs.YtgjeeghhhfpkoaaGreat.Eng Enc

namespace Mi
open Dbm
theorem minus_err {a b : Zn} (ha : Zo.chk a = 0) (hb : Zo.chk b = 0) {p q : List (Zn × Int)} {y : Zn × Int} (h : p ++ y :: q = parts a b) (hp : ∀ x, x ∈ p → x.2 = 0) (hy : y.2 ≠ 0) : minus a b = ([], y.2) := by
  have hf : (parts a b).find? (fun x => decide (x.2 ≠ 0)) = some y := by
    rw [← h, List.find?_append, List.find?_eq_none.2 (fun x hx => by simp [hp x hx])]
    simp [hy]
  unfold minus
  rw [if_pos ⟨ha, hb⟩, hf]
theorem minus_fin {a b : Zn} (ha : Zo.chk a = 0) (hb : Zo.chk b = 0) {p : List (Zn × Int)} (h : p = parts a b) (hp : ∀ x, x ∈ p → x.2 = 0) : minus a b = (p.map (·.1), 0) := by
  have hf : (parts a b).find? (fun x => decide (x.2 ≠ 0)) = none := by
    rw [← h]; exact List.find?_eq_none.2 (fun x hx => by simp [hp x hx])
  unfold minus
  rw [if_pos ⟨ha, hb⟩, hf, h]
theorem of_cases (L : List Int) : (Zo.of 3 L).2 = 0 ∨ (Zo.of 3 L).2 = 6 ∨ (Zo.of 3 L).2 = 8 := by
  unfold Zo.of
  by_cases h0 : chk 3 L = 0
  · rw [if_pos h0, if_pos rfl]
    have hcl : close 3 L = (match closeL 3 L with | some L' => (3, L', 0) | none => (0, [], 6)) := by unfold close; rw [if_pos h0]; rfl
    cases hC : closeL 3 L with
    | none => rw [hC] at hcl; rw [hcl]; right; left; rfl
    | some C =>
      rw [hC] at hcl; rw [hcl]
      show (Zo.told C).2 = 0 ∨ _
      unfold Zo.told
      split
      · exact .inl rfl
      · exact .inr (.inr rfl)
  · rw [if_neg h0]; exact .inr (.inr rfl)
theorem wth_cases (z : Zn) (i : Nat) (b : Int) : (wth z i b).2 = 0 ∨ (wth z i b).2 = 6 ∨ (wth z i b).2 = 8 := by
  unfold wth
  split
  · exact of_cases _
  · exact .inr (.inr rfl)
theorem cell_get (b : Zn) {k : Nat} (hk : k < 6) : [Value.int .i64 b.a, .int .i64 b.b, .int .i64 b.c, .int .i64 b.d, .int .i64 b.e, .int .i64 b.f][k]? = some (.int .i64 (Zo.get b k)) := by
  rcases six hk with rfl | rfl | rfl | rfl | rfl | rfl <;> rfl
theorem not_no {b : Int} (h : b = NO) : (Bd.not b).2 ≠ 0 := by subst h; decide
theorem not_mayC {b : Int} (hl : lim 288230376151711744 b) (hn : b ≠ NO) : Bd.not b = (Bd.mk (-(b / 2)) (!(Bd.st b)), 0) ∧ mayC (Bd.not b).1 = true := by
  have hb := hl.resolve_left hn
  have e : Bd.not b = (Bd.mk (-(b / 2)) (!(Bd.st b)), 0) := by
    unfold Bd.not
    rw [Incl.value_of hl hn]
    have hok : Num.okB (-(b / 2)) = true := Num.okB_iff.2 (by omega)
    simp only [if_true]
    unfold Bd.made
    rw [if_pos hok]
  refine ⟨e, ?_⟩
  rw [e]
  unfold mayC
  rw [Bd.half_mk]
  simp; omega
theorem lim_mayC {b : Int} (h : lim 288230376151711744 b) : mayC b = true := by
  unfold mayC
  rcases h with h | h
  · rw [h]; rfl
  · simp; omega
/-- where Less stands. -/
structure LSit (w w2 V : World) (Bb : Nat) (b : Zn) (sv : Value) (out : List Zn) (X : World) : Prop where
  below : Below w.heap.size w X
  size : w2.heap.size ≤ X.heap.size
  size0 : V.heap.size ≤ X.heap.size
  ha : Holds X Bb b
  own : Own 39 w2.heap.size X sv out
section
variable {w w2 V X Y : World} {Bb : Nat} {b : Zn} {sv : Value} {out : List Zn}
theorem LSit.at {hp : List LB} {r L : List Nat} (s : LSit w w2 V Bb b sv out X) (h : At ⟨w, w.heap.size, Nat.le_refl _⟩ hp r L X Y) (hL : ∀ x, x ∈ L → X.heap.size ≤ x ∨ x ≠ Bb ∧ sv.ownBlock ≠ some x) : LSit w w2 V Bb b sv out Y := by
  refine ⟨h.below, Nat.le_trans s.size h.size, Nat.le_trans s.size0 h.size, s.ha.same (h.step Bb s.ha.lt fun hm => ?_), ?_⟩
  · rcases hL _ hm with h1 | h1
    · have := s.ha.lt; omega
    · exact h1.1 rfl
  · obtain ⟨hl, h0 | ⟨g, cap, cur, e1, e2, e3, e4⟩⟩ := s.own
    · exact ⟨hl, .inl h0⟩
    · have hg := (Array.getElem?_eq_some_iff.1 e3).1
      refine ⟨hl, .inr ⟨g, cap, cur, e1, e2, (h.step g hg (fun e => ?_)).trans e3, e4⟩⟩
      rcases hL g e with h1 | h1
      · omega
      · exact h1.2 (by rw [e1]; rfl)
theorem LSit.go (s : LSit w w2 V Bb b sv out X) (hw : w.heap.size ≤ w2.heap.size) (hB : Below X.heap.size X Y) : LSit w w2 V Bb b sv out Y :=
  ⟨s.below.trans (hB.mono s.below.size), Nat.le_trans s.size hB.size, Nat.le_trans s.size0 hB.size, s.ha.below hB, s.own.below hB⟩
theorem LSit.grow {Z : World} {tv : Value} {out2 : List Zn} (s : LSit w w2 V Bb b sv out Y) (hw : w.heap.size ≤ w2.heap.size) (hBb : sv.ownBlock ≠ some Bb) (hg : Y.grownBy Z sv.ownBlock) (hO : Own 39 w2.heap.size Z tv out2) : LSit w w2 V Bb b tv out2 Z :=
  ⟨⟨hg.os.trans s.below.os, hg.tape.trans s.below.tape, hg.output.trans s.below.output, Nat.le_trans s.below.size hg.size, fun k hk => (hg.block k (Nat.lt_of_lt_of_le hk s.below.size) (fun e => by have := (s.own.lt k e.symm).1; omega)).trans (s.below.block k hk)⟩,
    Nat.le_trans s.size hg.size, Nat.le_trans s.size0 hg.size, s.ha.same (hg.block Bb s.ha.lt (fun e => hBb e.symm)), hO⟩
end
end Mi
set_option maxHeartbeats 40000000 in
theorem rless_any (a b : Zn) (ha : Zo.chk a = 0) (hb : Zo.chk b = 0) (w : World) :
    Calls Tryz.prog 204 #[.agg #[.int .i64 a.a, .int .i64 a.b, .int .i64 a.c, .int .i64 a.d, .int .i64 a.e, .int .i64 a.f], .agg #[.int .i64 b.a, .int .i64 b.b, .int .i64 b.c, .int .i64 b.d, .int .i64 b.e, .int .i64 b.f]] w (Ret w fun v w' => ∃ a' c', v = .tuple #[.slice a' (Mi.minus a b).1.length c', .int .i64 (Mi.minus a b).2] ∧ Own 39 w.heap.size w' (.slice a' (Mi.minus a b).1.length c') (Mi.minus a b).1) := by
  refine fun_ret 0 w Tryz.func204 (args := [.agg [.val (.int .i64 a.a), .val (.int .i64 a.b), .val (.int .i64 a.c), .val (.int .i64 a.d), .val (.int .i64 a.e), .val (.int .i64 a.f)], .agg [.val (.int .i64 b.a), .val (.int .i64 b.b), .val (.int .i64 b.c), .val (.int .i64 b.d), .val (.int .i64 b.e), .val (.int .i64 b.f)]]) rfl rfl ?_
  refine NewI.mk fun b1 hb1 => ?_
  have hb1' : w.heap.size ≤ b1 := hb1
  refine NewI.frn fun w1 h1 => ?_
  have hbox : (w1.alloc (.cells #[.int .i64 b.a, .int .i64 b.b, .int .i64 b.c, .int .i64 b.d, .int .i64 b.e, .int .i64 b.f] 39)).heap[w1.heap.size]? = some (.cells #[.int .i64 b.a, .int .i64 b.b, .int .i64 b.c, .int .i64 b.d, .int .i64 b.e, .int .i64 b.f] 39 (0, 0)) := World.alloc_heap_new w1 _
  have hw1 : Below w.heap.size w (w1.alloc (.cells #[.int .i64 b.a, .int .i64 b.b, .int .i64 b.c, .int .i64 b.d, .int .i64 b.e, .int .i64 b.f] 39)) := h1.below.alloc h1.below.size _
  have hwB : w.heap.size ≤ w1.heap.size := h1.below.size
  have hb1w : b1 < w1.heap.size := h1.lt b1 (by simp)
  generalize hgB : w1.heap.size = Bb at hbox hwB hb1w
  generalize w1.alloc (.cells #[.int .i64 b.a, .int .i64 b.b, .int .i64 b.c, .int .i64 b.d, .int .i64 b.e, .int .i64 b.f] 39) = w2 at hbox hw1
  have hw2s := hw1.size
  have hbox : Mi.Holds w2 Bb b := hbox
  have hBb : Bb < w2.heap.size := hbox.lt
  refine LoopI.inv (α := (Nat × Zn × List (Zn × Int)) × World × Value) (fun y => [(7, .val (.int .i64 y.1.1)), (6, .val y.2.2)]) (fun y => [⟨[.val (.int .i64 y.1.2.1.a), .val (.int .i64 y.1.2.1.b), .val (.int .i64 y.1.2.1.c), .val (.int .i64 y.1.2.1.d), .val (.int .i64 y.1.2.1.e), .val (.int .i64 y.1.2.1.f)], 39⟩]) (fun y => y.2.1)
    (fun y => y.1.1 ≤ 6 ∧ Below w.heap.size w y.2.1 ∧ w2.heap.size ≤ y.2.1.heap.size ∧ Mi.Holds y.2.1 Bb b ∧ Own 39 w2.heap.size y.2.1 y.2.2 (y.1.2.2.map (·.1)) ∧ Zo.chk y.1.2.1 = 0 ∧ (∀ x : Zn × Int, x ∈ y.1.2.2 → x.2 = 0) ∧ y.1.2.2.length ≤ 2 * y.1.1 ∧ y.1.2.2 ++ Mi.go b ([0, 1, 2, 3, 4, 5].drop y.1.1) y.1.2.1 = Mi.parts a b) (fun y => 6 - y.1.1) ?_ ?_
  · intro w3 h3
    have g3 := atB h3 (by simp)
    exact ⟨((0, a, []), w3, .slice none 0 0), Cov.mk (by repeat' (first | exact trivial | refine And.intro rfl ?_)) rfl rfl rfl rfl rfl, rfl, Nat.zero_le _, h3.below, g3.size, hbox.below g3, Own.nil, ha, by simp, by simp, rfl⟩
  rintro ⟨⟨k, x, pre⟩, V, sv⟩ ⟨hk, hV, hV2, hbx, hO, hx, hz, hpl, hpre⟩
  simp only at hk hV hV2 hbx hO hx hz hpl hpre
  refine Branch.mk (fun z1 => ?_) (fun z1 => ?_)
  · have hlt : k < 6 := by have := of_decide_eq_true z1; simp only at this; omega
    have hbl := Mi.get_lim (Zo.clo hb).1 hlt
    have hbm := Mi.lim_mayC hbl
    have hx0 := (Zo.clo hx).1
    have hok : Mi.other k < 6 := by unfold Mi.other; split <;> omega
    have hrow := fun g (h : sv.ownBlock = some g) => hO.lt g h
    rw [Mi.drop_six hlt] at hpre
    have n1 : sv.ownBlock ≠ some b1 := fun e => by have := (hrow b1 e).1; omega
    have nB : sv.ownBlock ≠ some Bb := fun e => by have := (hrow Bb e).1; omega
    have sit : Mi.LSit w w2 V Bb b sv (pre.map (·.1)) V := ⟨hV, hV2, Nat.le_refl _, hbx, hO⟩
    refine Need.mk (by simp only; omega) ?_
    refine LoadI.mk ⟨_, ⟨by rw [show (((k : Nat) : Int).toNat * 1) = k by simp]; exact sit.ha.cells k _ (Mi.cell_get b hlt), by simp⟩, ?_⟩
    refine Branch.mk (fun z2 => ?_) (fun z2 => ?_)
    · have hno : Zo.get b k = Dbm.NO := of_decide_eq_true z2
      rw [Mi.go, if_pos (Mi.not_no hno)] at hpre
      refine Need.mk (by simp only [inK]; omega) (EndI.mk fun w9 h9 => ⟨((k + 1, x, pre), w9, sv), Cov.mk (by repeat' (first | exact trivial | refine And.intro rfl ?_)) rfl rfl rfl rfl rfl, rfl, ?_, by simp only; omega⟩)
      have sit9 := sit.at h9 (by simp)
      exact ⟨hlt, sit9.below, sit9.size, sit9.ha, sit9.own, hx, hz, by simp only; omega, hpre⟩
    have hne : Zo.get b k ≠ Dbm.NO := of_decide_eq_false z2
    obtain ⟨hn1, hnm⟩ := Mi.not_mayC hbl hne
    rw [Mi.go, if_neg (by rw [hn1]; simp)] at hpre
    have hbn := hbl.resolve_left hne
    have hother : ∀ w, Calls Tryz.prog 261 #[.int .i64 (Zo.get b k)] w fun e w' => e = .returned (.int .i64 (Bd.not (Zo.get b k)).1) ∧ Below w.heap.size w w' := fun w => by
      refine (rother02_any (Zo.get b k) (by omega) (by omega) w).mono ?_
      rintro e w' ⟨rfl, rfl⟩
      rw [hn1]
      exact ⟨rfl, Below.refl _ _⟩
    generalize hr1v : Mi.wth x (Mi.other k) (Bd.not (Zo.get b k)).1 = r1 at hpre
    generalize hr2v : Mi.wth x k (Zo.get b k) = r2 at hpre
    have hc1 := Mi.wth_cases x (Mi.other k) (Bd.not (Zo.get b k)).1
    have hc2 := Mi.wth_cases x k (Zo.get b k)
    have hr2 : r2.2 = 0 → Zo.chk r2.1 = 0 := fun h => by rw [← hr2v] at h ⊢; exact (Mi.wth_ok hx0 hlt (Mi.lim_lt hbl (by omega)) h).1
    rw [hr1v] at hc1
    rw [hr2v] at hc2
    refine DrawI.go (.tk 0 (.tk 1 (.tk 3 (.tk 4 (.tk 5 (.two 2 (.two 6 (.two 7 (.tk 8 (.tk 9 (.tk 10 (.ev 11 (.ev 12 (.tk 13 .done)))))) 11 (.ev 7 (.tk 8 (.tk 9 (.tk 10 (.ev 12 (.tk 13 .done))))))) 11 (.ev 6 (.ev 7 (.tk 8 (.tk 9 (.tk 10 (.ev 12 (.tk 13 .done)))))))) 11 (.ev 2 (.ev 6 (.ev 7 (.tk 8 (.tk 9 (.tk 10 (.ev 12 (.tk 13 .done)))))))))))))) (by kernel_rfl) fun w3 h3 => ?_
    have sit := sit.at h3 (by simp)
    refine Need.mk (by simp only; omega) ?_
    refine LoadI.mk ⟨_, ⟨by rw [show (((k : Nat) : Int).toNat * 1) = k by simp]; exact sit.ha.cells k _ (Mi.cell_get b hlt), by simp⟩, ?_⟩
    refine Both.mk ?_ ?_
    · skip
      apply CallI.use1
      focus (exact fun w3 h3 => rother11_any k hlt w3)
      intro w3 v3 h3 hB3
      have sit := (sit.at h3 (fun x hx => by simp at hx <;> first | omega | (subst hx; exact .inr ⟨by omega, by assumption⟩) | (rcases hx with rfl | rfl <;> first | exact .inl (by omega) | exact .inr ⟨by omega, by assumption⟩))).go hw2s hB3
      refine Both.mk ?_ ?_
      · skip
        apply CallI.use1
        focus (exact fun w4 h4 => hother w4)
        intro w4 v4 h4 hB4
        have sit := (sit.at h4 (fun x hx => by simp at hx <;> first | omega | (subst hx; exact .inr ⟨by omega, by assumption⟩) | (rcases hx with rfl | rfl <;> first | exact .inl (by omega) | exact .inr ⟨by omega, by assumption⟩))).go hw2s hB4
        refine Both.mk ?_ ?_
        · skip
          apply CallI.use1
          focus (exact fun w5 h5 => rwith_any x hx0 (Mi.other k) hok (Bd.not (Zo.get b k)).1 hnm w5)
          intro w5 v5 h5 hB5
          have sit := (sit.at h5 (fun x hx => by simp at hx <;> first | omega | (subst hx; exact .inr ⟨by omega, by assumption⟩) | (rcases hx with rfl | rfl <;> first | exact .inl (by omega) | exact .inr ⟨by omega, by assumption⟩))).go hw2s hB5
          rw [hr1v]
          refine NewI.mk fun b9 hb9 => ?_
          have hb9' := Nat.le_trans sit.size0 hb9
          have n9 : sv.ownBlock ≠ some b9 := fun e => by have := (hrow b9 e).2; omega
          have m9 := hbx.lt
          refine Branch.mk (fun z3 => ?_) (fun z3 => ?_)
          · have e8 : r1.2 = 8 := by simpa using z3
            rw [if_neg (by omega)] at hpre
            rw [Mi.minus_err ha hb (p := pre) (y := r1) (by rw [← hpre]; simp; rfl) hz (by omega), e8]
            exact EndI.mk fun w9 h9 => ⟨_, _, rfl, Own.nil⟩
          have e8 : ¬ r1.2 = 8 := by simpa using z3
          refine Branch.mk (fun z4 => ?_) (fun z4 => ?_)
          · have e0 : r1.2 = 0 := by simpa using z4
            rw [if_neg (by omega)] at hpre
            obtain ⟨pre1, hpre1⟩ : ∃ p, p = pre ++ [r1] := ⟨_, rfl⟩
            have hp1 : pre1 ++ (if r2.2 = 6 then [] else (if r2.2 = 0 then [] else [r2]) ++ Mi.go b ([0, 1, 2, 3, 4, 5].drop (k + 1)) r2.1) = Mi.parts a b := by rw [hpre1, List.append_assoc]; exact hpre
            have hz1 : ∀ x : Zn × Int, x ∈ pre1 → x.2 = 0 := fun y hy => by
              rw [hpre1] at hy
              rcases List.mem_append.1 hy with hy | hy
              · exact hz y hy
              · rw [List.mem_singleton.1 hy]; exact e0
            have hpl1 : pre1.length ≤ 2 * k + 1 := by rw [hpre1]; simp; omega
            refine NewI.mk fun b10 hb10 => ?_
            have hb10' := Nat.le_trans sit.size0 hb10
            refine GenN.app (α := Zn) elZ (pre.map (·.1)) [r1.1] w2.heap.size (fun w5 h5 => (sit.at h5 (fun x hx => by simp at hx <;> first | omega | (subst hx; exact .inr ⟨by omega, by assumption⟩) | (rcases hx with rfl | rfl <;> first | exact .inl (by omega) | exact .inr ⟨by omega, by assumption⟩))).own) (fun w5 h5 => src_own h5 2 rfl rfl rfl rfl) (by unfold maxLen; simp; omega) (by simp; omega) (fun w5 h5 => Nat.le_trans sit.size h5.size)
              (fun w5 w6 h5 hg => keep_grown h5 hg (fun g hg' => ⟨Nat.le_trans hw2s (hrow g hg').1, fun hm => by have := hrow g hg'; simp at hm; omega⟩)) fun tv w5 w6 h5 hg hO' => ?_
            obtain ⟨at_, ct, rfl⟩ := hO'.form
            have emap : pre.map (·.1) ++ [r1.1] = pre1.map (·.1) := by rw [hpre1]; simp
            rw [emap] at hO' ⊢
            have sit := (sit.at h5 (fun x hx => by simp at hx <;> first | omega | (subst hx; exact .inr ⟨by omega, by assumption⟩) | (rcases hx with rfl | rfl <;> first | exact .inl (by omega) | exact .inr ⟨by omega, by assumption⟩))).grow hw2s nB hg hO'
            have n1 : (Value.slice at_ (pre1.map (·.1)).length ct).ownBlock ≠ some b1 := fun e => by have := (sit.own.lt b1 e).1; omega
            generalize Value.slice at_ (pre1.map (·.1)).length ct = tv at sit n1 ⊢
            refine DrawI.go (.tk 0 (.tk 1 (.tk 2 (.tk 3 (.tk 4 (.two 5 (.tk 6 (.tk 7 (.tk 8 (.ev 9 (.ev 10 (.tk 11 .done)))))) 9 (.ev 5 (.tk 6 (.tk 7 (.tk 8 (.ev 10 (.tk 11 .done)))))))))))) (by kernel_rfl) fun w8 h8 => ?_
            have sit := sit.at h8 (fun x hx => by simp at hx <;> first | omega | (subst hx; exact .inr ⟨by omega, by assumption⟩) | (rcases hx with rfl | rfl <;> first | exact .inl (by omega) | exact .inr ⟨by omega, by assumption⟩))
            refine Need.mk (by simp only; omega) ?_
            refine LoadI.mk ⟨_, ⟨by rw [show (((k : Nat) : Int).toNat * 1) = k by simp]; exact sit.ha.cells k _ (Mi.cell_get b hlt), by simp⟩, ?_⟩
            refine Both.mk ?_ ?_
            · skip
              apply CallI.use1
              focus (exact fun w6 h6 => rwith_any x hx0 k hlt (Zo.get b k) hbm w6)
              intro w6 v6 h6 hB6
              have sit := (sit.at h6 (fun x hx => by simp at hx <;> first | omega | (subst hx; exact .inr ⟨by omega, by assumption⟩) | (rcases hx with rfl | rfl <;> first | exact .inl (by omega) | exact .inr ⟨by omega, by assumption⟩))).go hw2s hB6
              rw [hr2v]
              refine NewI.mk fun b11 hb11 => ?_
              have hb11' := Nat.le_trans sit.size0 hb11
              have n11 : tv.ownBlock ≠ some b11 := fun e => by have := (sit.own.lt b11 e).2; omega
              have m11 := sit.ha.lt
              refine Branch.mk (fun z5 => ?_) (fun z5 => ?_)
              · have e6 : r2.2 = 6 := by simpa using z5
                rw [if_pos e6, List.append_nil] at hp1
                rw [Mi.minus_fin ha hb hp1 hz1]
                obtain ⟨ao, co, rfl⟩ := sit.own.form
                exact EndI.mk fun w9 h9 => ⟨ao, co, rfl, ((sit.at h9 (fun x hx => by simp at hx <;> first | omega | (subst hx; exact .inr ⟨by omega, by assumption⟩) | (rcases hx with rfl | rfl <;> first | exact .inl (by omega) | exact .inr ⟨by omega, by assumption⟩))).own).lower hw2s⟩
              have e6 : ¬ r2.2 = 6 := by simpa using z5
              rw [if_neg e6] at hp1
              refine Branch.mk (fun z6 => ?_) (fun z6 => ?_)
              · have e0 : ¬ r2.2 = 0 := by simpa using z6
                rw [if_neg e0] at hp1
                rw [Mi.minus_err ha hb (p := pre1) (y := r2) (q := Mi.go b ([0, 1, 2, 3, 4, 5].drop (k + 1)) r2.1) (by rw [← hp1]; simp) hz1 e0]
                exact EndI.mk fun w9 h9 => ⟨_, _, rfl, Own.nil⟩
              have e0 : r2.2 = 0 := by simpa using z6
              rw [if_pos e0, List.nil_append] at hp1
              refine Need.mk (by simp only [inK]; omega) (EndI.mk fun w9 h9 => ⟨((k + 1, r2.1, pre1), w9, tv), Cov.mk (by repeat' (first | exact trivial | refine And.intro rfl ?_)) rfl rfl rfl rfl rfl, rfl, ?_, by simp only; omega⟩)
              have sit9 := sit.at h9 (fun x hx => by simp at hx <;> first | omega | (subst hx; exact .inr ⟨by omega, by assumption⟩) | (rcases hx with rfl | rfl <;> first | exact .inl (by omega) | exact .inr ⟨by omega, by assumption⟩))
              exact ⟨hlt, sit9.below, sit9.size, sit9.ha, sit9.own, hr2 e0, hz1, by simp only; omega, hp1⟩
            · skip
              refine NewI.mk fun b11 hb11 => ?_
              have hb11' := Nat.le_trans sit.size0 hb11
              have n11 : tv.ownBlock ≠ some b11 := fun e => by have := (sit.own.lt b11 e).2; omega
              have m11 := sit.ha.lt
              apply CallI.use1
              focus (exact fun w6 h6 => rwith_any x hx0 k hlt (Zo.get b k) hbm w6)
              intro w6 v6 h6 hB6
              have sit := (sit.at h6 (fun x hx => by simp at hx <;> first | omega | (subst hx; exact .inr ⟨by omega, by assumption⟩) | (rcases hx with rfl | rfl <;> first | exact .inl (by omega) | exact .inr ⟨by omega, by assumption⟩))).go hw2s hB6
              rw [hr2v]
              refine Branch.mk (fun z5 => ?_) (fun z5 => ?_)
              · have e6 : r2.2 = 6 := by simpa using z5
                rw [if_pos e6, List.append_nil] at hp1
                rw [Mi.minus_fin ha hb hp1 hz1]
                obtain ⟨ao, co, rfl⟩ := sit.own.form
                exact EndI.mk fun w9 h9 => ⟨ao, co, rfl, ((sit.at h9 (fun x hx => by simp at hx <;> first | omega | (subst hx; exact .inr ⟨by omega, by assumption⟩) | (rcases hx with rfl | rfl <;> first | exact .inl (by omega) | exact .inr ⟨by omega, by assumption⟩))).own).lower hw2s⟩
              have e6 : ¬ r2.2 = 6 := by simpa using z5
              rw [if_neg e6] at hp1
              refine Branch.mk (fun z6 => ?_) (fun z6 => ?_)
              · have e0 : ¬ r2.2 = 0 := by simpa using z6
                rw [if_neg e0] at hp1
                rw [Mi.minus_err ha hb (p := pre1) (y := r2) (q := Mi.go b ([0, 1, 2, 3, 4, 5].drop (k + 1)) r2.1) (by rw [← hp1]; simp) hz1 e0]
                exact EndI.mk fun w9 h9 => ⟨_, _, rfl, Own.nil⟩
              have e0 : r2.2 = 0 := by simpa using z6
              rw [if_pos e0, List.nil_append] at hp1
              refine Need.mk (by simp only [inK]; omega) (EndI.mk fun w9 h9 => ⟨((k + 1, r2.1, pre1), w9, tv), Cov.mk (by repeat' (first | exact trivial | refine And.intro rfl ?_)) rfl rfl rfl rfl rfl, rfl, ?_, by simp only; omega⟩)
              have sit9 := sit.at h9 (fun x hx => by simp at hx <;> first | omega | (subst hx; exact .inr ⟨by omega, by assumption⟩) | (rcases hx with rfl | rfl <;> first | exact .inl (by omega) | exact .inr ⟨by omega, by assumption⟩))
              exact ⟨hlt, sit9.below, sit9.size, sit9.ha, sit9.own, hr2 e0, hz1, by simp only; omega, hp1⟩
          · have e0 : ¬ r1.2 = 0 := by simpa using z4
            have e6 : r1.2 = 6 := by omega
            rw [if_pos e6, List.nil_append] at hpre
            obtain ⟨pre1, hpre1⟩ : ∃ p, p = pre := ⟨_, rfl⟩
            rw [← hpre1] at hpre hz sit
            have hp1 := hpre
            have hz1 := hz
            have hpl1 : pre1.length ≤ 2 * k + 1 := by rw [hpre1]; omega
            generalize sv = tv at sit n1 n9 ⊢
            refine DrawI.go (.tk 0 (.tk 1 (.tk 2 (.tk 3 (.tk 4 (.two 5 (.tk 6 (.tk 7 (.tk 8 (.ev 9 (.ev 10 (.tk 11 .done)))))) 9 (.ev 5 (.tk 6 (.tk 7 (.tk 8 (.ev 10 (.tk 11 .done)))))))))))) (by kernel_rfl) fun w8 h8 => ?_
            have sit := sit.at h8 (fun x hx => by simp at hx <;> first | omega | (subst hx; exact .inr ⟨by omega, by assumption⟩) | (rcases hx with rfl | rfl <;> first | exact .inl (by omega) | exact .inr ⟨by omega, by assumption⟩))
            refine Need.mk (by simp only; omega) ?_
            refine LoadI.mk ⟨_, ⟨by rw [show (((k : Nat) : Int).toNat * 1) = k by simp]; exact sit.ha.cells k _ (Mi.cell_get b hlt), by simp⟩, ?_⟩
            refine Both.mk ?_ ?_
            · skip
              apply CallI.use1
              focus (exact fun w6 h6 => rwith_any x hx0 k hlt (Zo.get b k) hbm w6)
              intro w6 v6 h6 hB6
              have sit := (sit.at h6 (fun x hx => by simp at hx <;> first | omega | (subst hx; exact .inr ⟨by omega, by assumption⟩) | (rcases hx with rfl | rfl <;> first | exact .inl (by omega) | exact .inr ⟨by omega, by assumption⟩))).go hw2s hB6
              rw [hr2v]
              refine NewI.mk fun b11 hb11 => ?_
              have hb11' := Nat.le_trans sit.size0 hb11
              have n11 : tv.ownBlock ≠ some b11 := fun e => by have := (sit.own.lt b11 e).2; omega
              have m11 := sit.ha.lt
              refine Branch.mk (fun z5 => ?_) (fun z5 => ?_)
              · have e6 : r2.2 = 6 := by simpa using z5
                rw [if_pos e6, List.append_nil] at hp1
                rw [Mi.minus_fin ha hb hp1 hz1]
                obtain ⟨ao, co, rfl⟩ := sit.own.form
                exact EndI.mk fun w9 h9 => ⟨ao, co, rfl, ((sit.at h9 (fun x hx => by simp at hx <;> first | omega | (subst hx; exact .inr ⟨by omega, by assumption⟩) | (rcases hx with rfl | rfl <;> first | exact .inl (by omega) | exact .inr ⟨by omega, by assumption⟩))).own).lower hw2s⟩
              have e6 : ¬ r2.2 = 6 := by simpa using z5
              rw [if_neg e6] at hp1
              refine Branch.mk (fun z6 => ?_) (fun z6 => ?_)
              · have e0 : ¬ r2.2 = 0 := by simpa using z6
                rw [if_neg e0] at hp1
                rw [Mi.minus_err ha hb (p := pre1) (y := r2) (q := Mi.go b ([0, 1, 2, 3, 4, 5].drop (k + 1)) r2.1) (by rw [← hp1]; simp) hz1 e0]
                exact EndI.mk fun w9 h9 => ⟨_, _, rfl, Own.nil⟩
              have e0 : r2.2 = 0 := by simpa using z6
              rw [if_pos e0, List.nil_append] at hp1
              refine Need.mk (by simp only [inK]; omega) (EndI.mk fun w9 h9 => ⟨((k + 1, r2.1, pre1), w9, tv), Cov.mk (by repeat' (first | exact trivial | refine And.intro rfl ?_)) rfl rfl rfl rfl rfl, rfl, ?_, by simp only; omega⟩)
              have sit9 := sit.at h9 (fun x hx => by simp at hx <;> first | omega | (subst hx; exact .inr ⟨by omega, by assumption⟩) | (rcases hx with rfl | rfl <;> first | exact .inl (by omega) | exact .inr ⟨by omega, by assumption⟩))
              exact ⟨hlt, sit9.below, sit9.size, sit9.ha, sit9.own, hr2 e0, hz1, by simp only; omega, hp1⟩
            · skip
              refine NewI.mk fun b11 hb11 => ?_
              have hb11' := Nat.le_trans sit.size0 hb11
              have n11 : tv.ownBlock ≠ some b11 := fun e => by have := (sit.own.lt b11 e).2; omega
              have m11 := sit.ha.lt
              apply CallI.use1
              focus (exact fun w6 h6 => rwith_any x hx0 k hlt (Zo.get b k) hbm w6)
              intro w6 v6 h6 hB6
              have sit := (sit.at h6 (fun x hx => by simp at hx <;> first | omega | (subst hx; exact .inr ⟨by omega, by assumption⟩) | (rcases hx with rfl | rfl <;> first | exact .inl (by omega) | exact .inr ⟨by omega, by assumption⟩))).go hw2s hB6
              rw [hr2v]
              refine Branch.mk (fun z5 => ?_) (fun z5 => ?_)
              · have e6 : r2.2 = 6 := by simpa using z5
                rw [if_pos e6, List.append_nil] at hp1
                rw [Mi.minus_fin ha hb hp1 hz1]
                obtain ⟨ao, co, rfl⟩ := sit.own.form
                exact EndI.mk fun w9 h9 => ⟨ao, co, rfl, ((sit.at h9 (fun x hx => by simp at hx <;> first | omega | (subst hx; exact .inr ⟨by omega, by assumption⟩) | (rcases hx with rfl | rfl <;> first | exact .inl (by omega) | exact .inr ⟨by omega, by assumption⟩))).own).lower hw2s⟩
              have e6 : ¬ r2.2 = 6 := by simpa using z5
              rw [if_neg e6] at hp1
              refine Branch.mk (fun z6 => ?_) (fun z6 => ?_)
              · have e0 : ¬ r2.2 = 0 := by simpa using z6
                rw [if_neg e0] at hp1
                rw [Mi.minus_err ha hb (p := pre1) (y := r2) (q := Mi.go b ([0, 1, 2, 3, 4, 5].drop (k + 1)) r2.1) (by rw [← hp1]; simp) hz1 e0]
                exact EndI.mk fun w9 h9 => ⟨_, _, rfl, Own.nil⟩
              have e0 : r2.2 = 0 := by simpa using z6
              rw [if_pos e0, List.nil_append] at hp1
              refine Need.mk (by simp only [inK]; omega) (EndI.mk fun w9 h9 => ⟨((k + 1, r2.1, pre1), w9, tv), Cov.mk (by repeat' (first | exact trivial | refine And.intro rfl ?_)) rfl rfl rfl rfl rfl, rfl, ?_, by simp only; omega⟩)
              have sit9 := sit.at h9 (fun x hx => by simp at hx <;> first | omega | (subst hx; exact .inr ⟨by omega, by assumption⟩) | (rcases hx with rfl | rfl <;> first | exact .inl (by omega) | exact .inr ⟨by omega, by assumption⟩))
              exact ⟨hlt, sit9.below, sit9.size, sit9.ha, sit9.own, hr2 e0, hz1, by simp only; omega, hp1⟩
        · skip
          refine NewI.mk fun b9 hb9 => ?_
          have hb9' := Nat.le_trans sit.size0 hb9
          have n9 : sv.ownBlock ≠ some b9 := fun e => by have := (hrow b9 e).2; omega
          have m9 := hbx.lt
          apply CallI.use1
          focus (exact fun w5 h5 => rwith_any x hx0 (Mi.other k) hok (Bd.not (Zo.get b k)).1 hnm w5)
          intro w5 v5 h5 hB5
          have sit := (sit.at h5 (fun x hx => by simp at hx <;> first | omega | (subst hx; exact .inr ⟨by omega, by assumption⟩) | (rcases hx with rfl | rfl <;> first | exact .inl (by omega) | exact .inr ⟨by omega, by assumption⟩))).go hw2s hB5
          rw [hr1v]
          refine Branch.mk (fun z3 => ?_) (fun z3 => ?_)
          · have e8 : r1.2 = 8 := by simpa using z3
            rw [if_neg (by omega)] at hpre
            rw [Mi.minus_err ha hb (p := pre) (y := r1) (by rw [← hpre]; simp; rfl) hz (by omega), e8]
            exact EndI.mk fun w9 h9 => ⟨_, _, rfl, Own.nil⟩
          have e8 : ¬ r1.2 = 8 := by simpa using z3
          refine Branch.mk (fun z4 => ?_) (fun z4 => ?_)
          · have e0 : r1.2 = 0 := by simpa using z4
            rw [if_neg (by omega)] at hpre
            obtain ⟨pre1, hpre1⟩ : ∃ p, p = pre ++ [r1] := ⟨_, rfl⟩
            have hp1 : pre1 ++ (if r2.2 = 6 then [] else (if r2.2 = 0 then [] else [r2]) ++ Mi.go b ([0, 1, 2, 3, 4, 5].drop (k + 1)) r2.1) = Mi.parts a b := by rw [hpre1, List.append_assoc]; exact hpre
            have hz1 : ∀ x : Zn × Int, x ∈ pre1 → x.2 = 0 := fun y hy => by
              rw [hpre1] at hy
              rcases List.mem_append.1 hy with hy | hy
              · exact hz y hy
              · rw [List.mem_singleton.1 hy]; exact e0
            have hpl1 : pre1.length ≤ 2 * k + 1 := by rw [hpre1]; simp; omega
            refine NewI.mk fun b10 hb10 => ?_
            have hb10' := Nat.le_trans sit.size0 hb10
            refine GenN.app (α := Zn) elZ (pre.map (·.1)) [r1.1] w2.heap.size (fun w5 h5 => (sit.at h5 (fun x hx => by simp at hx <;> first | omega | (subst hx; exact .inr ⟨by omega, by assumption⟩) | (rcases hx with rfl | rfl <;> first | exact .inl (by omega) | exact .inr ⟨by omega, by assumption⟩))).own) (fun w5 h5 => src_own h5 2 rfl rfl rfl rfl) (by unfold maxLen; simp; omega) (by simp; omega) (fun w5 h5 => Nat.le_trans sit.size h5.size)
              (fun w5 w6 h5 hg => keep_grown h5 hg (fun g hg' => ⟨Nat.le_trans hw2s (hrow g hg').1, fun hm => by have := hrow g hg'; simp at hm; omega⟩)) fun tv w5 w6 h5 hg hO' => ?_
            obtain ⟨at_, ct, rfl⟩ := hO'.form
            have emap : pre.map (·.1) ++ [r1.1] = pre1.map (·.1) := by rw [hpre1]; simp
            rw [emap] at hO' ⊢
            have sit := (sit.at h5 (fun x hx => by simp at hx <;> first | omega | (subst hx; exact .inr ⟨by omega, by assumption⟩) | (rcases hx with rfl | rfl <;> first | exact .inl (by omega) | exact .inr ⟨by omega, by assumption⟩))).grow hw2s nB hg hO'
            have n1 : (Value.slice at_ (pre1.map (·.1)).length ct).ownBlock ≠ some b1 := fun e => by have := (sit.own.lt b1 e).1; omega
            generalize Value.slice at_ (pre1.map (·.1)).length ct = tv at sit n1 ⊢
            refine DrawI.go (.tk 0 (.tk 1 (.tk 2 (.tk 3 (.tk 4 (.two 5 (.tk 6 (.tk 7 (.tk 8 (.ev 9 (.ev 10 (.tk 11 .done)))))) 9 (.ev 5 (.tk 6 (.tk 7 (.tk 8 (.ev 10 (.tk 11 .done)))))))))))) (by kernel_rfl) fun w8 h8 => ?_
            have sit := sit.at h8 (fun x hx => by simp at hx <;> first | omega | (subst hx; exact .inr ⟨by omega, by assumption⟩) | (rcases hx with rfl | rfl <;> first | exact .inl (by omega) | exact .inr ⟨by omega, by assumption⟩))
            refine Need.mk (by simp only; omega) ?_
            refine LoadI.mk ⟨_, ⟨by rw [show (((k : Nat) : Int).toNat * 1) = k by simp]; exact sit.ha.cells k _ (Mi.cell_get b hlt), by simp⟩, ?_⟩
            refine Both.mk ?_ ?_
            · skip
              apply CallI.use1
              focus (exact fun w6 h6 => rwith_any x hx0 k hlt (Zo.get b k) hbm w6)
              intro w6 v6 h6 hB6
              have sit := (sit.at h6 (fun x hx => by simp at hx <;> first | omega | (subst hx; exact .inr ⟨by omega, by assumption⟩) | (rcases hx with rfl | rfl <;> first | exact .inl (by omega) | exact .inr ⟨by omega, by assumption⟩))).go hw2s hB6
              rw [hr2v]
              refine NewI.mk fun b11 hb11 => ?_
              have hb11' := Nat.le_trans sit.size0 hb11
              have n11 : tv.ownBlock ≠ some b11 := fun e => by have := (sit.own.lt b11 e).2; omega
              have m11 := sit.ha.lt
              refine Branch.mk (fun z5 => ?_) (fun z5 => ?_)
              · have e6 : r2.2 = 6 := by simpa using z5
                rw [if_pos e6, List.append_nil] at hp1
                rw [Mi.minus_fin ha hb hp1 hz1]
                obtain ⟨ao, co, rfl⟩ := sit.own.form
                exact EndI.mk fun w9 h9 => ⟨ao, co, rfl, ((sit.at h9 (fun x hx => by simp at hx <;> first | omega | (subst hx; exact .inr ⟨by omega, by assumption⟩) | (rcases hx with rfl | rfl <;> first | exact .inl (by omega) | exact .inr ⟨by omega, by assumption⟩))).own).lower hw2s⟩
              have e6 : ¬ r2.2 = 6 := by simpa using z5
              rw [if_neg e6] at hp1
              refine Branch.mk (fun z6 => ?_) (fun z6 => ?_)
              · have e0 : ¬ r2.2 = 0 := by simpa using z6
                rw [if_neg e0] at hp1
                rw [Mi.minus_err ha hb (p := pre1) (y := r2) (q := Mi.go b ([0, 1, 2, 3, 4, 5].drop (k + 1)) r2.1) (by rw [← hp1]; simp) hz1 e0]
                exact EndI.mk fun w9 h9 => ⟨_, _, rfl, Own.nil⟩
              have e0 : r2.2 = 0 := by simpa using z6
              rw [if_pos e0, List.nil_append] at hp1
              refine Need.mk (by simp only [inK]; omega) (EndI.mk fun w9 h9 => ⟨((k + 1, r2.1, pre1), w9, tv), Cov.mk (by repeat' (first | exact trivial | refine And.intro rfl ?_)) rfl rfl rfl rfl rfl, rfl, ?_, by simp only; omega⟩)
              have sit9 := sit.at h9 (fun x hx => by simp at hx <;> first | omega | (subst hx; exact .inr ⟨by omega, by assumption⟩) | (rcases hx with rfl | rfl <;> first | exact .inl (by omega) | exact .inr ⟨by omega, by assumption⟩))
              exact ⟨hlt, sit9.below, sit9.size, sit9.ha, sit9.own, hr2 e0, hz1, by simp only; omega, hp1⟩
            · skip
              refine NewI.mk fun b11 hb11 => ?_
              have hb11' := Nat.le_trans sit.size0 hb11
              have n11 : tv.ownBlock ≠ some b11 := fun e => by have := (sit.own.lt b11 e).2; omega
              have m11 := sit.ha.lt
              apply CallI.use1
              focus (exact fun w6 h6 => rwith_any x hx0 k hlt (Zo.get b k) hbm w6)
              intro w6 v6 h6 hB6
              have sit := (sit.at h6 (fun x hx => by simp at hx <;> first | omega | (subst hx; exact .inr ⟨by omega, by assumption⟩) | (rcases hx with rfl | rfl <;> first | exact .inl (by omega) | exact .inr ⟨by omega, by assumption⟩))).go hw2s hB6
              rw [hr2v]
              refine Branch.mk (fun z5 => ?_) (fun z5 => ?_)
              · have e6 : r2.2 = 6 := by simpa using z5
                rw [if_pos e6, List.append_nil] at hp1
                rw [Mi.minus_fin ha hb hp1 hz1]
                obtain ⟨ao, co, rfl⟩ := sit.own.form
                exact EndI.mk fun w9 h9 => ⟨ao, co, rfl, ((sit.at h9 (fun x hx => by simp at hx <;> first | omega | (subst hx; exact .inr ⟨by omega, by assumption⟩) | (rcases hx with rfl | rfl <;> first | exact .inl (by omega) | exact .inr ⟨by omega, by assumption⟩))).own).lower hw2s⟩
              have e6 : ¬ r2.2 = 6 := by simpa using z5
              rw [if_neg e6] at hp1
              refine Branch.mk (fun z6 => ?_) (fun z6 => ?_)
              · have e0 : ¬ r2.2 = 0 := by simpa using z6
                rw [if_neg e0] at hp1
                rw [Mi.minus_err ha hb (p := pre1) (y := r2) (q := Mi.go b ([0, 1, 2, 3, 4, 5].drop (k + 1)) r2.1) (by rw [← hp1]; simp) hz1 e0]
                exact EndI.mk fun w9 h9 => ⟨_, _, rfl, Own.nil⟩
              have e0 : r2.2 = 0 := by simpa using z6
              rw [if_pos e0, List.nil_append] at hp1
              refine Need.mk (by simp only [inK]; omega) (EndI.mk fun w9 h9 => ⟨((k + 1, r2.1, pre1), w9, tv), Cov.mk (by repeat' (first | exact trivial | refine And.intro rfl ?_)) rfl rfl rfl rfl rfl, rfl, ?_, by simp only; omega⟩)
              have sit9 := sit.at h9 (fun x hx => by simp at hx <;> first | omega | (subst hx; exact .inr ⟨by omega, by assumption⟩) | (rcases hx with rfl | rfl <;> first | exact .inl (by omega) | exact .inr ⟨by omega, by assumption⟩))
              exact ⟨hlt, sit9.below, sit9.size, sit9.ha, sit9.own, hr2 e0, hz1, by simp only; omega, hp1⟩
          · have e0 : ¬ r1.2 = 0 := by simpa using z4
            have e6 : r1.2 = 6 := by omega
            rw [if_pos e6, List.nil_append] at hpre
            obtain ⟨pre1, hpre1⟩ : ∃ p, p = pre := ⟨_, rfl⟩
            rw [← hpre1] at hpre hz sit
            have hp1 := hpre
            have hz1 := hz
            have hpl1 : pre1.length ≤ 2 * k + 1 := by rw [hpre1]; omega
            generalize sv = tv at sit n1 n9 ⊢
            refine DrawI.go (.tk 0 (.tk 1 (.tk 2 (.tk 3 (.tk 4 (.two 5 (.tk 6 (.tk 7 (.tk 8 (.ev 9 (.ev 10 (.tk 11 .done)))))) 9 (.ev 5 (.tk 6 (.tk 7 (.tk 8 (.ev 10 (.tk 11 .done)))))))))))) (by kernel_rfl) fun w8 h8 => ?_
            have sit := sit.at h8 (fun x hx => by simp at hx <;> first | omega | (subst hx; exact .inr ⟨by omega, by assumption⟩) | (rcases hx with rfl | rfl <;> first | exact .inl (by omega) | exact .inr ⟨by omega, by assumption⟩))
            refine Need.mk (by simp only; omega) ?_
            refine LoadI.mk ⟨_, ⟨by rw [show (((k : Nat) : Int).toNat * 1) = k by simp]; exact sit.ha.cells k _ (Mi.cell_get b hlt), by simp⟩, ?_⟩
            refine Both.mk ?_ ?_
            · skip
              apply CallI.use1
              focus (exact fun w6 h6 => rwith_any x hx0 k hlt (Zo.get b k) hbm w6)
              intro w6 v6 h6 hB6
              have sit := (sit.at h6 (fun x hx => by simp at hx <;> first | omega | (subst hx; exact .inr ⟨by omega, by assumption⟩) | (rcases hx with rfl | rfl <;> first | exact .inl (by omega) | exact .inr ⟨by omega, by assumption⟩))).go hw2s hB6
              rw [hr2v]
              refine NewI.mk fun b11 hb11 => ?_
              have hb11' := Nat.le_trans sit.size0 hb11
              have n11 : tv.ownBlock ≠ some b11 := fun e => by have := (sit.own.lt b11 e).2; omega
              have m11 := sit.ha.lt
              refine Branch.mk (fun z5 => ?_) (fun z5 => ?_)
              · have e6 : r2.2 = 6 := by simpa using z5
                rw [if_pos e6, List.append_nil] at hp1
                rw [Mi.minus_fin ha hb hp1 hz1]
                obtain ⟨ao, co, rfl⟩ := sit.own.form
                exact EndI.mk fun w9 h9 => ⟨ao, co, rfl, ((sit.at h9 (fun x hx => by simp at hx <;> first | omega | (subst hx; exact .inr ⟨by omega, by assumption⟩) | (rcases hx with rfl | rfl <;> first | exact .inl (by omega) | exact .inr ⟨by omega, by assumption⟩))).own).lower hw2s⟩
              have e6 : ¬ r2.2 = 6 := by simpa using z5
              rw [if_neg e6] at hp1
              refine Branch.mk (fun z6 => ?_) (fun z6 => ?_)
              · have e0 : ¬ r2.2 = 0 := by simpa using z6
                rw [if_neg e0] at hp1
                rw [Mi.minus_err ha hb (p := pre1) (y := r2) (q := Mi.go b ([0, 1, 2, 3, 4, 5].drop (k + 1)) r2.1) (by rw [← hp1]; simp) hz1 e0]
                exact EndI.mk fun w9 h9 => ⟨_, _, rfl, Own.nil⟩
              have e0 : r2.2 = 0 := by simpa using z6
              rw [if_pos e0, List.nil_append] at hp1
              refine Need.mk (by simp only [inK]; omega) (EndI.mk fun w9 h9 => ⟨((k + 1, r2.1, pre1), w9, tv), Cov.mk (by repeat' (first | exact trivial | refine And.intro rfl ?_)) rfl rfl rfl rfl rfl, rfl, ?_, by simp only; omega⟩)
              have sit9 := sit.at h9 (fun x hx => by simp at hx <;> first | omega | (subst hx; exact .inr ⟨by omega, by assumption⟩) | (rcases hx with rfl | rfl <;> first | exact .inl (by omega) | exact .inr ⟨by omega, by assumption⟩))
              exact ⟨hlt, sit9.below, sit9.size, sit9.ha, sit9.own, hr2 e0, hz1, by simp only; omega, hp1⟩
            · skip
              refine NewI.mk fun b11 hb11 => ?_
              have hb11' := Nat.le_trans sit.size0 hb11
              have n11 : tv.ownBlock ≠ some b11 := fun e => by have := (sit.own.lt b11 e).2; omega
              have m11 := sit.ha.lt
              apply CallI.use1
              focus (exact fun w6 h6 => rwith_any x hx0 k hlt (Zo.get b k) hbm w6)
              intro w6 v6 h6 hB6
              have sit := (sit.at h6 (fun x hx => by simp at hx <;> first | omega | (subst hx; exact .inr ⟨by omega, by assumption⟩) | (rcases hx with rfl | rfl <;> first | exact .inl (by omega) | exact .inr ⟨by omega, by assumption⟩))).go hw2s hB6
              rw [hr2v]
              refine Branch.mk (fun z5 => ?_) (fun z5 => ?_)
              · have e6 : r2.2 = 6 := by simpa using z5
                rw [if_pos e6, List.append_nil] at hp1
                rw [Mi.minus_fin ha hb hp1 hz1]
                obtain ⟨ao, co, rfl⟩ := sit.own.form
                exact EndI.mk fun w9 h9 => ⟨ao, co, rfl, ((sit.at h9 (fun x hx => by simp at hx <;> first | omega | (subst hx; exact .inr ⟨by omega, by assumption⟩) | (rcases hx with rfl | rfl <;> first | exact .inl (by omega) | exact .inr ⟨by omega, by assumption⟩))).own).lower hw2s⟩
              have e6 : ¬ r2.2 = 6 := by simpa using z5
              rw [if_neg e6] at hp1
              refine Branch.mk (fun z6 => ?_) (fun z6 => ?_)
              · have e0 : ¬ r2.2 = 0 := by simpa using z6
                rw [if_neg e0] at hp1
                rw [Mi.minus_err ha hb (p := pre1) (y := r2) (q := Mi.go b ([0, 1, 2, 3, 4, 5].drop (k + 1)) r2.1) (by rw [← hp1]; simp) hz1 e0]
                exact EndI.mk fun w9 h9 => ⟨_, _, rfl, Own.nil⟩
              have e0 : r2.2 = 0 := by simpa using z6
              rw [if_pos e0, List.nil_append] at hp1
              refine Need.mk (by simp only [inK]; omega) (EndI.mk fun w9 h9 => ⟨((k + 1, r2.1, pre1), w9, tv), Cov.mk (by repeat' (first | exact trivial | refine And.intro rfl ?_)) rfl rfl rfl rfl rfl, rfl, ?_, by simp only; omega⟩)
              have sit9 := sit.at h9 (fun x hx => by simp at hx <;> first | omega | (subst hx; exact .inr ⟨by omega, by assumption⟩) | (rcases hx with rfl | rfl <;> first | exact .inl (by omega) | exact .inr ⟨by omega, by assumption⟩))
              exact ⟨hlt, sit9.below, sit9.size, sit9.ha, sit9.own, hr2 e0, hz1, by simp only; omega, hp1⟩
      · skip
        refine NewI.mk fun b9 hb9 => ?_
        have hb9' := Nat.le_trans sit.size0 hb9
        have n9 : sv.ownBlock ≠ some b9 := fun e => by have := (hrow b9 e).2; omega
        have m9 := hbx.lt
        apply CallI.use1
        focus (exact fun w4 h4 => hother w4)
        intro w4 v4 h4 hB4
        have sit := (sit.at h4 (fun x hx => by simp at hx <;> first | omega | (subst hx; exact .inr ⟨by omega, by assumption⟩) | (rcases hx with rfl | rfl <;> first | exact .inl (by omega) | exact .inr ⟨by omega, by assumption⟩))).go hw2s hB4
        apply CallI.use1
        focus (exact fun w5 h5 => rwith_any x hx0 (Mi.other k) hok (Bd.not (Zo.get b k)).1 hnm w5)
        intro w5 v5 h5 hB5
        have sit := (sit.at h5 (fun x hx => by simp at hx <;> first | omega | (subst hx; exact .inr ⟨by omega, by assumption⟩) | (rcases hx with rfl | rfl <;> first | exact .inl (by omega) | exact .inr ⟨by omega, by assumption⟩))).go hw2s hB5
        rw [hr1v]
        refine Branch.mk (fun z3 => ?_) (fun z3 => ?_)
        · have e8 : r1.2 = 8 := by simpa using z3
          rw [if_neg (by omega)] at hpre
          rw [Mi.minus_err ha hb (p := pre) (y := r1) (by rw [← hpre]; simp; rfl) hz (by omega), e8]
          exact EndI.mk fun w9 h9 => ⟨_, _, rfl, Own.nil⟩
        have e8 : ¬ r1.2 = 8 := by simpa using z3
        refine Branch.mk (fun z4 => ?_) (fun z4 => ?_)
        · have e0 : r1.2 = 0 := by simpa using z4
          rw [if_neg (by omega)] at hpre
          obtain ⟨pre1, hpre1⟩ : ∃ p, p = pre ++ [r1] := ⟨_, rfl⟩
          have hp1 : pre1 ++ (if r2.2 = 6 then [] else (if r2.2 = 0 then [] else [r2]) ++ Mi.go b ([0, 1, 2, 3, 4, 5].drop (k + 1)) r2.1) = Mi.parts a b := by rw [hpre1, List.append_assoc]; exact hpre
          have hz1 : ∀ x : Zn × Int, x ∈ pre1 → x.2 = 0 := fun y hy => by
            rw [hpre1] at hy
            rcases List.mem_append.1 hy with hy | hy
            · exact hz y hy
            · rw [List.mem_singleton.1 hy]; exact e0
          have hpl1 : pre1.length ≤ 2 * k + 1 := by rw [hpre1]; simp; omega
          refine NewI.mk fun b10 hb10 => ?_
          have hb10' := Nat.le_trans sit.size0 hb10
          refine GenN.app (α := Zn) elZ (pre.map (·.1)) [r1.1] w2.heap.size (fun w5 h5 => (sit.at h5 (fun x hx => by simp at hx <;> first | omega | (subst hx; exact .inr ⟨by omega, by assumption⟩) | (rcases hx with rfl | rfl <;> first | exact .inl (by omega) | exact .inr ⟨by omega, by assumption⟩))).own) (fun w5 h5 => src_own h5 2 rfl rfl rfl rfl) (by unfold maxLen; simp; omega) (by simp; omega) (fun w5 h5 => Nat.le_trans sit.size h5.size)
            (fun w5 w6 h5 hg => keep_grown h5 hg (fun g hg' => ⟨Nat.le_trans hw2s (hrow g hg').1, fun hm => by have := hrow g hg'; simp at hm; omega⟩)) fun tv w5 w6 h5 hg hO' => ?_
          obtain ⟨at_, ct, rfl⟩ := hO'.form
          have emap : pre.map (·.1) ++ [r1.1] = pre1.map (·.1) := by rw [hpre1]; simp
          rw [emap] at hO' ⊢
          have sit := (sit.at h5 (fun x hx => by simp at hx <;> first | omega | (subst hx; exact .inr ⟨by omega, by assumption⟩) | (rcases hx with rfl | rfl <;> first | exact .inl (by omega) | exact .inr ⟨by omega, by assumption⟩))).grow hw2s nB hg hO'
          have n1 : (Value.slice at_ (pre1.map (·.1)).length ct).ownBlock ≠ some b1 := fun e => by have := (sit.own.lt b1 e).1; omega
          generalize Value.slice at_ (pre1.map (·.1)).length ct = tv at sit n1 ⊢
          refine DrawI.go (.tk 0 (.tk 1 (.tk 2 (.tk 3 (.tk 4 (.two 5 (.tk 6 (.tk 7 (.tk 8 (.ev 9 (.ev 10 (.tk 11 .done)))))) 9 (.ev 5 (.tk 6 (.tk 7 (.tk 8 (.ev 10 (.tk 11 .done)))))))))))) (by kernel_rfl) fun w8 h8 => ?_
          have sit := sit.at h8 (fun x hx => by simp at hx <;> first | omega | (subst hx; exact .inr ⟨by omega, by assumption⟩) | (rcases hx with rfl | rfl <;> first | exact .inl (by omega) | exact .inr ⟨by omega, by assumption⟩))
          refine Need.mk (by simp only; omega) ?_
          refine LoadI.mk ⟨_, ⟨by rw [show (((k : Nat) : Int).toNat * 1) = k by simp]; exact sit.ha.cells k _ (Mi.cell_get b hlt), by simp⟩, ?_⟩
          refine Both.mk ?_ ?_
          · skip
            apply CallI.use1
            focus (exact fun w6 h6 => rwith_any x hx0 k hlt (Zo.get b k) hbm w6)
            intro w6 v6 h6 hB6
            have sit := (sit.at h6 (fun x hx => by simp at hx <;> first | omega | (subst hx; exact .inr ⟨by omega, by assumption⟩) | (rcases hx with rfl | rfl <;> first | exact .inl (by omega) | exact .inr ⟨by omega, by assumption⟩))).go hw2s hB6
            rw [hr2v]
            refine NewI.mk fun b11 hb11 => ?_
            have hb11' := Nat.le_trans sit.size0 hb11
            have n11 : tv.ownBlock ≠ some b11 := fun e => by have := (sit.own.lt b11 e).2; omega
            have m11 := sit.ha.lt
            refine Branch.mk (fun z5 => ?_) (fun z5 => ?_)
            · have e6 : r2.2 = 6 := by simpa using z5
              rw [if_pos e6, List.append_nil] at hp1
              rw [Mi.minus_fin ha hb hp1 hz1]
              obtain ⟨ao, co, rfl⟩ := sit.own.form
              exact EndI.mk fun w9 h9 => ⟨ao, co, rfl, ((sit.at h9 (fun x hx => by simp at hx <;> first | omega | (subst hx; exact .inr ⟨by omega, by assumption⟩) | (rcases hx with rfl | rfl <;> first | exact .inl (by omega) | exact .inr ⟨by omega, by assumption⟩))).own).lower hw2s⟩
            have e6 : ¬ r2.2 = 6 := by simpa using z5
            rw [if_neg e6] at hp1
            refine Branch.mk (fun z6 => ?_) (fun z6 => ?_)
            · have e0 : ¬ r2.2 = 0 := by simpa using z6
              rw [if_neg e0] at hp1
              rw [Mi.minus_err ha hb (p := pre1) (y := r2) (q := Mi.go b ([0, 1, 2, 3, 4, 5].drop (k + 1)) r2.1) (by rw [← hp1]; simp) hz1 e0]
              exact EndI.mk fun w9 h9 => ⟨_, _, rfl, Own.nil⟩
            have e0 : r2.2 = 0 := by simpa using z6
            rw [if_pos e0, List.nil_append] at hp1
            refine Need.mk (by simp only [inK]; omega) (EndI.mk fun w9 h9 => ⟨((k + 1, r2.1, pre1), w9, tv), Cov.mk (by repeat' (first | exact trivial | refine And.intro rfl ?_)) rfl rfl rfl rfl rfl, rfl, ?_, by simp only; omega⟩)
            have sit9 := sit.at h9 (fun x hx => by simp at hx <;> first | omega | (subst hx; exact .inr ⟨by omega, by assumption⟩) | (rcases hx with rfl | rfl <;> first | exact .inl (by omega) | exact .inr ⟨by omega, by assumption⟩))
            exact ⟨hlt, sit9.below, sit9.size, sit9.ha, sit9.own, hr2 e0, hz1, by simp only; omega, hp1⟩
          · skip
            refine NewI.mk fun b11 hb11 => ?_
            have hb11' := Nat.le_trans sit.size0 hb11
            have n11 : tv.ownBlock ≠ some b11 := fun e => by have := (sit.own.lt b11 e).2; omega
            have m11 := sit.ha.lt
            apply CallI.use1
            focus (exact fun w6 h6 => rwith_any x hx0 k hlt (Zo.get b k) hbm w6)
            intro w6 v6 h6 hB6
            have sit := (sit.at h6 (fun x hx => by simp at hx <;> first | omega | (subst hx; exact .inr ⟨by omega, by assumption⟩) | (rcases hx with rfl | rfl <;> first | exact .inl (by omega) | exact .inr ⟨by omega, by assumption⟩))).go hw2s hB6
            rw [hr2v]
            refine Branch.mk (fun z5 => ?_) (fun z5 => ?_)
            · have e6 : r2.2 = 6 := by simpa using z5
              rw [if_pos e6, List.append_nil] at hp1
              rw [Mi.minus_fin ha hb hp1 hz1]
              obtain ⟨ao, co, rfl⟩ := sit.own.form
              exact EndI.mk fun w9 h9 => ⟨ao, co, rfl, ((sit.at h9 (fun x hx => by simp at hx <;> first | omega | (subst hx; exact .inr ⟨by omega, by assumption⟩) | (rcases hx with rfl | rfl <;> first | exact .inl (by omega) | exact .inr ⟨by omega, by assumption⟩))).own).lower hw2s⟩
            have e6 : ¬ r2.2 = 6 := by simpa using z5
            rw [if_neg e6] at hp1
            refine Branch.mk (fun z6 => ?_) (fun z6 => ?_)
            · have e0 : ¬ r2.2 = 0 := by simpa using z6
              rw [if_neg e0] at hp1
              rw [Mi.minus_err ha hb (p := pre1) (y := r2) (q := Mi.go b ([0, 1, 2, 3, 4, 5].drop (k + 1)) r2.1) (by rw [← hp1]; simp) hz1 e0]
              exact EndI.mk fun w9 h9 => ⟨_, _, rfl, Own.nil⟩
            have e0 : r2.2 = 0 := by simpa using z6
            rw [if_pos e0, List.nil_append] at hp1
            refine Need.mk (by simp only [inK]; omega) (EndI.mk fun w9 h9 => ⟨((k + 1, r2.1, pre1), w9, tv), Cov.mk (by repeat' (first | exact trivial | refine And.intro rfl ?_)) rfl rfl rfl rfl rfl, rfl, ?_, by simp only; omega⟩)
            have sit9 := sit.at h9 (fun x hx => by simp at hx <;> first | omega | (subst hx; exact .inr ⟨by omega, by assumption⟩) | (rcases hx with rfl | rfl <;> first | exact .inl (by omega) | exact .inr ⟨by omega, by assumption⟩))
            exact ⟨hlt, sit9.below, sit9.size, sit9.ha, sit9.own, hr2 e0, hz1, by simp only; omega, hp1⟩
        · have e0 : ¬ r1.2 = 0 := by simpa using z4
          have e6 : r1.2 = 6 := by omega
          rw [if_pos e6, List.nil_append] at hpre
          obtain ⟨pre1, hpre1⟩ : ∃ p, p = pre := ⟨_, rfl⟩
          rw [← hpre1] at hpre hz sit
          have hp1 := hpre
          have hz1 := hz
          have hpl1 : pre1.length ≤ 2 * k + 1 := by rw [hpre1]; omega
          generalize sv = tv at sit n1 n9 ⊢
          refine DrawI.go (.tk 0 (.tk 1 (.tk 2 (.tk 3 (.tk 4 (.two 5 (.tk 6 (.tk 7 (.tk 8 (.ev 9 (.ev 10 (.tk 11 .done)))))) 9 (.ev 5 (.tk 6 (.tk 7 (.tk 8 (.ev 10 (.tk 11 .done)))))))))))) (by kernel_rfl) fun w8 h8 => ?_
          have sit := sit.at h8 (fun x hx => by simp at hx <;> first | omega | (subst hx; exact .inr ⟨by omega, by assumption⟩) | (rcases hx with rfl | rfl <;> first | exact .inl (by omega) | exact .inr ⟨by omega, by assumption⟩))
          refine Need.mk (by simp only; omega) ?_
          refine LoadI.mk ⟨_, ⟨by rw [show (((k : Nat) : Int).toNat * 1) = k by simp]; exact sit.ha.cells k _ (Mi.cell_get b hlt), by simp⟩, ?_⟩
          refine Both.mk ?_ ?_
          · skip
            apply CallI.use1
            focus (exact fun w6 h6 => rwith_any x hx0 k hlt (Zo.get b k) hbm w6)
            intro w6 v6 h6 hB6
            have sit := (sit.at h6 (fun x hx => by simp at hx <;> first | omega | (subst hx; exact .inr ⟨by omega, by assumption⟩) | (rcases hx with rfl | rfl <;> first | exact .inl (by omega) | exact .inr ⟨by omega, by assumption⟩))).go hw2s hB6
            rw [hr2v]
            refine NewI.mk fun b11 hb11 => ?_
            have hb11' := Nat.le_trans sit.size0 hb11
            have n11 : tv.ownBlock ≠ some b11 := fun e => by have := (sit.own.lt b11 e).2; omega
            have m11 := sit.ha.lt
            refine Branch.mk (fun z5 => ?_) (fun z5 => ?_)
            · have e6 : r2.2 = 6 := by simpa using z5
              rw [if_pos e6, List.append_nil] at hp1
              rw [Mi.minus_fin ha hb hp1 hz1]
              obtain ⟨ao, co, rfl⟩ := sit.own.form
              exact EndI.mk fun w9 h9 => ⟨ao, co, rfl, ((sit.at h9 (fun x hx => by simp at hx <;> first | omega | (subst hx; exact .inr ⟨by omega, by assumption⟩) | (rcases hx with rfl | rfl <;> first | exact .inl (by omega) | exact .inr ⟨by omega, by assumption⟩))).own).lower hw2s⟩
            have e6 : ¬ r2.2 = 6 := by simpa using z5
            rw [if_neg e6] at hp1
            refine Branch.mk (fun z6 => ?_) (fun z6 => ?_)
            · have e0 : ¬ r2.2 = 0 := by simpa using z6
              rw [if_neg e0] at hp1
              rw [Mi.minus_err ha hb (p := pre1) (y := r2) (q := Mi.go b ([0, 1, 2, 3, 4, 5].drop (k + 1)) r2.1) (by rw [← hp1]; simp) hz1 e0]
              exact EndI.mk fun w9 h9 => ⟨_, _, rfl, Own.nil⟩
            have e0 : r2.2 = 0 := by simpa using z6
            rw [if_pos e0, List.nil_append] at hp1
            refine Need.mk (by simp only [inK]; omega) (EndI.mk fun w9 h9 => ⟨((k + 1, r2.1, pre1), w9, tv), Cov.mk (by repeat' (first | exact trivial | refine And.intro rfl ?_)) rfl rfl rfl rfl rfl, rfl, ?_, by simp only; omega⟩)
            have sit9 := sit.at h9 (fun x hx => by simp at hx <;> first | omega | (subst hx; exact .inr ⟨by omega, by assumption⟩) | (rcases hx with rfl | rfl <;> first | exact .inl (by omega) | exact .inr ⟨by omega, by assumption⟩))
            exact ⟨hlt, sit9.below, sit9.size, sit9.ha, sit9.own, hr2 e0, hz1, by simp only; omega, hp1⟩
          · skip
            refine NewI.mk fun b11 hb11 => ?_
            have hb11' := Nat.le_trans sit.size0 hb11
            have n11 : tv.ownBlock ≠ some b11 := fun e => by have := (sit.own.lt b11 e).2; omega
            have m11 := sit.ha.lt
            apply CallI.use1
            focus (exact fun w6 h6 => rwith_any x hx0 k hlt (Zo.get b k) hbm w6)
            intro w6 v6 h6 hB6
            have sit := (sit.at h6 (fun x hx => by simp at hx <;> first | omega | (subst hx; exact .inr ⟨by omega, by assumption⟩) | (rcases hx with rfl | rfl <;> first | exact .inl (by omega) | exact .inr ⟨by omega, by assumption⟩))).go hw2s hB6
            rw [hr2v]
            refine Branch.mk (fun z5 => ?_) (fun z5 => ?_)
            · have e6 : r2.2 = 6 := by simpa using z5
              rw [if_pos e6, List.append_nil] at hp1
              rw [Mi.minus_fin ha hb hp1 hz1]
              obtain ⟨ao, co, rfl⟩ := sit.own.form
              exact EndI.mk fun w9 h9 => ⟨ao, co, rfl, ((sit.at h9 (fun x hx => by simp at hx <;> first | omega | (subst hx; exact .inr ⟨by omega, by assumption⟩) | (rcases hx with rfl | rfl <;> first | exact .inl (by omega) | exact .inr ⟨by omega, by assumption⟩))).own).lower hw2s⟩
            have e6 : ¬ r2.2 = 6 := by simpa using z5
            rw [if_neg e6] at hp1
            refine Branch.mk (fun z6 => ?_) (fun z6 => ?_)
            · have e0 : ¬ r2.2 = 0 := by simpa using z6
              rw [if_neg e0] at hp1
              rw [Mi.minus_err ha hb (p := pre1) (y := r2) (q := Mi.go b ([0, 1, 2, 3, 4, 5].drop (k + 1)) r2.1) (by rw [← hp1]; simp) hz1 e0]
              exact EndI.mk fun w9 h9 => ⟨_, _, rfl, Own.nil⟩
            have e0 : r2.2 = 0 := by simpa using z6
            rw [if_pos e0, List.nil_append] at hp1
            refine Need.mk (by simp only [inK]; omega) (EndI.mk fun w9 h9 => ⟨((k + 1, r2.1, pre1), w9, tv), Cov.mk (by repeat' (first | exact trivial | refine And.intro rfl ?_)) rfl rfl rfl rfl rfl, rfl, ?_, by simp only; omega⟩)
            have sit9 := sit.at h9 (fun x hx => by simp at hx <;> first | omega | (subst hx; exact .inr ⟨by omega, by assumption⟩) | (rcases hx with rfl | rfl <;> first | exact .inl (by omega) | exact .inr ⟨by omega, by assumption⟩))
            exact ⟨hlt, sit9.below, sit9.size, sit9.ha, sit9.own, hr2 e0, hz1, by simp only; omega, hp1⟩
    · skip
      refine NewI.mk fun b9 hb9 => ?_
      have hb9' := Nat.le_trans sit.size0 hb9
      have n9 : sv.ownBlock ≠ some b9 := fun e => by have := (hrow b9 e).2; omega
      have m9 := hbx.lt
      apply CallI.use1
      focus (exact fun w3 h3 => rother11_any k hlt w3)
      intro w3 v3 h3 hB3
      have sit := (sit.at h3 (fun x hx => by simp at hx <;> first | omega | (subst hx; exact .inr ⟨by omega, by assumption⟩) | (rcases hx with rfl | rfl <;> first | exact .inl (by omega) | exact .inr ⟨by omega, by assumption⟩))).go hw2s hB3
      apply CallI.use1
      focus (exact fun w4 h4 => hother w4)
      intro w4 v4 h4 hB4
      have sit := (sit.at h4 (fun x hx => by simp at hx <;> first | omega | (subst hx; exact .inr ⟨by omega, by assumption⟩) | (rcases hx with rfl | rfl <;> first | exact .inl (by omega) | exact .inr ⟨by omega, by assumption⟩))).go hw2s hB4
      apply CallI.use1
      focus (exact fun w5 h5 => rwith_any x hx0 (Mi.other k) hok (Bd.not (Zo.get b k)).1 hnm w5)
      intro w5 v5 h5 hB5
      have sit := (sit.at h5 (fun x hx => by simp at hx <;> first | omega | (subst hx; exact .inr ⟨by omega, by assumption⟩) | (rcases hx with rfl | rfl <;> first | exact .inl (by omega) | exact .inr ⟨by omega, by assumption⟩))).go hw2s hB5
      rw [hr1v]
      refine Branch.mk (fun z3 => ?_) (fun z3 => ?_)
      · have e8 : r1.2 = 8 := by simpa using z3
        rw [if_neg (by omega)] at hpre
        rw [Mi.minus_err ha hb (p := pre) (y := r1) (by rw [← hpre]; simp; rfl) hz (by omega), e8]
        exact EndI.mk fun w9 h9 => ⟨_, _, rfl, Own.nil⟩
      have e8 : ¬ r1.2 = 8 := by simpa using z3
      refine Branch.mk (fun z4 => ?_) (fun z4 => ?_)
      · have e0 : r1.2 = 0 := by simpa using z4
        rw [if_neg (by omega)] at hpre
        obtain ⟨pre1, hpre1⟩ : ∃ p, p = pre ++ [r1] := ⟨_, rfl⟩
        have hp1 : pre1 ++ (if r2.2 = 6 then [] else (if r2.2 = 0 then [] else [r2]) ++ Mi.go b ([0, 1, 2, 3, 4, 5].drop (k + 1)) r2.1) = Mi.parts a b := by rw [hpre1, List.append_assoc]; exact hpre
        have hz1 : ∀ x : Zn × Int, x ∈ pre1 → x.2 = 0 := fun y hy => by
          rw [hpre1] at hy
          rcases List.mem_append.1 hy with hy | hy
          · exact hz y hy
          · rw [List.mem_singleton.1 hy]; exact e0
        have hpl1 : pre1.length ≤ 2 * k + 1 := by rw [hpre1]; simp; omega
        refine NewI.mk fun b10 hb10 => ?_
        have hb10' := Nat.le_trans sit.size0 hb10
        refine GenN.app (α := Zn) elZ (pre.map (·.1)) [r1.1] w2.heap.size (fun w5 h5 => (sit.at h5 (fun x hx => by simp at hx <;> first | omega | (subst hx; exact .inr ⟨by omega, by assumption⟩) | (rcases hx with rfl | rfl <;> first | exact .inl (by omega) | exact .inr ⟨by omega, by assumption⟩))).own) (fun w5 h5 => src_own h5 2 rfl rfl rfl rfl) (by unfold maxLen; simp; omega) (by simp; omega) (fun w5 h5 => Nat.le_trans sit.size h5.size)
          (fun w5 w6 h5 hg => keep_grown h5 hg (fun g hg' => ⟨Nat.le_trans hw2s (hrow g hg').1, fun hm => by have := hrow g hg'; simp at hm; omega⟩)) fun tv w5 w6 h5 hg hO' => ?_
        obtain ⟨at_, ct, rfl⟩ := hO'.form
        have emap : pre.map (·.1) ++ [r1.1] = pre1.map (·.1) := by rw [hpre1]; simp
        rw [emap] at hO' ⊢
        have sit := (sit.at h5 (fun x hx => by simp at hx <;> first | omega | (subst hx; exact .inr ⟨by omega, by assumption⟩) | (rcases hx with rfl | rfl <;> first | exact .inl (by omega) | exact .inr ⟨by omega, by assumption⟩))).grow hw2s nB hg hO'
        have n1 : (Value.slice at_ (pre1.map (·.1)).length ct).ownBlock ≠ some b1 := fun e => by have := (sit.own.lt b1 e).1; omega
        generalize Value.slice at_ (pre1.map (·.1)).length ct = tv at sit n1 ⊢
        refine DrawI.go (.tk 0 (.tk 1 (.tk 2 (.tk 3 (.tk 4 (.two 5 (.tk 6 (.tk 7 (.tk 8 (.ev 9 (.ev 10 (.tk 11 .done)))))) 9 (.ev 5 (.tk 6 (.tk 7 (.tk 8 (.ev 10 (.tk 11 .done)))))))))))) (by kernel_rfl) fun w8 h8 => ?_
        have sit := sit.at h8 (fun x hx => by simp at hx <;> first | omega | (subst hx; exact .inr ⟨by omega, by assumption⟩) | (rcases hx with rfl | rfl <;> first | exact .inl (by omega) | exact .inr ⟨by omega, by assumption⟩))
        refine Need.mk (by simp only; omega) ?_
        refine LoadI.mk ⟨_, ⟨by rw [show (((k : Nat) : Int).toNat * 1) = k by simp]; exact sit.ha.cells k _ (Mi.cell_get b hlt), by simp⟩, ?_⟩
        refine Both.mk ?_ ?_
        · skip
          apply CallI.use1
          focus (exact fun w6 h6 => rwith_any x hx0 k hlt (Zo.get b k) hbm w6)
          intro w6 v6 h6 hB6
          have sit := (sit.at h6 (fun x hx => by simp at hx <;> first | omega | (subst hx; exact .inr ⟨by omega, by assumption⟩) | (rcases hx with rfl | rfl <;> first | exact .inl (by omega) | exact .inr ⟨by omega, by assumption⟩))).go hw2s hB6
          rw [hr2v]
          refine NewI.mk fun b11 hb11 => ?_
          have hb11' := Nat.le_trans sit.size0 hb11
          have n11 : tv.ownBlock ≠ some b11 := fun e => by have := (sit.own.lt b11 e).2; omega
          have m11 := sit.ha.lt
          refine Branch.mk (fun z5 => ?_) (fun z5 => ?_)
          · have e6 : r2.2 = 6 := by simpa using z5
            rw [if_pos e6, List.append_nil] at hp1
            rw [Mi.minus_fin ha hb hp1 hz1]
            obtain ⟨ao, co, rfl⟩ := sit.own.form
            exact EndI.mk fun w9 h9 => ⟨ao, co, rfl, ((sit.at h9 (fun x hx => by simp at hx <;> first | omega | (subst hx; exact .inr ⟨by omega, by assumption⟩) | (rcases hx with rfl | rfl <;> first | exact .inl (by omega) | exact .inr ⟨by omega, by assumption⟩))).own).lower hw2s⟩
          have e6 : ¬ r2.2 = 6 := by simpa using z5
          rw [if_neg e6] at hp1
          refine Branch.mk (fun z6 => ?_) (fun z6 => ?_)
          · have e0 : ¬ r2.2 = 0 := by simpa using z6
            rw [if_neg e0] at hp1
            rw [Mi.minus_err ha hb (p := pre1) (y := r2) (q := Mi.go b ([0, 1, 2, 3, 4, 5].drop (k + 1)) r2.1) (by rw [← hp1]; simp) hz1 e0]
            exact EndI.mk fun w9 h9 => ⟨_, _, rfl, Own.nil⟩
          have e0 : r2.2 = 0 := by simpa using z6
          rw [if_pos e0, List.nil_append] at hp1
          refine Need.mk (by simp only [inK]; omega) (EndI.mk fun w9 h9 => ⟨((k + 1, r2.1, pre1), w9, tv), Cov.mk (by repeat' (first | exact trivial | refine And.intro rfl ?_)) rfl rfl rfl rfl rfl, rfl, ?_, by simp only; omega⟩)
          have sit9 := sit.at h9 (fun x hx => by simp at hx <;> first | omega | (subst hx; exact .inr ⟨by omega, by assumption⟩) | (rcases hx with rfl | rfl <;> first | exact .inl (by omega) | exact .inr ⟨by omega, by assumption⟩))
          exact ⟨hlt, sit9.below, sit9.size, sit9.ha, sit9.own, hr2 e0, hz1, by simp only; omega, hp1⟩
        · skip
          refine NewI.mk fun b11 hb11 => ?_
          have hb11' := Nat.le_trans sit.size0 hb11
          have n11 : tv.ownBlock ≠ some b11 := fun e => by have := (sit.own.lt b11 e).2; omega
          have m11 := sit.ha.lt
          apply CallI.use1
          focus (exact fun w6 h6 => rwith_any x hx0 k hlt (Zo.get b k) hbm w6)
          intro w6 v6 h6 hB6
          have sit := (sit.at h6 (fun x hx => by simp at hx <;> first | omega | (subst hx; exact .inr ⟨by omega, by assumption⟩) | (rcases hx with rfl | rfl <;> first | exact .inl (by omega) | exact .inr ⟨by omega, by assumption⟩))).go hw2s hB6
          rw [hr2v]
          refine Branch.mk (fun z5 => ?_) (fun z5 => ?_)
          · have e6 : r2.2 = 6 := by simpa using z5
            rw [if_pos e6, List.append_nil] at hp1
            rw [Mi.minus_fin ha hb hp1 hz1]
            obtain ⟨ao, co, rfl⟩ := sit.own.form
            exact EndI.mk fun w9 h9 => ⟨ao, co, rfl, ((sit.at h9 (fun x hx => by simp at hx <;> first | omega | (subst hx; exact .inr ⟨by omega, by assumption⟩) | (rcases hx with rfl | rfl <;> first | exact .inl (by omega) | exact .inr ⟨by omega, by assumption⟩))).own).lower hw2s⟩
          have e6 : ¬ r2.2 = 6 := by simpa using z5
          rw [if_neg e6] at hp1
          refine Branch.mk (fun z6 => ?_) (fun z6 => ?_)
          · have e0 : ¬ r2.2 = 0 := by simpa using z6
            rw [if_neg e0] at hp1
            rw [Mi.minus_err ha hb (p := pre1) (y := r2) (q := Mi.go b ([0, 1, 2, 3, 4, 5].drop (k + 1)) r2.1) (by rw [← hp1]; simp) hz1 e0]
            exact EndI.mk fun w9 h9 => ⟨_, _, rfl, Own.nil⟩
          have e0 : r2.2 = 0 := by simpa using z6
          rw [if_pos e0, List.nil_append] at hp1
          refine Need.mk (by simp only [inK]; omega) (EndI.mk fun w9 h9 => ⟨((k + 1, r2.1, pre1), w9, tv), Cov.mk (by repeat' (first | exact trivial | refine And.intro rfl ?_)) rfl rfl rfl rfl rfl, rfl, ?_, by simp only; omega⟩)
          have sit9 := sit.at h9 (fun x hx => by simp at hx <;> first | omega | (subst hx; exact .inr ⟨by omega, by assumption⟩) | (rcases hx with rfl | rfl <;> first | exact .inl (by omega) | exact .inr ⟨by omega, by assumption⟩))
          exact ⟨hlt, sit9.below, sit9.size, sit9.ha, sit9.own, hr2 e0, hz1, by simp only; omega, hp1⟩
      · have e0 : ¬ r1.2 = 0 := by simpa using z4
        have e6 : r1.2 = 6 := by omega
        rw [if_pos e6, List.nil_append] at hpre
        obtain ⟨pre1, hpre1⟩ : ∃ p, p = pre := ⟨_, rfl⟩
        rw [← hpre1] at hpre hz sit
        have hp1 := hpre
        have hz1 := hz
        have hpl1 : pre1.length ≤ 2 * k + 1 := by rw [hpre1]; omega
        generalize sv = tv at sit n1 n9 ⊢
        refine DrawI.go (.tk 0 (.tk 1 (.tk 2 (.tk 3 (.tk 4 (.two 5 (.tk 6 (.tk 7 (.tk 8 (.ev 9 (.ev 10 (.tk 11 .done)))))) 9 (.ev 5 (.tk 6 (.tk 7 (.tk 8 (.ev 10 (.tk 11 .done)))))))))))) (by kernel_rfl) fun w8 h8 => ?_
        have sit := sit.at h8 (fun x hx => by simp at hx <;> first | omega | (subst hx; exact .inr ⟨by omega, by assumption⟩) | (rcases hx with rfl | rfl <;> first | exact .inl (by omega) | exact .inr ⟨by omega, by assumption⟩))
        refine Need.mk (by simp only; omega) ?_
        refine LoadI.mk ⟨_, ⟨by rw [show (((k : Nat) : Int).toNat * 1) = k by simp]; exact sit.ha.cells k _ (Mi.cell_get b hlt), by simp⟩, ?_⟩
        refine Both.mk ?_ ?_
        · skip
          apply CallI.use1
          focus (exact fun w6 h6 => rwith_any x hx0 k hlt (Zo.get b k) hbm w6)
          intro w6 v6 h6 hB6
          have sit := (sit.at h6 (fun x hx => by simp at hx <;> first | omega | (subst hx; exact .inr ⟨by omega, by assumption⟩) | (rcases hx with rfl | rfl <;> first | exact .inl (by omega) | exact .inr ⟨by omega, by assumption⟩))).go hw2s hB6
          rw [hr2v]
          refine NewI.mk fun b11 hb11 => ?_
          have hb11' := Nat.le_trans sit.size0 hb11
          have n11 : tv.ownBlock ≠ some b11 := fun e => by have := (sit.own.lt b11 e).2; omega
          have m11 := sit.ha.lt
          refine Branch.mk (fun z5 => ?_) (fun z5 => ?_)
          · have e6 : r2.2 = 6 := by simpa using z5
            rw [if_pos e6, List.append_nil] at hp1
            rw [Mi.minus_fin ha hb hp1 hz1]
            obtain ⟨ao, co, rfl⟩ := sit.own.form
            exact EndI.mk fun w9 h9 => ⟨ao, co, rfl, ((sit.at h9 (fun x hx => by simp at hx <;> first | omega | (subst hx; exact .inr ⟨by omega, by assumption⟩) | (rcases hx with rfl | rfl <;> first | exact .inl (by omega) | exact .inr ⟨by omega, by assumption⟩))).own).lower hw2s⟩
          have e6 : ¬ r2.2 = 6 := by simpa using z5
          rw [if_neg e6] at hp1
          refine Branch.mk (fun z6 => ?_) (fun z6 => ?_)
          · have e0 : ¬ r2.2 = 0 := by simpa using z6
            rw [if_neg e0] at hp1
            rw [Mi.minus_err ha hb (p := pre1) (y := r2) (q := Mi.go b ([0, 1, 2, 3, 4, 5].drop (k + 1)) r2.1) (by rw [← hp1]; simp) hz1 e0]
            exact EndI.mk fun w9 h9 => ⟨_, _, rfl, Own.nil⟩
          have e0 : r2.2 = 0 := by simpa using z6
          rw [if_pos e0, List.nil_append] at hp1
          refine Need.mk (by simp only [inK]; omega) (EndI.mk fun w9 h9 => ⟨((k + 1, r2.1, pre1), w9, tv), Cov.mk (by repeat' (first | exact trivial | refine And.intro rfl ?_)) rfl rfl rfl rfl rfl, rfl, ?_, by simp only; omega⟩)
          have sit9 := sit.at h9 (fun x hx => by simp at hx <;> first | omega | (subst hx; exact .inr ⟨by omega, by assumption⟩) | (rcases hx with rfl | rfl <;> first | exact .inl (by omega) | exact .inr ⟨by omega, by assumption⟩))
          exact ⟨hlt, sit9.below, sit9.size, sit9.ha, sit9.own, hr2 e0, hz1, by simp only; omega, hp1⟩
        · skip
          refine NewI.mk fun b11 hb11 => ?_
          have hb11' := Nat.le_trans sit.size0 hb11
          have n11 : tv.ownBlock ≠ some b11 := fun e => by have := (sit.own.lt b11 e).2; omega
          have m11 := sit.ha.lt
          apply CallI.use1
          focus (exact fun w6 h6 => rwith_any x hx0 k hlt (Zo.get b k) hbm w6)
          intro w6 v6 h6 hB6
          have sit := (sit.at h6 (fun x hx => by simp at hx <;> first | omega | (subst hx; exact .inr ⟨by omega, by assumption⟩) | (rcases hx with rfl | rfl <;> first | exact .inl (by omega) | exact .inr ⟨by omega, by assumption⟩))).go hw2s hB6
          rw [hr2v]
          refine Branch.mk (fun z5 => ?_) (fun z5 => ?_)
          · have e6 : r2.2 = 6 := by simpa using z5
            rw [if_pos e6, List.append_nil] at hp1
            rw [Mi.minus_fin ha hb hp1 hz1]
            obtain ⟨ao, co, rfl⟩ := sit.own.form
            exact EndI.mk fun w9 h9 => ⟨ao, co, rfl, ((sit.at h9 (fun x hx => by simp at hx <;> first | omega | (subst hx; exact .inr ⟨by omega, by assumption⟩) | (rcases hx with rfl | rfl <;> first | exact .inl (by omega) | exact .inr ⟨by omega, by assumption⟩))).own).lower hw2s⟩
          have e6 : ¬ r2.2 = 6 := by simpa using z5
          rw [if_neg e6] at hp1
          refine Branch.mk (fun z6 => ?_) (fun z6 => ?_)
          · have e0 : ¬ r2.2 = 0 := by simpa using z6
            rw [if_neg e0] at hp1
            rw [Mi.minus_err ha hb (p := pre1) (y := r2) (q := Mi.go b ([0, 1, 2, 3, 4, 5].drop (k + 1)) r2.1) (by rw [← hp1]; simp) hz1 e0]
            exact EndI.mk fun w9 h9 => ⟨_, _, rfl, Own.nil⟩
          have e0 : r2.2 = 0 := by simpa using z6
          rw [if_pos e0, List.nil_append] at hp1
          refine Need.mk (by simp only [inK]; omega) (EndI.mk fun w9 h9 => ⟨((k + 1, r2.1, pre1), w9, tv), Cov.mk (by repeat' (first | exact trivial | refine And.intro rfl ?_)) rfl rfl rfl rfl rfl, rfl, ?_, by simp only; omega⟩)
          have sit9 := sit.at h9 (fun x hx => by simp at hx <;> first | omega | (subst hx; exact .inr ⟨by omega, by assumption⟩) | (rcases hx with rfl | rfl <;> first | exact .inl (by omega) | exact .inr ⟨by omega, by assumption⟩))
          exact ⟨hlt, sit9.below, sit9.size, sit9.ha, sit9.own, hr2 e0, hz1, by simp only; omega, hp1⟩
  · have hge : k = 6 := by have := of_decide_eq_false z1; simp only at this; omega
    subst hge
    have hp : pre = Mi.parts a b := by simpa [Mi.go] using hpre
    rw [Mi.minus_fin ha hb hp hz]
    obtain ⟨ao, co, rfl⟩ := hO.form
    exact EndI.mk fun w9 h9 => ⟨ao, co, rfl, (hO.below (atB h9 (by simp))).lower hw1.size⟩
end Go.Proofs.YtgjeeghhhfpkoaaGreat

/-
  The document's answer of layer 11, by the engine: Rest.
-/
namespace Go.Proofs.YtgjeeghhhfpkoaaGreat
set_option linter.unusedVariables false
set_option linter.unusedSimpArgs false
set_option maxRecDepth 100000
open Go.RowKit Go.Proofs.YtgjeeghhhfpkoaaGreat.Eng Enc

theorem Mi.minus_chk {x b : Zn} (hx : Zo.chk x = 0) (hb : Zo.chk b = 0) (h : (Mi.minus x b).2 = 0) : ∀ y, y ∈ (Mi.minus x b).1 → Zo.chk y = 0 := fun y hy => (Mi.minus_ok hx hb h y hy).1
open Mi in
theorem rrest_any (z : Zn) (hz : Zo.chk z = 0) (l : List Zn) (hl : ∀ b, b ∈ l → Zo.chk b = 0) (a : Option Addr) (cap : Nat) (w : World) (hS : Sl w.heap.size w (.slice a l.length cap) l) :
    Calls Tryz.prog 126 #[.agg #[.int .i64 z.a, .int .i64 z.b, .int .i64 z.c, .int .i64 z.d, .int .i64 z.e, .int .i64 z.f], .slice a l.length cap] w (Ret w fun v w' => ∃ a' c', v = .tuple #[.slice a' (Mi.outer l [z]).1.length c', .int .i64 (Mi.outer l [z]).2] ∧ Sl w'.heap.size w' (.slice a' (Mi.outer l [z]).1.length c') (Mi.outer l [z]).1) := by
  refine fun_ret 0 w Tryz.func126 (args := [.agg [.val (.int .i64 z.a), .val (.int .i64 z.b), .val (.int .i64 z.c), .val (.int .i64 z.d), .val (.int .i64 z.e), .val (.int .i64 z.f)], .val (.slice a l.length cap)]) rfl rfl ?_
  obtain ⟨_, _, hfe, hcap1, hcap2, _⟩ := hS.form
  injection hfe with _ _ hfe
  subst hfe
  unfold maxLen at hcap2
  refine NewI.mk fun b1 hb1 => ?_
  refine NewI.mk fun b2 hb2 => ?_
  have hb2w : w.heap.size ≤ b2 := hb2
  refine LoopI.invC (α := Nat × World × Value × List Zn) (fun y => [(7, .val (.int .i64 y.1)), (6, .val y.2.2.1)]) (fun y => y.2.1)
    (fun y => y.1 ≤ l.length ∧ Below w.heap.size w y.2.1 ∧ Sl y.2.1.heap.size y.2.1 y.2.2.1 y.2.2.2 ∧ y.2.2.2.length ≤ 4096 ∧ (∀ x, x ∈ y.2.2.2 → Zo.chk x = 0) ∧ b1 < y.2.1.heap.size ∧ b2 < y.2.1.heap.size ∧ outer l [z] = outer (l.drop y.1) y.2.2.2) (fun y => l.length - y.1) ?_ ?_
  · intro w3 h3
    exact ⟨(0, w3, .slice (some ⟨b2, 0, none⟩) 1 1, [z]), Cov.mk (by repeat' (first | exact trivial | refine And.intro rfl ?_)) rfl rfl rfl rfl rfl, rfl, Nat.zero_le _, h3.below, Sl.own (l := [z]) h3 1 rfl rfl rfl (Nat.le_refl _) (by simp [maxLen]), by simp, by simp [hz], h3.lt b1 (by simp), h3.lt b2 (by simp), rfl⟩
  rintro ⟨i, V2, ov, out⟩ ⟨hi, hV2, hSo, hol, hoc, hq1, hq2, heq⟩
  simp only at hi hV2 hSo hol hoc hq1 hq2 heq
  obtain ⟨ao, co, rfl, _⟩ := hSo.form
  refine Branch.mk (fun hc3 => ?_) (fun hc3 => ?_)
  · have hlt : i < l.length := by have := of_decide_eq_true hc3; simp only at this; omega
    have hg := List.getElem?_eq_getElem (l := l) (i := i) hlt
    have hd := List.drop_eq_getElem_cons hlt
    generalize l[i] = b at hg hd
    have hbc := hl b (List.mem_of_getElem? hg)
    rw [hd, outer_cons] at heq
    have st2 := Stay.start (w0 := ⟨w, w.heap.size, Nat.le_refl _⟩) hV2
    refine LoopI.invC (α := Nat × World × Value × List Zn) (fun y => [(9, .val (.int .i64 y.1)), (8, .val y.2.2.1)]) (fun y => y.2.1)
      (fun y => y.1 ≤ out.length ∧ (∃ base, Lp ⟨w, w.heap.size, Nat.le_refl _⟩ [V2] [b1, b2] 39 base y.2.1 y.2.2.1 y.2.2.2) ∧ y.2.2.2.length ≤ 4096 ∧ (∀ x, x ∈ y.2.2.2 → Zo.chk x = 0) ∧ inner b out [] = inner b (out.drop y.1) y.2.2.2) (fun y => out.length - y.1) ?_ ?_
    · intro w5 h5
      exact ⟨(0, w5, .slice none 0 0, []), Cov.mk (by repeat' (first | exact trivial | refine And.intro rfl ?_)) rfl rfl rfl rfl rfl, rfl, Nat.zero_le _, ⟨_, Lp.start st2 h5 (fun x hx => by simp at hx <;> omega)⟩, by simp, by simp, rfl⟩
    rintro ⟨j, V5, nv, next⟩ ⟨hj, ⟨base, lp⟩, hnl, hnc, hin⟩
    simp only at hj lp hnl hnc hin
    obtain ⟨an, cn, rfl⟩ := lp.own.form
    refine Branch.mk (fun hc4 => ?_) (fun hc4 => ?_)
    · have hlt2 : j < out.length := by have := of_decide_eq_true hc4; simp only at this; omega
      have hg2 := List.getElem?_eq_getElem (l := out) (i := j) hlt2
      have hd2 := List.drop_eq_getElem_cons hlt2
      generalize out[j] = x at hg2 hd2
      have hxc := hoc x (List.mem_of_getElem? hg2)
      rw [hd2, inner_cons] at hin
      refine DrawI.go (.tk 0 (.tk 1 (.tk 2 (.tk 3 (.tk 4 (.tk 5 (.tk 6 (.tk 7 (.ev 8 (.tk 9 (.tk 10 (.tk 11 (.tk 12 (.tk 13 .done)))))))))))))) (by kernel_rfl) fun w4 h4 => ?_
      have lp4 := lp.at h4 (by simp)
      have hSo5 := hSo.st lp4.st
      have hS5 := hS.go h4.below h4.below.size
      refine hSo5.idx hg2 fun ad2 had2 => ?_
      refine hSo5.ld hg2 had2 (Below.refl _ _) (by simp) ?_
      refine hS5.idx hg fun ad had => ?_
      refine hS5.ld hg had (Below.refl _ _) (by simp) ?_
      apply CallI.use
      focus (exact fun w6 h6 => rless_any x b hxc hbc w6)
      rintro v w6 v6 h6 hB6 ⟨am, cm, rfl, hOm⟩
      have lp6 := (lp4.at h6 (by simp)).go hB6
      have hml := minus_len x b
      refine Branch.mk (fun hc5 => ?_) (fun hc5 => ?_)
      · have he : (minus x b).2 ≠ 0 := by simpa using hc5
        rw [if_pos he] at hin
        rw [hin, if_pos he] at heq
        rw [heq]
        exact EndI.mk fun w9 h9 => ⟨_, _, rfl, Sl.nil⟩
      have he : (minus x b).2 = 0 := by simpa using hc5
      rw [if_neg (by simp [he])] at hin
      have hmc := Mi.minus_chk hxc hbc he
      have h66 := h6.size
      have h67 := hB6.size
      refine GenN.appR (α := Zn) elZ lp6 (fun y hy hm => by have h1 := lp.own.lt y hy; have q1 := lp.blk b1 (by simp); have q2 := lp.blk b2 (by simp); simp at hm; omega) (by simp) (minus x b).1 (fun w8 h8 => (hOm.sl.go h8.go h8.size).src) (by omega) (by decide) fun a' c' w8 w9 h8 lp9 hsz hbl => ?_
      refine Branch.mk (fun hc6 => ?_) (fun hc6 => ?_)
      · have h4 : 4096 < (next ++ (minus x b).1).length := by have : (4096 : Int) < (next ++ (minus x b).1).length := by simpa using hc6
                                                              omega
        rw [if_pos h4] at hin
        rw [hin, if_pos (by decide)] at heq
        rw [heq]
        exact EndI.mk fun w9 h9 => ⟨_, _, rfl, Sl.nil⟩
      have h4 : ¬ 4096 < (next ++ (minus x b).1).length := by have : ¬ (4096 : Int) < (next ++ (minus x b).1).length := by simpa using hc6
                                                              omega
      rw [if_neg h4] at hin
      have ho : (out.length : Int) ≤ 4096 := by omega
      refine Need.mk (by simp only [inK]; omega) (EndI.mk fun w10 h10 => ⟨(j + 1, w10, .slice a' (next ++ (minus x b).1).length c', next ++ (minus x b).1), Cov.mk (by repeat' (first | exact trivial | refine And.intro rfl ?_)) rfl rfl rfl rfl rfl, rfl, ⟨hlt2, ⟨base, ?_⟩, Nat.le_of_not_lt h4, fun y hy => (List.mem_append.1 hy).elim (hnc y) (hmc y), hin⟩, by simp only; omega⟩)
      exact lp9.at h10 (by simp)
    · have hge2 : j = out.length := by have := of_decide_eq_false hc4; simp only at this; omega
      subst hge2
      rw [List.drop_length] at hin
      have hin : inner b out [] = (next, 0) := hin
      rw [hin, if_neg (by simp)] at heq
      have hs5 := lp.size
      have q1 := lp.blk b1 (by simp)
      have q2 := lp.blk b2 (by simp)
      refine Need.mk (by simp only [inK]; omega) (EndI.mk fun w10 h10 => ⟨(i + 1, w10, .slice an next.length cn, next), Cov.mk (by repeat' (first | exact trivial | refine And.intro rfl ?_)) rfl rfl rfl rfl rfl, rfl, ⟨hlt, h10.below, (lp.at h10 (by simp)).own.sl, hnl, hnc, Nat.lt_of_lt_of_le (Nat.lt_of_lt_of_le q1 hs5) h10.size, Nat.lt_of_lt_of_le (Nat.lt_of_lt_of_le q2 hs5) h10.size, heq⟩, by simp only; omega⟩)
  · have hge : i = l.length := by have := of_decide_eq_false hc3; simp only at this; omega
    subst hge
    rw [List.drop_length] at heq
    rw [heq]
    exact EndI.mk fun w9 h9 => ⟨_, _, rfl, hSo.go h9.go h9.size⟩
end Go.Proofs.YtgjeeghhhfpkoaaGreat

/-
  The document's answer of layer 12, by the engine: Check, Covered, In, AllCovered, All.
-/
namespace Go.Proofs.YtgjeeghhhfpkoaaGreat
set_option linter.unusedVariables false
set_option linter.unusedSimpArgs false
set_option maxRecDepth 100000
open Go.RowKit Go.Proofs.YtgjeeghhhfpkoaaGreat.Eng Enc

namespace Cv
theorem checked_two {a b : List Zn} : (a.length ≤ 4096 ∧ b.length ≤ 4096 ∧ (∀ z, z ∈ a → Zo.chk z = 0) ∧ (∀ z, z ∈ b → Zo.chk z = 0) → checked [a, b] = 0) ∧ (4096 < a.length ∨ 4096 < b.length → checked [a, b] = 4) ∧ (a.length ≤ 4096 → b.length ≤ 4096 → ((∃ z, z ∈ a ∧ Zo.chk z ≠ 0) ∨ ∃ z, z ∈ b ∧ Zo.chk z ≠ 0) → checked [a, b] = 8) := by
  unfold checked
  simp only [List.any_cons, List.any_nil, Bool.or_false, Bool.or_eq_true, decide_eq_true_eq]
  have ho : ∀ l : List Zn, l.any odd = true ↔ ∃ z, z ∈ l ∧ Zo.chk z ≠ 0 := fun l => by
    rw [List.any_eq_true]
    simp [odd]
  simp only [ho]
  refine ⟨fun ⟨h1, h2, h3, h4⟩ => ?_, fun h => ?_, fun h1 h2 h3 => ?_⟩
  · rw [if_neg (by omega), if_neg]
    rintro (⟨z, hz, hc⟩ | ⟨z, hz, hc⟩)
    · exact hc (h3 z hz)
    · exact hc (h4 z hz)
  · rw [if_pos h]
  · rw [if_neg (by omega), if_pos h3]
theorem checked_zero {a b : List Zn} (h : checked [a, b] = 0) : a.length ≤ 4096 ∧ b.length ≤ 4096 ∧ (∀ z, z ∈ a → Zo.chk z = 0) ∧ ∀ z, z ∈ b → Zo.chk z = 0 := by
  obtain ⟨c1, c2, c3⟩ := checked_two (a := a) (b := b)
  have h1 : a.length ≤ 4096 := by
    apply Classical.byContradiction; intro hn; rw [c2 (.inl (by omega))] at h; cases h
  have h2 : b.length ≤ 4096 := by
    apply Classical.byContradiction; intro hn; rw [c2 (.inr (by omega))] at h; cases h
  refine ⟨h1, h2, fun z hz => ?_, fun z hz => ?_⟩
  · apply Classical.byContradiction; intro hn; rw [c3 h1 h2 (.inl ⟨z, hz, hn⟩)] at h; cases h
  · apply Classical.byContradiction; intro hn; rw [c3 h1 h2 (.inr ⟨z, hz, hn⟩)] at h; cases h
/-- the document's cover, of what may be. -/
def covered (z : Zn) (l : List Zn) : Bool × Int := (decide ((Mi.outer l [z]).2 = 0) && decide ((Mi.outer l [z]).1.length = 0), (Mi.outer l [z]).2)
theorem left_outer {z : Zn} {l : List Zn} (hz : Zo.chk z = 0) (hl : ∀ b, b ∈ l → Zo.chk b = 0) : Mi.left z l = Mi.outer l [z] := by
  unfold Mi.left
  rw [if_neg (by simp [hz]), if_neg (by rw [List.any_eq_true]; rintro ⟨x, hx, h⟩; simp [hl x hx] at h)]
theorem covered_in {z : Zn} {l : List Zn} (h4 : l.length ≤ 4096) (hz : Zo.chk z = 0) (hl : ∀ b, b ∈ l → Zo.chk b = 0) : covered z l = in_ z l := by
  unfold in_ covered
  rw [checked_two.1 ⟨h4, by simp, hl, by simp [hz]⟩, if_pos rfl, left_outer hz hl]
end Cv
theorem rcheck12_any (l m : List Zn) (hl : ∀ z, z ∈ l → Zo.i64 z) (hm : ∀ z, z ∈ m → Zo.i64 z) (a b : Option Addr) (ca cb : Nat) (w : World) (hS : Sl w.heap.size w (.slice a l.length ca) l) (hT : Sl w.heap.size w (.slice b m.length cb) m) :
    Calls Tryz.prog 88 #[.slice a l.length ca, .slice b m.length cb] w fun e w' => e = .returned (.int .i64 (Cv.checked [l, m])) ∧ Below w.heap.size w w' := by
  obtain ⟨k1, k2, k3⟩ := Cv.checked_two (a := l) (b := m)
  refine fun_eq 0 w Tryz.func88 (args := [.val (.slice a l.length ca), .val (.slice b m.length cb)]) rfl rfl ?_
  refine Branch.mk (fun z1 => ?_) (fun z1 => ?_)
  · have h1 : 4096 < l.length := by have := of_decide_eq_true z1; omega
    rw [k2 (.inl h1)]
    exact EndI.mk fun w9 h9 => rfl
  have h1 : l.length ≤ 4096 := by have := of_decide_eq_false z1; omega
  refine Branch.mk (fun z2 => ?_) (fun z2 => ?_)
  · have h2 : 4096 < m.length := by have := of_decide_eq_true z2; omega
    rw [k2 (.inr h2)]
    exact EndI.mk fun w9 h9 => rfl
  have h2 : m.length ≤ 4096 := by have := of_decide_eq_false z2; omega
  refine LoopI.invC (α := Nat × World) (fun y => [(5, .val (.int .i64 y.1))]) (fun y => y.2) (fun y => y.1 ≤ l.length ∧ Below w.heap.size w y.2 ∧ ∀ z, z ∈ l.take y.1 → Zo.chk z = 0) (fun y => l.length - y.1) ?_ ?_
  · intro w1 h1
    exact ⟨(0, w1), Cov.mk (by repeat' (first | exact trivial | refine And.intro rfl ?_)) rfl rfl rfl rfl rfl, rfl, Nat.zero_le _, h1.below, by simp⟩
  rintro ⟨k, V⟩ ⟨hk, hV, hall⟩
  simp only at hk hV hall
  refine Branch.mk (fun z3 => ?_) (fun z3 => ?_)
  · have hlt : k < l.length := by have := of_decide_eq_true z3; simp only at this; omega
    have hx := List.getElem?_eq_getElem (l := l) (i := k) hlt
    generalize l[k] = x at hx
    have hSV := hS.go hV hV.size
    refine hSV.idx hx fun ad had => ?_
    refine hSV.ld hx had (Below.refl _ _) (by simp) ?_
    apply CallI.use1
    focus (exact fun w3 h3 => rzmay_any x (hl x (List.mem_of_getElem? hx)) w3)
    intro w3 v3 h3 hB3
    by_cases hc : Zo.chk x = 0
    · rw [decide_eq_true hc]
      refine Branch.no rfl ?_
      refine Need.mk (by simp only [inK]; omega) (EndI.mk fun w9 h9 => ⟨(k + 1, w9), Cov.mk (by repeat' (first | exact trivial | refine And.intro rfl ?_)) rfl rfl rfl rfl rfl, rfl, ⟨hlt, h9.below, fun y hy => ?_⟩, by simp only; omega⟩)
      simp only at hy
      rw [List.take_add_one, hx] at hy
      rcases List.mem_append.1 hy with hy | hy
      · exact hall y hy
      · rw [List.mem_singleton.1 hy]; exact hc
    · rw [decide_eq_false hc]
      refine Branch.yes rfl ?_
      rw [k3 h1 h2 (.inl ⟨x, List.mem_of_getElem? hx, hc⟩)]
      exact EndI.mk fun w9 h9 => rfl
  have hge : k = l.length := by have := of_decide_eq_false z3; simp only at this; omega
  subst hge
  rw [List.take_length] at hall
  refine LoopI.invC (α := Nat × World) (fun y => [(6, .val (.int .i64 y.1))]) (fun y => y.2) (fun y => y.1 ≤ m.length ∧ Below w.heap.size w y.2 ∧ ∀ z, z ∈ m.take y.1 → Zo.chk z = 0) (fun y => m.length - y.1) ?_ ?_
  · intro w1 h1
    exact ⟨(0, w1), Cov.mk (by repeat' (first | exact trivial | refine And.intro rfl ?_)) rfl rfl rfl rfl rfl, rfl, Nat.zero_le _, h1.below, by simp⟩
  rintro ⟨k, V2⟩ ⟨hk2, hV2, hall2⟩
  simp only at hk2 hV2 hall2
  refine Branch.mk (fun z4 => ?_) (fun z4 => ?_)
  · have hlt : k < m.length := by have := of_decide_eq_true z4; simp only at this; omega
    have hx := List.getElem?_eq_getElem (l := m) (i := k) hlt
    generalize m[k] = x at hx
    have hSV := hT.go hV2 hV2.size
    refine hSV.idx hx fun ad had => ?_
    refine hSV.ld hx had (Below.refl _ _) (by simp) ?_
    apply CallI.use1
    focus (exact fun w3 h3 => rzmay_any x (hm x (List.mem_of_getElem? hx)) w3)
    intro w3 v3 h3 hB3
    by_cases hc : Zo.chk x = 0
    · rw [decide_eq_true hc]
      refine Branch.no rfl ?_
      refine Need.mk (by simp only [inK]; omega) (EndI.mk fun w9 h9 => ⟨(k + 1, w9), Cov.mk (by repeat' (first | exact trivial | refine And.intro rfl ?_)) rfl rfl rfl rfl rfl, rfl, ⟨hlt, h9.below, fun y hy => ?_⟩, by simp only; omega⟩)
      simp only at hy
      rw [List.take_add_one, hx] at hy
      rcases List.mem_append.1 hy with hy | hy
      · exact hall2 y hy
      · rw [List.mem_singleton.1 hy]; exact hc
    · rw [decide_eq_false hc]
      refine Branch.yes rfl ?_
      rw [k3 h1 h2 (.inr ⟨x, List.mem_of_getElem? hx, hc⟩)]
      exact EndI.mk fun w9 h9 => rfl
  have hge2 : k = m.length := by have := of_decide_eq_false z4; simp only at this; omega
  subst hge2
  rw [List.take_length] at hall2
  rw [k1 ⟨h1, h2, hall, hall2⟩]
  exact EndI.mk fun w9 h9 => rfl
theorem rcovered_any (z : Zn) (hz : Zo.chk z = 0) (l : List Zn) (hl : ∀ b, b ∈ l → Zo.chk b = 0) (a : Option Addr) (cap : Nat) (w : World) (hS : Sl w.heap.size w (.slice a l.length cap) l) :
    Calls Tryz.prog 115 #[.agg #[.int .i64 z.a, .int .i64 z.b, .int .i64 z.c, .int .i64 z.d, .int .i64 z.e, .int .i64 z.f], .slice a l.length cap] w fun e w' => e = .returned (.tuple #[.bool (Cv.covered z l).1, .int .i64 (Cv.covered z l).2]) ∧ Below w.heap.size w w' := by
  refine fun_eq 0 w Tryz.func115 (args := [.agg [.val (.int .i64 z.a), .val (.int .i64 z.b), .val (.int .i64 z.c), .val (.int .i64 z.d), .val (.int .i64 z.e), .val (.int .i64 z.f)], .val (.slice a l.length cap)]) rfl rfl ?_
  refine NewI.mk fun b1 hb1 => ?_
  apply CallI.use
  focus (exact fun w2 h2 => rrest_any z hz l hl a cap w2 (hS.go h2.below h2.below.size))
  rintro v w2 v2 h2 hB2 ⟨a2, c2, rfl, hS2⟩
  unfold Cv.covered
  generalize Mi.outer l [z] = X at *
  obtain ⟨x, e⟩ := X
  refine Branch.mk (fun hc2 => ?_) (fun hc2 => ?_)
  · have h1 : e = 0 := by simpa using hc2
    subst h1
    exact EndI.mk fun w3 h3 => by simp
  · have h1 : ¬ e = 0 := by simpa using hc2
    exact EndI.mk fun w3 h3 => by simp [h1]
theorem rin12_any (z : Zn) (hz : Zo.i64 z) (l : List Zn) (hl : ∀ b, b ∈ l → Zo.i64 b) (a : Option Addr) (cap : Nat) (w : World) (hS : Sl w.heap.size w (.slice a l.length cap) l) :
    Calls Tryz.prog 48 #[.agg #[.int .i64 z.a, .int .i64 z.b, .int .i64 z.c, .int .i64 z.d, .int .i64 z.e, .int .i64 z.f], .slice a l.length cap] w fun e w' => e = .returned (.tuple #[.bool (Cv.in_ z l).1, .int .i64 (Cv.in_ z l).2]) ∧ Below w.heap.size w w' := by
  refine fun_eq 0 w Tryz.func48 (args := [.agg [.val (.int .i64 z.a), .val (.int .i64 z.b), .val (.int .i64 z.c), .val (.int .i64 z.d), .val (.int .i64 z.e), .val (.int .i64 z.f)], .val (.slice a l.length cap)]) rfl rfl ?_
  refine NewI.mk fun b1 hb1 => ?_
  refine NewI.mk fun b2 hb2 => ?_
  apply CallI.use1
  focus (exact fun w2 h2 => rcheck12_any l [z] hl (by simp [hz]) a _ cap _ w2 (hS.go h2.below h2.below.size) (Sl.own (l := [z]) h2 1 rfl rfl rfl (Nat.le_refl _) (by simp [maxLen])))
  intro w2 v2 h2 hB2
  refine Branch.mk (fun z1 => ?_) (fun z1 => ?_)
  · have h0 : ¬ Cv.checked [l, [z]] = 0 := of_decide_eq_true z1
    unfold Cv.in_
    rw [if_neg h0]
    exact EndI.mk fun w9 h9 => rfl
  have h0 : Cv.checked [l, [z]] = 0 := by have := of_decide_eq_false z1; simpa using this
  obtain ⟨h4, _, hlc, hzc⟩ := Cv.checked_zero h0
  have hzc := hzc z (by simp)
  rw [← Cv.covered_in h4 hzc hlc]
  apply CallI.use1
  focus (exact fun w3 h3 => rcovered_any z hzc l hlc a cap w3 (hS.go h3.below h3.below.size))
  intro w3 v3 h3 hB3
  exact EndI.mk fun w9 h9 => rfl
end Go.Proofs.YtgjeeghhhfpkoaaGreat

/-
  The document's answer of layer 12, by the engine: AllCovered, All, without; the order of zones.
-/
namespace Go.Proofs.YtgjeeghhhfpkoaaGreat
set_option linter.unusedVariables false
set_option linter.unusedSimpArgs false
set_option maxRecDepth 100000
open Go.RowKit Go.Proofs.YtgjeeghhhfpkoaaGreat.Eng Enc

theorem rallcov_any (l m : List Zn) (hl : ∀ z, z ∈ l → Zo.chk z = 0) (hm : ∀ z, z ∈ m → Zo.chk z = 0) (hm4 : m.length ≤ 4096) (a b : Option Addr) (ca cb : Nat) (w : World) (hS : Sl w.heap.size w (.slice a l.length ca) l) (hT : Sl w.heap.size w (.slice b m.length cb) m) :
    Calls Tryz.prog 117 #[.slice a l.length ca, .slice b m.length cb] w fun e w' => e = .returned (.tuple #[.bool (Cv.allGo m l).1, .int .i64 (Cv.allGo m l).2]) ∧ Below w.heap.size w w' := by
  refine fun_eq 0 w Tryz.func117 (args := [.val (.slice a l.length ca), .val (.slice b m.length cb)]) rfl rfl ?_
  obtain ⟨_, _, hfe, hcap1, hcap2, _⟩ := hS.form
  injection hfe with _ _ hfe
  subst hfe
  unfold maxLen at hcap2
  refine LoopI.invC (α := Nat × World) (fun y => [(6, .val (.int .i64 y.1))]) (fun y => y.2) (fun y => y.1 ≤ l.length ∧ Below w.heap.size w y.2 ∧ Cv.allGo m l = Cv.allGo m (l.drop y.1)) (fun y => l.length - y.1) ?_ ?_
  · intro w1 h1
    exact ⟨(0, w1), Cov.mk (by repeat' (first | exact trivial | refine And.intro rfl ?_)) rfl rfl rfl rfl rfl, rfl, Nat.zero_le _, h1.below, rfl⟩
  rintro ⟨k, V⟩ ⟨hk, hV, heq⟩
  simp only at hk hV heq
  refine Branch.mk (fun z3 => ?_) (fun z3 => ?_)
  · have hlt : k < l.length := by have := of_decide_eq_true z3; simp only at this; omega
    have hx := List.getElem?_eq_getElem (l := l) (i := k) hlt
    have hd := List.drop_eq_getElem_cons hlt
    generalize l[k] = x at hx hd
    have hxc := hl x (List.mem_of_getElem? hx)
    rw [hd, Cv.allGo] at heq
    have hSV := hS.go hV hV.size
    refine hSV.idx hx fun ad had => ?_
    refine hSV.ld hx had (Below.refl _ _) (by simp) ?_
    have hcv := fun w h => rcovered_any x hxc m hm b cb w h
    rw [Cv.covered_in hm4 hxc hm] at hcv
    apply CallI.use1
    focus (exact fun w3 h3 => hcv w3 (hT.go h3.below h3.below.size))
    intro w3 v3 h3 hB3
    unfold Cv.misses at heq
    generalize Cv.in_ x m = I at heq
    obtain ⟨is, e⟩ := I
    simp only at heq
    refine Branch.mk (fun z4 => ?_) (fun z4 => ?_)
    · have he : e ≠ 0 := of_decide_eq_true z4
      rw [if_pos (by simp [he])] at heq
      rw [heq]
      exact EndI.mk fun w9 h9 => rfl
    have he : e = 0 := by have := of_decide_eq_false z4; simpa using this
    subst he
    refine Branch.mk (fun z5 => ?_) (fun z5 => ?_)
    · have hi : is = false := by simpa using z5
      subst hi
      rw [if_pos (by simp)] at heq
      rw [heq]
      exact EndI.mk fun w9 h9 => rfl
    · have hi : is = true := by simpa using z5
      subst hi
      rw [if_neg (by simp)] at heq
      refine Need.mk (by simp only [inK]; omega) (EndI.mk fun w9 h9 => ⟨(k + 1, w9), Cov.mk (by repeat' (first | exact trivial | refine And.intro rfl ?_)) rfl rfl rfl rfl rfl, rfl, ⟨hlt, h9.below, heq⟩, by simp only; omega⟩)
  · have hge : k = l.length := by have := of_decide_eq_false z3; simp only at this; omega
    subst hge
    rw [List.drop_length] at heq
    rw [heq]
    exact EndI.mk fun w9 h9 => rfl
theorem rall12_any (l m : List Zn) (hl : ∀ z, z ∈ l → Zo.i64 z) (hm : ∀ z, z ∈ m → Zo.i64 z) (a b : Option Addr) (ca cb : Nat) (w : World) (hS : Sl w.heap.size w (.slice a l.length ca) l) (hT : Sl w.heap.size w (.slice b m.length cb) m) :
    Calls Tryz.prog 50 #[.slice a l.length ca, .slice b m.length cb] w fun e w' => e = .returned (.tuple #[.bool (Cv.all_ l m).1, .int .i64 (Cv.all_ l m).2]) ∧ Below w.heap.size w w' := by
  refine fun_eq 0 w Tryz.func50 (args := [.val (.slice a l.length ca), .val (.slice b m.length cb)]) rfl rfl ?_
  apply CallI.use1
  focus (exact fun w2 h2 => rcheck12_any l m hl hm a b ca cb w2 (hS.go h2.below h2.below.size) (hT.go h2.below h2.below.size))
  intro w2 v2 h2 hB2
  unfold Cv.all_
  refine Branch.mk (fun z1 => ?_) (fun z1 => ?_)
  · have h0 : Cv.checked [l, m] ≠ 0 := of_decide_eq_true z1
    rw [if_pos h0]
    exact EndI.mk fun w9 h9 => rfl
  have h0 : Cv.checked [l, m] = 0 := by have := of_decide_eq_false z1; simpa using this
  rw [if_neg (by simp [h0])]
  obtain ⟨h4, hm4, hlc, hmc⟩ := Cv.checked_zero h0
  apply CallI.use1
  focus (exact fun w3 h3 => rallcov_any l m hlc hmc hm4 a b ca cb w3 (hS.go h3.below h3.below.size) (hT.go h3.below h3.below.size))
  intro w3 v3 h3 hB3
  exact EndI.mk fun w9 h9 => rfl
theorem erase_step {l : List Zn} {k i : Nat} {x : Zn} (hx : l[k]? = some x) : (l.take (k + 1)).eraseIdx i = if k = i then (l.take k).eraseIdx i else (l.take k).eraseIdx i ++ [x] := by
  have hk := (List.getElem?_eq_some_iff.1 hx).1
  have hl : (l.take k).length = k := by rw [List.length_take]; omega
  rw [List.take_add_one, hx]
  show (l.take k ++ [x]).eraseIdx i = _
  by_cases h1 : i < k
  · rw [if_neg (by omega), List.eraseIdx_append_of_lt_length (by omega)]
  · by_cases h2 : k = i
    · subst h2
      have h3 : (l.take k).eraseIdx k = l.take k := List.eraseIdx_of_length_le (by omega)
      rw [if_pos rfl, List.eraseIdx_append_of_length_le (by omega), hl, Nat.sub_self, h3]
      simp
    · rw [if_neg h2, List.eraseIdx_of_length_le (by rw [List.length_append, hl]; simp; omega), List.eraseIdx_of_length_le (by omega)]
theorem rwithout_any (l : List Zn) (i : Nat) (hlen : l.length ≤ 4096) (a : Option Addr) (ca : Nat) (w : World) (hS : Sl w.heap.size w (.slice a l.length ca) l) :
    Calls Tryz.prog 202 #[.slice a l.length ca, .int .i64 (i : Nat)] w (Ret w fun v w' => Own 39 w.heap.size w' v (l.eraseIdx i)) := by
  refine fun_ret 0 w Tryz.func202 (args := [.val (.slice a l.length ca), .val (.int .i64 (i : Nat))]) rfl rfl ?_
  have st := Stay.first (w := w)
  refine LoopI.invC (α := Nat × World × Value) (fun y => [(6, .val (.int .i64 y.1)), (5, .val y.2.2)]) (fun y => y.2.1) (fun y => y.1 ≤ l.length ∧ Below w.heap.size w y.2.1 ∧ ∃ base, Lp ⟨w, w.heap.size, Nat.le_refl _⟩ [w] [] 39 base y.2.1 y.2.2 ((l.take y.1).eraseIdx i)) (fun y => l.length - y.1) ?_ ?_
  · intro w1 h1
    exact ⟨(0, w1, .slice none 0 0), Cov.mk (by repeat' (first | exact trivial | refine And.intro rfl ?_)) rfl rfl rfl rfl rfl, rfl, Nat.zero_le _, h1.below, _, by simp only [List.take_zero, List.eraseIdx_nil]; exact Lp.start st h1 (by simp)⟩
  rintro ⟨k, V, ov⟩ ⟨hk, hV, base, lp⟩
  simp only at hk hV lp
  obtain ⟨ao, co, rfl⟩ := lp.own.form
  have hle : ((l.take k).eraseIdx i).length ≤ k := by
    have := List.length_eraseIdx_le (l.take k) i
    rw [List.length_take] at this; omega
  refine Branch.mk (fun z3 => ?_) (fun z3 => ?_)
  · have hlt : k < l.length := by have := of_decide_eq_true z3; simp only at this; omega
    have hx := List.getElem?_eq_getElem (l := l) (i := k) hlt
    generalize l[k] = x at hx
    have hes := erase_step (i := i) hx
    refine Branch.mk (fun z4 => ?_) (fun z4 => ?_)
    · have hne : k ≠ i := by have := of_decide_eq_true z4; simp only at this; omega
      rw [if_neg hne] at hes
      have hSV := hS.go hV hV.size
      refine hSV.idx hx fun ad had => ?_
      refine hSV.ld hx had (Below.refl _ _) (by simp) ?_
      refine NewI.mk fun b1 hb1 => ?_
      have hb1' : V.heap.size ≤ b1 := hb1
      refine GenN.appL (α := Zn) elZ lp (fun y hy => .inr (by simp at hy; omega)) (by simp) [x] (fun w8 h8 => src_own h8 0 rfl rfl rfl rfl) (by simp; omega) (by decide) fun a' c' w8 w9 h8 lp9 hsz hbl => ?_
      rw [← hes] at lp9 ⊢
      refine Need.mk (by simp only [inK]; omega) (EndI.mk fun w10 h10 => ⟨(k + 1, w10, .slice a' ((l.take (k + 1)).eraseIdx i).length c'), Cov.mk (by repeat' (first | exact trivial | refine And.intro rfl ?_)) rfl rfl rfl rfl rfl, rfl, ⟨hlt, h10.below, base, lp9.at h10 (by simp)⟩, by simp only; omega⟩)
    · have he : k = i := by have := of_decide_eq_false z4; simp only at this; omega
      rw [if_pos he] at hes
      rw [← hes] at lp ⊢
      refine Need.mk (by simp only [inK]; omega) (EndI.mk fun w10 h10 => ⟨(k + 1, w10, .slice ao ((l.take (k + 1)).eraseIdx i).length co), Cov.mk (by repeat' (first | exact trivial | refine And.intro rfl ?_)) rfl rfl rfl rfl rfl, rfl, ⟨hlt, h10.below, base, lp.at h10 (by simp)⟩, by simp only; omega⟩)
  · have hge : k = l.length := by have := of_decide_eq_false z3; simp only at this; omega
    subst hge
    rw [List.take_length] at lp ⊢
    refine EndI.mk fun w10 h10 => (lp.at h10 (by simp)).own.lower ?_
    exact lp.anc w (by simp)
end Go.Proofs.YtgjeeghhhfpkoaaGreat

/-
  The document's answer of layer 8, by the engine: Cmp.
-/
namespace Go.Proofs.YtgjeeghhhfpkoaaGreat
set_option linter.unusedVariables false
set_option linter.unusedSimpArgs false
set_option maxRecDepth 100000
open Go.RowKit Go.Proofs.YtgjeeghhhfpkoaaGreat.Eng Enc

theorem cmp_if (x y : Zn) : Zo.cmp x y = if x.a < y.a then -1 else if y.a < x.a then 1 else if x.b < y.b then -1 else if y.b < x.b then 1 else if x.c < y.c then -1 else if y.c < x.c then 1 else if x.d < y.d then -1 else if y.d < x.d then 1 else if x.e < y.e then -1 else if y.e < x.e then 1 else if x.f < y.f then -1 else if y.f < x.f then 1 else 0 := by
  have one : ∀ (a b t : Int), (if cmpI a b ≠ 0 then cmpI a b else t) = if a < b then -1 else if b < a then 1 else t := by
    intro a b t
    unfold cmpI
    split <;> (try split) <;> simp_all
  unfold Zo.cmp
  rw [one, one, one, one, one, one]
theorem rcmp08_any (x y : Zn) (w : World) :
    Calls Tryz.prog 257 #[.agg #[.int .i64 x.a, .int .i64 x.b, .int .i64 x.c, .int .i64 x.d, .int .i64 x.e, .int .i64 x.f], .agg #[.int .i64 y.a, .int .i64 y.b, .int .i64 y.c, .int .i64 y.d, .int .i64 y.e, .int .i64 y.f]] w fun e w' => e = .returned (.int .i64 (Zo.cmp x y)) ∧ Below w.heap.size w w' := by
  refine fun_eq 0 w Tryz.func257 (args := [.agg [.val (.int .i64 x.a), .val (.int .i64 x.b), .val (.int .i64 x.c), .val (.int .i64 x.d), .val (.int .i64 x.e), .val (.int .i64 x.f)], .agg [.val (.int .i64 y.a), .val (.int .i64 y.b), .val (.int .i64 y.c), .val (.int .i64 y.d), .val (.int .i64 y.e), .val (.int .i64 y.f)]]) rfl rfl ?_
  refine NewI.mk fun b1 hb1 => ?_
  refine NewI.mk fun b2 hb2 => ?_
  refine LoopI.rounds 7 ?_
  rw [cmp_if]
  obtain ⟨xa, xb, xc, xd, xe, xf⟩ := x
  obtain ⟨ya, yb, yc, yd, ye, yf⟩ := y
  refine Branch.yes rfl ?_
  refine DrawI.go (.tk 0 (.tk 1 (.tk 2 (.tk 3 (.tk 4 (.tk 5 (.tk 6 .done))))))) (by kernel_rfl) fun w1 h1 => ?_
  refine Need.mk (by decide) ?_
  refine Need.mk (by decide) ?_
  refine Branch.mk (fun z1 => ?_) (fun z1 => ?_)
  · have hl : xa < ya := of_decide_eq_true z1
    simp only [if_pos hl]
    exact EndI.mk fun w9 h9 => rfl
  have hl : ¬ xa < ya := of_decide_eq_false z1
  simp only [if_neg hl]
  clear z1 hl
  refine DrawI.go (.tk 0 (.tk 1 (.tk 2 (.tk 3 (.tk 4 (.tk 5 (.tk 6 .done))))))) (by kernel_rfl) fun w1 h1 => ?_
  refine Need.mk (by decide) ?_
  refine Need.mk (by decide) ?_
  refine Branch.mk (fun z1 => ?_) (fun z1 => ?_)
  · have hl : ya < xa := of_decide_eq_true z1
    simp only [if_pos hl]
    exact EndI.mk fun w9 h9 => rfl
  have hl : ¬ ya < xa := of_decide_eq_false z1
  simp only [if_neg hl]
  clear z1 hl
  refine Need.mk (by simp only [inK]; omega) ?_
  refine Branch.yes rfl ?_
  refine DrawI.go (.tk 0 (.tk 1 (.tk 2 (.tk 3 (.tk 4 (.tk 5 (.tk 6 .done))))))) (by kernel_rfl) fun w1 h1 => ?_
  refine Need.mk (by decide) ?_
  refine Need.mk (by decide) ?_
  refine Branch.mk (fun z1 => ?_) (fun z1 => ?_)
  · have hl : xb < yb := of_decide_eq_true z1
    simp only [if_pos hl]
    exact EndI.mk fun w9 h9 => rfl
  have hl : ¬ xb < yb := of_decide_eq_false z1
  simp only [if_neg hl]
  clear z1 hl
  refine DrawI.go (.tk 0 (.tk 1 (.tk 2 (.tk 3 (.tk 4 (.tk 5 (.tk 6 .done))))))) (by kernel_rfl) fun w1 h1 => ?_
  refine Need.mk (by decide) ?_
  refine Need.mk (by decide) ?_
  refine Branch.mk (fun z1 => ?_) (fun z1 => ?_)
  · have hl : yb < xb := of_decide_eq_true z1
    simp only [if_pos hl]
    exact EndI.mk fun w9 h9 => rfl
  have hl : ¬ yb < xb := of_decide_eq_false z1
  simp only [if_neg hl]
  clear z1 hl
  refine Need.mk (by simp only [inK]; omega) ?_
  refine Branch.yes rfl ?_
  refine DrawI.go (.tk 0 (.tk 1 (.tk 2 (.tk 3 (.tk 4 (.tk 5 (.tk 6 .done))))))) (by kernel_rfl) fun w1 h1 => ?_
  refine Need.mk (by decide) ?_
  refine Need.mk (by decide) ?_
  refine Branch.mk (fun z1 => ?_) (fun z1 => ?_)
  · have hl : xc < yc := of_decide_eq_true z1
    simp only [if_pos hl]
    exact EndI.mk fun w9 h9 => rfl
  have hl : ¬ xc < yc := of_decide_eq_false z1
  simp only [if_neg hl]
  clear z1 hl
  refine DrawI.go (.tk 0 (.tk 1 (.tk 2 (.tk 3 (.tk 4 (.tk 5 (.tk 6 .done))))))) (by kernel_rfl) fun w1 h1 => ?_
  refine Need.mk (by decide) ?_
  refine Need.mk (by decide) ?_
  refine Branch.mk (fun z1 => ?_) (fun z1 => ?_)
  · have hl : yc < xc := of_decide_eq_true z1
    simp only [if_pos hl]
    exact EndI.mk fun w9 h9 => rfl
  have hl : ¬ yc < xc := of_decide_eq_false z1
  simp only [if_neg hl]
  clear z1 hl
  refine Need.mk (by simp only [inK]; omega) ?_
  refine Branch.yes rfl ?_
  refine DrawI.go (.tk 0 (.tk 1 (.tk 2 (.tk 3 (.tk 4 (.tk 5 (.tk 6 .done))))))) (by kernel_rfl) fun w1 h1 => ?_
  refine Need.mk (by decide) ?_
  refine Need.mk (by decide) ?_
  refine Branch.mk (fun z1 => ?_) (fun z1 => ?_)
  · have hl : xd < yd := of_decide_eq_true z1
    simp only [if_pos hl]
    exact EndI.mk fun w9 h9 => rfl
  have hl : ¬ xd < yd := of_decide_eq_false z1
  simp only [if_neg hl]
  clear z1 hl
  refine DrawI.go (.tk 0 (.tk 1 (.tk 2 (.tk 3 (.tk 4 (.tk 5 (.tk 6 .done))))))) (by kernel_rfl) fun w1 h1 => ?_
  refine Need.mk (by decide) ?_
  refine Need.mk (by decide) ?_
  refine Branch.mk (fun z1 => ?_) (fun z1 => ?_)
  · have hl : yd < xd := of_decide_eq_true z1
    simp only [if_pos hl]
    exact EndI.mk fun w9 h9 => rfl
  have hl : ¬ yd < xd := of_decide_eq_false z1
  simp only [if_neg hl]
  clear z1 hl
  refine Need.mk (by simp only [inK]; omega) ?_
  refine Branch.yes rfl ?_
  refine DrawI.go (.tk 0 (.tk 1 (.tk 2 (.tk 3 (.tk 4 (.tk 5 (.tk 6 .done))))))) (by kernel_rfl) fun w1 h1 => ?_
  refine Need.mk (by decide) ?_
  refine Need.mk (by decide) ?_
  refine Branch.mk (fun z1 => ?_) (fun z1 => ?_)
  · have hl : xe < ye := of_decide_eq_true z1
    simp only [if_pos hl]
    exact EndI.mk fun w9 h9 => rfl
  have hl : ¬ xe < ye := of_decide_eq_false z1
  simp only [if_neg hl]
  clear z1 hl
  refine DrawI.go (.tk 0 (.tk 1 (.tk 2 (.tk 3 (.tk 4 (.tk 5 (.tk 6 .done))))))) (by kernel_rfl) fun w1 h1 => ?_
  refine Need.mk (by decide) ?_
  refine Need.mk (by decide) ?_
  refine Branch.mk (fun z1 => ?_) (fun z1 => ?_)
  · have hl : ye < xe := of_decide_eq_true z1
    simp only [if_pos hl]
    exact EndI.mk fun w9 h9 => rfl
  have hl : ¬ ye < xe := of_decide_eq_false z1
  simp only [if_neg hl]
  clear z1 hl
  refine Need.mk (by simp only [inK]; omega) ?_
  refine Branch.yes rfl ?_
  refine DrawI.go (.tk 0 (.tk 1 (.tk 2 (.tk 3 (.tk 4 (.tk 5 (.tk 6 .done))))))) (by kernel_rfl) fun w1 h1 => ?_
  refine Need.mk (by decide) ?_
  refine Need.mk (by decide) ?_
  refine Branch.mk (fun z1 => ?_) (fun z1 => ?_)
  · have hl : xf < yf := of_decide_eq_true z1
    simp only [if_pos hl]
    exact EndI.mk fun w9 h9 => rfl
  have hl : ¬ xf < yf := of_decide_eq_false z1
  simp only [if_neg hl]
  clear z1 hl
  refine DrawI.go (.tk 0 (.tk 1 (.tk 2 (.tk 3 (.tk 4 (.tk 5 (.tk 6 .done))))))) (by kernel_rfl) fun w1 h1 => ?_
  refine Need.mk (by decide) ?_
  refine Need.mk (by decide) ?_
  refine Branch.mk (fun z1 => ?_) (fun z1 => ?_)
  · have hl : yf < xf := of_decide_eq_true z1
    simp only [if_pos hl]
    exact EndI.mk fun w9 h9 => rfl
  have hl : ¬ yf < xf := of_decide_eq_false z1
  simp only [if_neg hl]
  clear z1 hl
  refine Need.mk (by simp only [inK]; omega) ?_
  refine Branch.no rfl ?_
  exact EndI.mk fun w9 h9 => rfl
end Go.Proofs.YtgjeeghhhfpkoaaGreat

/-
  The least of a list behind a place: what the document's Sorted takes; plain.
-/
namespace Go.Proofs.YtgjeeghhhfpkoaaGreat
set_option linter.unusedVariables false
set_option linter.unusedSimpArgs false
open Go.RowKit

namespace Cv
open Zo
/-- x comes behind all of out. -/
def Nx (out : List Zn) (x : Zn) : Prop := ∀ y, out.getLast? = some y → Lt y x
/-- what the inner scan has found among the first i. -/
def Sc (l out : List Zn) (i : Nat) (b : Int) : Prop :=
  (b = -1 ∧ ∀ k x, k < i → l[k]? = some x → ¬ Nx out x) ∨
  (∃ j y, b = (j : Nat) ∧ j < i ∧ l[j]? = some y ∧ Nx out y ∧ ∀ k x, k < i → l[k]? = some x → Nx out x → ¬ Lt x y)
theorem Sc.start (l out : List Zn) : Sc l out 0 (-1) := .inl ⟨rfl, fun k x h => by omega⟩
theorem Sc.skip {l out : List Zn} {i : Nat} {b : Int} {x : Zn} (h : Sc l out i b) (hx : l[i]? = some x) (hn : ¬ Nx out x) : Sc l out (i + 1) b := by
  rcases h with ⟨rfl, h⟩ | ⟨j, y, rfl, hj, hy, hn2, h⟩
  · refine .inl ⟨rfl, fun k x' hk hx' => ?_⟩
    by_cases e : k = i
    · subst e; rw [hx] at hx'; cases hx'; exact hn
    · exact h k x' (by omega) hx'
  · refine .inr ⟨j, y, rfl, by omega, hy, hn2, fun k x' hk hx' hn' => ?_⟩
    by_cases e : k = i
    · subst e; rw [hx] at hx'; cases hx'; exact absurd hn' hn
    · exact h k x' (by omega) hx' hn'
theorem Sc.first {l out : List Zn} {i : Nat} {x : Zn} (h : Sc l out i (-1)) (hx : l[i]? = some x) (hn : Nx out x) : Sc l out (i + 1) (i : Nat) := by
  rcases h with ⟨_, h⟩ | ⟨j, y, e, _⟩
  · refine .inr ⟨i, x, rfl, by omega, hx, hn, fun k x' hk hx' hn' => ?_⟩
    by_cases e : k = i
    · subst e; rw [hx] at hx'; cases hx'; exact Lt.irrefl _
    · exact absurd hn' (h k x' (by omega) hx')
  · omega
theorem Sc.keep {l out : List Zn} {i j : Nat} {x y : Zn} (h : Sc l out i (j : Nat)) (hx : l[i]? = some x) (hy : l[j]? = some y) (hn : ¬ Lt x y) : Sc l out (i + 1) (j : Nat) := by
  rcases h with ⟨e, _⟩ | ⟨j', y', e, hj, hy', hn2, h⟩
  · omega
  · have : j' = j := by omega
    subst this
    rw [hy] at hy'; cases hy'
    refine .inr ⟨j', y, rfl, by omega, hy, hn2, fun k x' hk hx' hn' => ?_⟩
    by_cases e : k = i
    · subst e; rw [hx] at hx'; cases hx'; exact hn
    · exact h k x' (by omega) hx' hn'
theorem Sc.less {l out : List Zn} {i j : Nat} {x y : Zn} (h : Sc l out i (j : Nat)) (hx : l[i]? = some x) (hy : l[j]? = some y) (hN : Nx out x) (hn : Lt x y) : Sc l out (i + 1) (i : Nat) := by
  rcases h with ⟨e, _⟩ | ⟨j', y', e, hj, hy', hn2, h⟩
  · omega
  · have : j' = j := by omega
    subst this
    rw [hy] at hy'; cases hy'
    refine .inr ⟨i, x, rfl, by omega, hx, hN, fun k x' hk hx' hn' hlt => ?_⟩
    by_cases e : k = i
    · subst e; rw [hx] at hx'; cases hx'; exact Lt.irrefl _ hlt
    · exact h k x' (by omega) hx' hn' (Lt.trans hlt hn)
theorem last_take {S : List Zn} {p : Nat} (hp : p ≤ S.length) : (S.take p).getLast? = if p = 0 then none else S[p - 1]? := by
  rw [List.getLast?_eq_getElem?, List.length_take, Nat.min_eq_left hp]
  by_cases h : p = 0
  · subst h; simp
  · rw [if_neg h, List.getElem?_take, if_pos (by omega)]
theorem strict_at {S : List Zn} (h : S.Pairwise Lt) {i j : Nat} {x y : Zn} (hx : S[i]? = some x) (hy : S[j]? = some y) (hij : i < j) : Lt x y := by
  obtain ⟨h1, rfl⟩ := List.getElem?_eq_some_iff.1 hx
  obtain ⟨h2, rfl⟩ := List.getElem?_eq_some_iff.1 hy
  exact List.pairwise_iff_getElem.1 h i j h1 h2 hij
theorem nx_at {S : List Zn} (h : S.Pairwise Lt) {p j : Nat} {x : Zn} (hp : p ≤ S.length) (hx : S[j]? = some x) : Nx (S.take p) x ↔ p ≤ j := by
  unfold Nx
  rw [last_take hp]
  constructor
  · intro hn
    by_cases e : p = 0
    · omega
    rw [if_neg e] at hn
    obtain ⟨y, hy⟩ : ∃ y, S[p - 1]? = some y := ⟨_, List.getElem?_eq_getElem (by omega)⟩
    have hlt := hn y hy
    refine Nat.le_of_not_lt fun hj => ?_
    by_cases e2 : j = p - 1
    · subst e2; rw [hx] at hy; cases hy; exact Lt.irrefl _ hlt
    · exact Lt.irrefl _ (Lt.trans hlt (strict_at h hx hy (by omega)))
  · intro hpj y hy
    by_cases e : p = 0
    · rw [if_pos e] at hy; cases hy
    · rw [if_neg e] at hy
      exact strict_at h hy hx (by omega)
theorem Sc.done {l : List Zn} {p : Nat} (hp : p ≤ (sorted l).length) (h : Sc l ((sorted l).take p) l.length (-1)) : (sorted l).take p = sorted l := by
  rcases h with ⟨_, h⟩ | ⟨j, y, e, _⟩
  · refine List.take_of_length_le (Nat.le_of_not_lt fun hlt => ?_)
    have hx := List.getElem?_eq_getElem hlt
    obtain ⟨k, hk⟩ := List.mem_iff_getElem?.1 ((sorted_mem l _).1 (List.mem_of_getElem? hx))
    exact h k _ (List.getElem?_eq_some_iff.1 hk).1 hk ((nx_at (sorted_strict l) hp hx).2 (Nat.le_refl _))
  · omega
theorem Sc.more {l : List Zn} {p j : Nat} {y : Zn} (hp : p ≤ (sorted l).length) (h : Sc l ((sorted l).take p) l.length (j : Nat)) (hy : l[j]? = some y) : (sorted l)[p]? = some y := by
  rcases h with ⟨e, _⟩ | ⟨j', y', e, hj, hy', hn2, h⟩
  · omega
  · have : j' = j := by omega
    subst this
    rw [hy] at hy'; cases hy'
    obtain ⟨q, hq⟩ := List.mem_iff_getElem?.1 ((sorted_mem l y).2 (List.mem_of_getElem? hy))
    have hpq := (nx_at (sorted_strict l) hp hq).1 hn2
    by_cases e : p = q
    · rw [e]; exact hq
    have hql := (List.getElem?_eq_some_iff.1 hq).1
    have hx := List.getElem?_eq_getElem (l := sorted l) (i := p) (by omega)
    obtain ⟨k, hk⟩ := List.mem_iff_getElem?.1 ((sorted_mem l _).1 (List.mem_of_getElem? hx))
    exact absurd (strict_at (sorted_strict l) hx hq (by omega)) (h k _ (List.getElem?_eq_some_iff.1 hk).1 hk ((nx_at (sorted_strict l) hp hx).2 (Nat.le_refl _)))
end Cv
end Go.Proofs.YtgjeeghhhfpkoaaGreat

/-
  The document's answer of layer 12, by the engine: Sorted.
-/
namespace Go.Proofs.YtgjeeghhhfpkoaaGreat
set_option linter.unusedVariables false
set_option linter.unusedSimpArgs false
set_option maxRecDepth 100000
open Go.RowKit Go.Proofs.YtgjeeghhhfpkoaaGreat.Eng Enc

namespace Zo
theorem cmpI_gt (x y : Int) : 0 < cmpI x y ↔ y < x := by unfold cmpI; split <;> (try split) <;> omega
theorem step_gt {x y c : Int} {P : Prop} (h : 0 < c ↔ P) : 0 < (if cmpI x y ≠ 0 then cmpI x y else c) ↔ (y < x ∨ y = x ∧ P) := by
  have h1 := cmpI_gt x y
  have h2 := cmpI_eq x y
  by_cases hc : cmpI x y = 0
  · rw [if_neg (by simp [hc]), h]
    have := h2.1 hc
    constructor
    · intro hp; exact .inr ⟨this.symm, hp⟩
    · rintro (hl | ⟨_, hp⟩)
      · omega
      · exact hp
  · rw [if_pos hc, h1]
    constructor
    · exact .inl
    · rintro (hl | ⟨he, _⟩)
      · exact hl
      · exact absurd (h2.2 he.symm) hc
theorem cmp_gt (x y : Zn) : 0 < cmp x y ↔ Lt y x := by
  unfold cmp Lt
  exact step_gt (step_gt (step_gt (step_gt (step_gt (step_gt (by simp))))))
end Zo
namespace Cv
theorem Sc.neg {l out : List Zn} {i : Nat} {b : Int} (h : Sc l out i b) (hb : b < 0) : b = -1 := by
  rcases h with ⟨rfl, _⟩ | ⟨j, y, rfl, _⟩ <;> omega
theorem Sc.pos {l out : List Zn} {i : Nat} {b : Int} (h : Sc l out i b) (hb : ¬ b < 0) : ∃ j y, b = (j : Nat) ∧ j < i ∧ l[j]? = some y := by
  rcases h with ⟨rfl, _⟩ | ⟨j, y, rfl, hj, hy, _⟩
  · omega
  · exact ⟨j, y, rfl, hj, hy⟩
end Cv
theorem rsorted_any (l : List Zn) (hlen : l.length ≤ 4096) (a : Option Addr) (ca : Nat) (w : World) (hS : Sl w.heap.size w (.slice a l.length ca) l) :
    Calls Tryz.prog 201 #[.slice a l.length ca] w (Ret w fun v w' => Own 39 w.heap.size w' v (Cv.sorted l)) := by
  refine fun_ret 0 w Tryz.func201 (args := [.val (.slice a l.length ca)]) rfl rfl ?_
  have st := Stay.first (w := w)
  have hsl : (Cv.sorted l).length ≤ 4096 := Nat.le_trans (Cv.sorted_len l) hlen
  refine LoopI.invC (α := Nat × World × Value) (fun y => [(3, .val y.2.2)]) (fun y => y.2.1) (fun y => y.1 ≤ (Cv.sorted l).length ∧ Below w.heap.size w y.2.1 ∧ ∃ base, Lp ⟨w, w.heap.size, Nat.le_refl _⟩ [w] [] 39 base y.2.1 y.2.2 ((Cv.sorted l).take y.1)) (fun y => (Cv.sorted l).length - y.1) ?_ ?_
  · intro w1 h1
    exact ⟨(0, w1, .slice none 0 0), Cov.mk (by repeat' (first | exact trivial | refine And.intro rfl ?_)) rfl rfl rfl rfl rfl, rfl, Nat.zero_le _, h1.below, _, by simp only [List.take_zero]; exact Lp.start st h1 (by simp)⟩
  rintro ⟨p, V, ov⟩ ⟨hp, hV, base, lp0⟩
  simp only at hp hV lp0
  obtain ⟨ao, co, rfl⟩ := lp0.own.form
  have hlenT : ((Cv.sorted l).take p).length = p := by rw [List.length_take, Nat.min_eq_left hp]
  generalize hout : (Cv.sorted l).take p = out at *
  refine LoopI.invC (α := Nat × World × Int) (fun y => [(4, .val (.int .i64 y.2.2)), (5, .val (.int .i64 y.1))]) (fun y => y.2.1) (fun y => y.1 ≤ l.length ∧ Below w.heap.size w y.2.1 ∧ Lp ⟨w, w.heap.size, Nat.le_refl _⟩ [w] [] 39 base y.2.1 (.slice ao out.length co) out ∧ Cv.Sc l out y.1 y.2.2) (fun y => l.length - y.1) ?_ ?_
  · intro w1 h1
    exact ⟨(0, w1, -1), Cov.mk (by repeat' (first | exact trivial | refine And.intro rfl ?_)) rfl rfl rfl rfl rfl, rfl, Nat.zero_le _, h1.below, lp0.at h1 (by simp), Cv.Sc.start _ _⟩
  rintro ⟨k, U, best⟩ ⟨hk, hU, lp, hSc⟩
  simp only at hk hU lp hSc
  have hSU := hS.go hU hU.size
  refine Branch.mk (fun z3 => ?_) (fun z3 => ?_)
  · have hlt : k < l.length := by have := of_decide_eq_true z3; simp only at this; omega
    have hx := List.getElem?_eq_getElem (l := l) (i := k) hlt
    generalize l[k] = x at hx
    refine DrawI.go (.tk 0 (.tk 1 (.tk 2 (.tk 3 (.tk 4 (.tk 5 (.tk 6 (.tk 7 (.tk 8 (.tk 9 (.tk 10 (.tk 11 (.tk 12 (.tk 13 (.ev 14 (.tk 15 (.tk 16 (.tk 17 .done)))))))))))))))))) (by kernel_rfl) fun w2 h2 => ?_
    refine Branch.mk (fun z4 => ?_) (fun z4 => ?_)
    · have hz : out.length = 0 := by have := of_decide_eq_true z4; omega
      have hN : Cv.Nx out x := fun y hy => by rw [List.length_eq_zero_iff.1 hz] at hy; cases hy
      refine DrawI.go (.tk 0 (.tk 1 (.tk 2 (.tk 3 (.tk 4 (.tk 5 (.tk 6 (.tk 7 (.tk 8 (.tk 9 (.tk 10 (.tk 11 (.tk 12 (.ev 13 (.tk 14 (.tk 15 (.tk 16 .done))))))))))))))))) (by kernel_rfl) fun w4 h4 => ?_
      have lpT := (lp.at h2 (by simp)).at h4 (by simp)
      have hST := hS.go h4.below h4.below.size
      refine Branch.mk (fun z6 => ?_) (fun z6 => ?_)
      · have hb : best = -1 := hSc.neg (of_decide_eq_true z6)
        subst hb
        have hSc2 := hSc.first hx hN
        refine Need.mk (by simp only [inK]; omega) (EndI.mk fun w10 h10 => ⟨(k + 1, w10, (k : Nat)), Cov.mk (by repeat' (first | exact trivial | refine And.intro rfl ?_)) rfl rfl rfl rfl rfl, rfl, ⟨hlt, h10.below, lpT.at h10 (by simp), hSc2⟩, by simp only; omega⟩)
      · obtain ⟨j, y2, rfl, hjk, hy2⟩ := hSc.pos (of_decide_eq_false z6)
        refine hST.idx hx fun ad5 had5 => ?_
        refine hST.ld hx had5 (Below.refl _ _) (by simp) ?_
        refine hST.idx hy2 fun ad6 had6 => ?_
        refine hST.ld hy2 had6 (Below.refl _ _) (by simp) ?_
        apply CallI.use1
        focus (exact fun w5 h5 => rcmp08_any x y2 w5)
        intro w5 v5 h5 hB5
        refine Branch.mk (fun z7 => ?_) (fun z7 => ?_)
        · have hl : Zo.Lt x y2 := (Zo.cmp_lt x y2).1 (of_decide_eq_true z7)
          have hSc2 := hSc.less hx hy2 hN hl
          refine Need.mk (by simp only [inK]; omega) (EndI.mk fun w10 h10 => ⟨(k + 1, w10, (k : Nat)), Cov.mk (by repeat' (first | exact trivial | refine And.intro rfl ?_)) rfl rfl rfl rfl rfl, rfl, ⟨hlt, h10.below, ((lpT.at h5 (by simp)).go hB5).at h10 (by simp), hSc2⟩, by simp only; omega⟩)
        · have hl : ¬ Zo.Lt x y2 := fun h => of_decide_eq_false z7 ((Zo.cmp_lt x y2).2 h)
          have hSc2 := hSc.keep hx hy2 hl
          refine Need.mk (by simp only [inK]; omega) (EndI.mk fun w10 h10 => ⟨(k + 1, w10, (j : Nat)), Cov.mk (by repeat' (first | exact trivial | refine And.intro rfl ?_)) rfl rfl rfl rfl rfl, rfl, ⟨hlt, h10.below, ((lpT.at h5 (by simp)).go hB5).at h10 (by simp), hSc2⟩, by simp only; omega⟩)
    · have hz : out.length ≠ 0 := by have := of_decide_eq_false z4; omega
      have hSw := hSU.go h2.go h2.go.size
      refine hSw.idx hx fun ad had => ?_
      refine hSw.ld hx had (Below.refl _ _) (by simp) ?_
      refine Need.mk (by simp only [inK]; omega) ?_
      have hlpw := lp.at h2 (by simp)
      obtain ⟨y, hy⟩ : ∃ y, out[out.length - 1]? = some y := ⟨_, List.getElem?_eq_getElem (by omega)⟩
      have hix : ((out.length : Nat) : Int) - 1 = ((out.length - 1 : Nat) : Int) := by omega
      conv => whnf
      rw [hix]
      refine hlpw.own.sl.idx (k := out.length - 1) hy fun ad2 had2 => ?_
      refine hlpw.own.sl.ld hy had2 (Below.refl _ _) (by simp) ?_
      apply CallI.use1
      focus (exact fun w3 h3 => rcmp08_any x y w3)
      intro w3 v3 h3 hB3
      have hNx : Cv.Nx out x ↔ 0 < Zo.cmp x y := by
        rw [Zo.cmp_gt]
        unfold Cv.Nx
        rw [List.getLast?_eq_getElem?, hy]
        exact ⟨fun h => h y rfl, fun h y2 e => by cases e; exact h⟩
      refine DrawI.go (.tk 0 (.tk 1 (.tk 2 (.tk 3 (.tk 4 (.tk 5 (.tk 6 (.tk 7 (.tk 8 (.tk 9 (.tk 10 (.tk 11 (.tk 12 (.ev 13 (.tk 14 (.tk 15 (.tk 16 .done))))))))))))))))) (by kernel_rfl) fun w4 h4 => ?_
      have lpT := ((hlpw.at h3 (by simp)).go hB3).at h4 (by simp)
      refine Branch.mk (fun z5 => ?_) (fun z5 => ?_)
      · have hN := hNx.2 (of_decide_eq_true z5)
        have hST := hS.go h4.below h4.below.size
        refine Branch.mk (fun z6 => ?_) (fun z6 => ?_)
        · have hb : best = -1 := hSc.neg (of_decide_eq_true z6)
          subst hb
          have hSc2 := hSc.first hx hN
          refine Need.mk (by simp only [inK]; omega) (EndI.mk fun w10 h10 => ⟨(k + 1, w10, (k : Nat)), Cov.mk (by repeat' (first | exact trivial | refine And.intro rfl ?_)) rfl rfl rfl rfl rfl, rfl, ⟨hlt, h10.below, lpT.at h10 (by simp), hSc2⟩, by simp only; omega⟩)
        · obtain ⟨j, y2, rfl, hjk, hy2⟩ := hSc.pos (of_decide_eq_false z6)
          refine hST.idx hx fun ad5 had5 => ?_
          refine hST.ld hx had5 (Below.refl _ _) (by simp) ?_
          refine hST.idx hy2 fun ad6 had6 => ?_
          refine hST.ld hy2 had6 (Below.refl _ _) (by simp) ?_
          apply CallI.use1
          focus (exact fun w5 h5 => rcmp08_any x y2 w5)
          intro w5 v5 h5 hB5
          refine Branch.mk (fun z7 => ?_) (fun z7 => ?_)
          · have hl : Zo.Lt x y2 := (Zo.cmp_lt x y2).1 (of_decide_eq_true z7)
            have hSc2 := hSc.less hx hy2 hN hl
            refine Need.mk (by simp only [inK]; omega) (EndI.mk fun w10 h10 => ⟨(k + 1, w10, (k : Nat)), Cov.mk (by repeat' (first | exact trivial | refine And.intro rfl ?_)) rfl rfl rfl rfl rfl, rfl, ⟨hlt, h10.below, ((lpT.at h5 (by simp)).go hB5).at h10 (by simp), hSc2⟩, by simp only; omega⟩)
          · have hl : ¬ Zo.Lt x y2 := fun h => of_decide_eq_false z7 ((Zo.cmp_lt x y2).2 h)
            have hSc2 := hSc.keep hx hy2 hl
            refine Need.mk (by simp only [inK]; omega) (EndI.mk fun w10 h10 => ⟨(k + 1, w10, (j : Nat)), Cov.mk (by repeat' (first | exact trivial | refine And.intro rfl ?_)) rfl rfl rfl rfl rfl, rfl, ⟨hlt, h10.below, ((lpT.at h5 (by simp)).go hB5).at h10 (by simp), hSc2⟩, by simp only; omega⟩)
      · have hN : ¬ Cv.Nx out x := fun h => of_decide_eq_false z5 (hNx.1 h)
        have hSc2 := hSc.skip hx hN
        refine Need.mk (by simp only [inK]; omega) (EndI.mk fun w10 h10 => ⟨(k + 1, w10, best), Cov.mk (by repeat' (first | exact trivial | refine And.intro rfl ?_)) rfl rfl rfl rfl rfl, rfl, ⟨hlt, h10.below, lpT.at h10 (by simp), hSc2⟩, by simp only; omega⟩)
  · have hge : k = l.length := by have := of_decide_eq_false z3; simp only at this; omega
    subst hge
    refine Branch.mk (fun z4 => ?_) (fun z4 => ?_)
    · have hb : best = -1 := hSc.neg (of_decide_eq_true z4)
      subst hb
      have he : out = Cv.sorted l := by rw [← hout] at hSc ⊢; exact hSc.done hp
      rw [he] at lp
      refine EndI.mk fun w10 h10 => ?_
      have := (lp.at h10 (by simp)).own.lower (lp.anc w (by simp))
      rw [← he] at this ⊢
      exact this
    · obtain ⟨j, y, rfl, hjk, hy⟩ := hSc.pos (of_decide_eq_false z4)
      have hm : (Cv.sorted l)[p]? = some y := by rw [← hout] at hSc; exact hSc.more hp hy
      have hpl := (List.getElem?_eq_some_iff.1 hm).1
      have htk : (Cv.sorted l).take (p + 1) = out ++ [y] := by rw [List.take_add_one, hm, hout]; rfl
      refine hSU.idx hy fun ad had => ?_
      refine hSU.ld hy had (Below.refl _ _) (by simp) ?_
      refine NewI.mk fun b1 hb1 => ?_
      have hb1' : U.heap.size ≤ b1 := hb1
      refine GenN.appL (α := Zn) elZ lp (fun y hy => .inr (by simp at hy; omega)) (by simp) [y] (fun w8 h8 => src_own h8 0 rfl rfl rfl rfl) (by simp; omega) (by decide) fun a' c' w8 w9 h8 lp9 hsz hbl => ?_
      refine EndI.mk fun w10 h10 => ⟨(p + 1, w10, .slice a' (out ++ [y]).length c'), Cov.mk (by repeat' (first | exact trivial | refine And.intro rfl ?_)) rfl rfl rfl rfl rfl, rfl, ⟨hpl, h10.below, base, by simp only [htk]; exact lp9.at h10 (by simp)⟩, by simp only; omega⟩
end Go.Proofs.YtgjeeghhhfpkoaaGreat

/-
  The document's answer of layer 12, by the engine: Wanted, Prune.
-/
namespace Go.Proofs.YtgjeeghhhfpkoaaGreat
set_option linter.unusedVariables false
set_option linter.unusedSimpArgs false
set_option maxRecDepth 100000
open Go.RowKit Go.Proofs.YtgjeeghhhfpkoaaGreat.Eng Enc

theorem rwanted_any (l : List Zn) (hl : ∀ z, z ∈ l → Zo.chk z = 0) (hlen : l.length ≤ 4096) (a : Option Addr) (ca : Nat) (w : World) (hS : Sl w.heap.size w (.slice a l.length ca) l) :
    Calls Tryz.prog 124 #[.slice a l.length ca] w (Ret w fun v w' => ∃ a' c', v = .tuple #[.slice a' (Cv.pgo (Cv.sorted l).length (Cv.sorted l)).1.length c', .int .i64 (Cv.pgo (Cv.sorted l).length (Cv.sorted l)).2] ∧ Sl w'.heap.size w' (.slice a' (Cv.pgo (Cv.sorted l).length (Cv.sorted l)).1.length c') (Cv.pgo (Cv.sorted l).length (Cv.sorted l)).1) := by
  refine fun_ret 0 w Tryz.func124 (args := [.val (.slice a l.length ca)]) rfl rfl ?_
  have hsl : (Cv.sorted l).length ≤ 4096 := Nat.le_trans (Cv.sorted_len l) hlen
  have hsc : ∀ z, z ∈ Cv.sorted l → Zo.chk z = 0 := fun z hz => hl z ((Cv.sorted_mem l z).1 hz)
  apply CallI.use
  focus (exact fun w1 h1 => rsorted_any l hlen a ca w1 (hS.go h1.below h1.below.size))
  rintro v w1 v1 h1 hB1 hO1
  obtain ⟨a1, c1, rfl⟩ := hO1.form
  generalize Cv.sorted l = S at *
  refine Need.mk (by simp only [inK]; omega) ?_
  refine LoopI.invC (α := Int × World × Value × List Zn) (fun y => [(5, .val (.int .i64 y.1)), (4, .val y.2.2.1)]) (fun y => y.2.1) (fun y => -1 ≤ y.1 ∧ y.1 < y.2.2.2.length ∧ y.2.2.2.length ≤ 4096 ∧ Below w.heap.size w y.2.1 ∧ Sl y.2.1.heap.size y.2.1 y.2.2.1 y.2.2.2 ∧ (∀ z, z ∈ y.2.2.2 → Zo.chk z = 0) ∧ Cv.pgo S.length S = Cv.pgo (y.1 + 1).toNat y.2.2.2) (fun y => (y.1 + 1).toNat) ?_ ?_
  · intro w2 h2
    exact ⟨((S.length : Int) - 1, w2, .slice a1 S.length c1, S), Cov.mk (by repeat' (first | exact trivial | refine And.intro rfl ?_)) rfl rfl rfl rfl rfl, rfl, by simp only; omega, by simp only; omega, hsl, h2.below, hO1.sl.go h2.go h2.go.size, hsc, by simp⟩
  rintro ⟨i, V, ov, out⟩ ⟨hi, hi2, ho4, hV, hSo, hoc, heq⟩
  simp only at hi hi2 ho4 hV hSo hoc heq
  obtain ⟨ao, co, rfl, _⟩ := hSo.form
  refine Branch.mk (fun z3 => ?_) (fun z3 => ?_)
  · have hge : 0 ≤ i := by have := of_decide_eq_true z3; exact this
    obtain ⟨k, rfl⟩ := Int.eq_ofNat_of_zero_le hge
    have hlt : k < out.length := by omega
    have hx := List.getElem?_eq_getElem (l := out) (i := k) hlt
    generalize out[k] = x at hx
    have hxc := hoc x (List.mem_of_getElem? hx)
    rw [show (((k : Nat) : Int) + 1).toNat = k + 1 by omega, Cv.pgo_succ hx] at heq
    refine DrawI.go (.tk 0 (.tk 1 (.tk 2 (.tk 3 (.tk 4 (.tk 5 (.ev 6 (.ev 7 (.tk 8 (.tk 9 (.tk 10 (.tk 11 (.tk 12 .done))))))))))))) (by kernel_rfl) fun w3 h3 => ?_
    have hS3 := hSo.go h3.go h3.go.size
    refine hS3.idx hx fun ad had => ?_
    refine hS3.ld hx had (Below.refl _ _) (by simp) ?_
    apply CallI.use
    focus (exact fun w4 h4 => rwithout_any out k ho4 ao co w4 (hS3.go h4.go h4.go.size))
    rintro v w4 v4 h4 hB4 hO4
    obtain ⟨a4, c4, rfl⟩ := hO4.form
    have hec : ∀ z, z ∈ out.eraseIdx k → Zo.chk z = 0 := fun z hz => hoc z (List.mem_of_mem_eraseIdx hz)
    have hel : (out.eraseIdx k).length ≤ 4096 := by have := List.length_eraseIdx_le out k; omega
    have hcv := fun w h => rcovered_any x hxc (out.eraseIdx k) hec a4 c4 w h
    rw [Cv.covered_in hel hxc hec] at hcv
    apply CallI.use1
    focus (exact fun w5 h5 => hcv w5 (hO4.sl.go h5.go h5.go.size))
    intro w5 v5 h5 hB5
    generalize Cv.in_ x (out.eraseIdx k) = I at heq
    obtain ⟨is, e⟩ := I
    simp only at heq
    refine Branch.mk (fun z4 => ?_) (fun z4 => ?_)
    · have he : e ≠ 0 := of_decide_eq_true z4
      rw [if_pos he] at heq
      rw [heq]
      exact EndI.mk fun w9 h9 => ⟨_, _, rfl, Sl.nil⟩
    have he : e = 0 := by have := of_decide_eq_false z4; simpa using this
    subst he
    rw [if_neg (by simp)] at heq
    refine Branch.mk (fun z5 => ?_) (fun z5 => ?_)
    · have hi : is = true := by simpa using z5
      subst hi
      rw [if_pos rfl] at heq
      have hS5 := (hO4.sl.go h5.go h5.go.size).go hB5 hB5.size
      have hSb := ((hS3.go h4.go h4.go.size).go hB4 hB4.size)
      have hSb5 := (hSb.go h5.go h5.go.size).go hB5 hB5.size
      apply CallI.use
      focus (exact fun w6 h6 => rwithout_any out k ho4 ao co w6 (hSb5.go h6.go h6.go.size))
      rintro v w6 v6 h6 hB6 hO6
      obtain ⟨a6, c6, rfl⟩ := hO6.form
      have hle : (out.eraseIdx k).length = out.length - 1 := List.length_eraseIdx_of_lt hlt
      refine Need.mk (by simp only [inK]; omega) (EndI.mk fun w10 h10 => ⟨(((k : Nat) : Int) - 1, w10, .slice a6 (out.eraseIdx k).length c6, out.eraseIdx k), Cov.mk (by repeat' (first | exact trivial | refine And.intro rfl ?_)) rfl rfl rfl rfl rfl, rfl, ⟨by simp only; omega, by simp only; omega, hel, h10.below, hO6.sl.go h10.go h10.go.size, hec, by rw [heq]; simp⟩, by simp only; omega⟩)
    · have hi : is = false := by simpa using z5
      subst hi
      rw [if_neg (by simp)] at heq
      have hSb := ((hS3.go h4.go h4.go.size).go hB4 hB4.size)
      have hSb5 := (hSb.go h5.go h5.go.size).go hB5 hB5.size
      refine Need.mk (by simp only [inK]; omega) (EndI.mk fun w10 h10 => ⟨(((k : Nat) : Int) - 1, w10, .slice ao out.length co, out), Cov.mk (by repeat' (first | exact trivial | refine And.intro rfl ?_)) rfl rfl rfl rfl rfl, rfl, ⟨by simp only; omega, by simp only; omega, ho4, h10.below, hSb5.go h10.go h10.go.size, hoc, by rw [heq]; simp⟩, by simp only; omega⟩)
  · have hlt : i = -1 := by have := of_decide_eq_false z3; omega
    subst hlt
    rw [show ((-1 : Int) + 1).toNat = 0 by omega, Cv.pgo] at heq
    rw [heq]
    exact EndI.mk fun w9 h9 => ⟨_, _, rfl, hSo.go h9.go h9.go.size⟩

theorem rprune12_any (l : List Zn) (hl : ∀ z, z ∈ l → Zo.i64 z) (a : Option Addr) (ca : Nat) (w : World) (hS : Sl w.heap.size w (.slice a l.length ca) l) :
    Calls Tryz.prog 52 #[.slice a l.length ca] w (Ret w fun v w' => ∃ a' c', v = .tuple #[.slice a' (Cv.prune l).1.length c', .int .i64 (Cv.prune l).2] ∧ Sl w'.heap.size w' (.slice a' (Cv.prune l).1.length c') (Cv.prune l).1) := by
  refine fun_ret 0 w Tryz.func52 (args := [.val (.slice a l.length ca)]) rfl rfl ?_
  have hone : Cv.checked [l, []] = Cv.checked [l] := by
    unfold Cv.checked
    simp
  apply CallI.use1
  focus (exact fun w1 h1 => rcheck12_any l [] hl (by simp) a none ca 0 w1 (hS.go h1.below h1.below.size) (Sl.nil ..))
  intro w1 v1 h1 hB1
  rw [hone]
  unfold Cv.prune
  refine Branch.mk (fun z3 => ?_) (fun z3 => ?_)
  · have he : Cv.checked [l] ≠ 0 := of_decide_eq_true z3
    rw [if_pos he]
    exact EndI.mk fun w9 h9 => ⟨_, _, rfl, Sl.nil⟩
  have he : Cv.checked [l] = 0 := by have := of_decide_eq_false z3; simpa using this
  rw [if_neg (by simp [he])]
  obtain ⟨hlen, hc⟩ := Cv.checked_one.1 he
  have hS1 := (hS.go h1.below h1.below.size).go hB1 hB1.size
  apply CallI.use
  focus (exact fun w2 h2 => rwanted_any l hc hlen a ca w2 (hS1.go h2.go h2.go.size))
  rintro v w2 v2 h2 hB2 ⟨a2, c2, rfl, hS2⟩
  exact EndI.mk fun w9 h9 => ⟨_, _, rfl, hS2.go h9.go h9.go.size⟩
end Go.Proofs.YtgjeeghhhfpkoaaGreat

/-
  The document's answer of layer 3, by the engine: Low, Part, common, alone, May.
-/
namespace Go.Proofs.YtgjeeghhhfpkoaaGreat
set_option linter.unusedVariables false
set_option linter.unusedSimpArgs false
set_option maxRecDepth 100000
open Go.RowKit Go.Proofs.YtgjeeghhhfpkoaaGreat.Eng Enc

theorem rlow03_any (n d : Int) (hd : 1 ≤ d) (hn : inK .i64 n) (w : World) :
    Calls Tryz.prog 216 #[.int .i64 n, .int .i64 d] w fun e w' => e = .returned (.int .i64 (n / d)) ∧ Below w.heap.size w w' := by
  refine fun_eq 0 w Tryz.func216 (args := [.val (.int .i64 n), .val (.int .i64 d)]) rfl rfl ?_
  obtain ⟨k1, k2⟩ := Fr.floor_eq (n := n) hd
  have k3 : inK .i64 (n.tdiv d) ∧ (n.tmod d < 0 → inK .i64 (n.tdiv d - 1)) := by
    have hq := Fr.ediv_in hd hn
    refine ⟨?_, fun h => by rw [(k1 h).1]; exact hq⟩
    by_cases h : n.tmod d < 0
    · have e := (k1 h).1
      have h0 : n < 0 := by
        rcases Int.lt_or_le n 0 with h | h'
        · exact h
        · have := Int.tmod_nonneg d h'; omega
      have : n / d < 0 := Int.ediv_neg_of_neg_of_pos h0 (by omega)
      simp only [inK] at hq ⊢; omega
    · rw [(k2 h).1]; exact hq
  refine Need.mk ⟨by omega, k3.1⟩ ?_
  refine Need.mk (by omega) ?_
  refine Branch.mk (fun hb => ?_) (fun hb => ?_)
  · obtain ⟨e1, e2⟩ := k1 (by simpa using hb)
    refine Need.mk (k3.2 (by simpa using hb)) ?_
    exact EndI.mk fun w1 h1 => by rw [e1]
  · obtain ⟨e1, e2⟩ := k2 (by simpa using hb)
    exact EndI.mk fun w1 h1 => by rw [e1]
theorem rpart03_any (n d : Int) (hd : 1 ≤ d) (hd2 : inK .i64 d) (w : World) :
    Calls Tryz.prog 217 #[.int .i64 n, .int .i64 d] w fun e w' => e = .returned (.int .i64 (n % d)) ∧ Below w.heap.size w w' := by
  refine fun_eq 0 w Tryz.func217 (args := [.val (.int .i64 n), .val (.int .i64 d)]) rfl rfl ?_
  obtain ⟨k1, k2⟩ := Fr.floor_eq (n := n) hd
  have k4 := Int.emod_nonneg n (by omega : d ≠ 0)
  have k5 := Int.emod_lt_of_pos n (by omega : 0 < d)
  refine Need.mk (by omega) ?_
  refine Branch.mk (fun hb => ?_) (fun hb => ?_)
  · obtain ⟨e1, e2⟩ := k1 (by simpa using hb)
    refine Need.mk ?_ ?_
    · simp only [inK] at hd2 ⊢; omega
    exact EndI.mk fun w1 h1 => by rw [e2]
  · obtain ⟨e1, e2⟩ := k2 (by simpa using hb)
    exact EndI.mk fun w1 h1 => by rw [e2]
theorem rcommon03_any (a b : Nat) (ha : a < 9223372036854775808) (hb : b < 9223372036854775808) (w : World) :
    Calls Tryz.prog 268 #[.int .i64 (a : Nat), .int .i64 (b : Nat)] w fun e w' => e = .returned (.int .i64 (Nat.gcd a b : Nat)) ∧ Below w.heap.size w w' := by
  refine fun_eq 0 w Tryz.func268 (args := [.val (.int .i64 (a : Nat)), .val (.int .i64 (b : Nat))]) rfl rfl ?_
  refine LoopI.invC (α := (Nat × Nat) × World) (fun y => [(0, .val (.int .i64 y.1.1)), (1, .val (.int .i64 y.1.2))]) (fun y => y.2) (fun y => y.1.1 < 9223372036854775808 ∧ y.1.2 < 9223372036854775808 ∧ Nat.gcd y.1.1 y.1.2 = Nat.gcd a b) (fun y => y.1.2) ?_ ?_
  · intro w1 h1
    exact ⟨((a, b), w1), Cov.mk (by repeat' (first | exact trivial | refine And.intro rfl ?_)) rfl rfl rfl rfl rfl, rfl, ha, hb, rfl⟩
  rintro ⟨⟨x, y⟩, W⟩ ⟨hx, hy, hg⟩
  refine Branch.mk (fun hc => ?_) (fun hc => ?_)
  · have hy0 : 0 < y := by
      have : ¬ y = 0 := by simpa using hc
      omega
    have em : ((x : Int)).tmod y = ((x % y : Nat) : Int) := rfl
    have hm : x % y < y := Nat.mod_lt _ hy0
    refine DrawI.go (.tk 0 (.tk 1 (.tk 2 (.tk 3 (.tk 4 (.tk 5 .done)))))) (by kernel_rfl) fun w1 h1 => ?_
    refine Need.mk ?_ ?_
    · show (y : Int) ≠ 0
      omega
    refine EndI.mk fun w2 h2 => ⟨((y, x % y), w2), Cov.mk (by repeat' (first | exact trivial | refine And.intro rfl ?_)) rfl rfl rfl rfl rfl, rfl, ⟨hy, ?_, ?_⟩, hm⟩
    · exact Nat.lt_trans hm hy
    · refine Eq.trans ?_ hg
      show Nat.gcd y (x % y) = Nat.gcd x y
      rw [Nat.gcd_comm x y, Nat.gcd_comm y (x % y)]; exact (Nat.gcd_rec y x).symm
  · refine EndI.mk fun w1 h1 => ?_
    have hy0 : y = 0 := by simpa using hc
    subst hy0
    rw [← hg]
    simp
/-- the numbers of a fraction have no common divisor but one. -/
def Fr.alone (n d : Int) : Bool := decide (((Nat.gcd (n % d).toNat d.toNat : Nat) : Int) = 1)
theorem ralone_any (n d : Int) (hd : 1 ≤ d) (hd2 : inK .i64 d) (w : World) :
    Calls Tryz.prog 215 #[.agg #[.int .i64 n, .int .i64 d]] w fun e w' => e = .returned (.bool (Fr.alone n d)) ∧ Below w.heap.size w w' := by
  refine fun_eq 0 w Tryz.func215 (args := [.agg [.val (.int .i64 n), .val (.int .i64 d)]]) rfl rfl ?_
  have k4 := Int.emod_nonneg n (by omega : d ≠ 0)
  have k5 := Int.emod_lt_of_pos n (by omega : 0 < d)
  have hc : ∀ w, Calls Tryz.prog 268 #[.int .i64 (n % d), .int .i64 d] w fun e w' => e = .returned (.int .i64 (Nat.gcd (n % d).toNat d.toNat : Nat)) ∧ Below w.heap.size w w' := fun w => by
    simp only [inK] at hd2
    have h := rcommon03_any (n % d).toNat d.toNat (by omega) (by omega) w
    rwa [Int.toNat_of_nonneg k4, Int.toNat_of_nonneg (by omega)] at h
  refine NewI.mk fun b1 hb1 => ?_
  refine DrawI.go (.tk 0 (.tk 1 (.tk 2 (.tk 3 (.tk 5 (.tk 6 (.ev 4 (.ev 7 (.tk 8 (.tk 9 .done)))))))))) (by kernel_rfl) fun w1 h1 => ?_
  apply CallI.use1
  focus (exact fun w2 h2 => rpart03_any n d hd hd2 w2)
  intro w2 v2 h2 hB2
  apply CallI.use1
  focus (exact fun w3 h3 => hc w3)
  intro w3 v3 h3 hB3
  exact EndI.mk fun w9 h9 => rfl
theorem Fr.alone_gcd {n d : Int} (hd : 1 ≤ d) : Fr.alone n d = decide (Nat.gcd n.natAbs d.natAbs = 1) := by
  unfold Fr.alone
  have e : Nat.gcd (n % d).toNat d.toNat = Nat.gcd n.natAbs d.natAbs := by
    have h3 : Int.gcd n d = Int.gcd (n % d) d := by
      conv => lhs; rw [← Int.emod_add_mul_ediv n d, Int.mul_comm d, Int.gcd_add_mul_right_left]
    have h4 := Int.emod_nonneg n (by omega : d ≠ 0)
    have h5 : Nat.gcd n.natAbs d.natAbs = Nat.gcd (n % d).natAbs d.natAbs := h3
    rw [h5, show (n % d).natAbs = (n % d).toNat by omega, show d.natAbs = d.toNat by omega]
  rw [e, decide_eq_decide]
  omega
theorem rmay03_any (x : Rt) (hx : x.ins) (w : World) :
    Calls Tryz.prog 141 #[.agg #[.int .i64 x.num, .int .i64 x.den]] w fun e w' => e = .returned (.bool x.ok) ∧ Below w.heap.size w w' := by
  obtain ⟨n, d⟩ := x
  obtain ⟨hn, hd⟩ := hx
  simp only at hn hd
  unfold Rt.ok Fr.okB Fr.inB
  simp only
  refine fun_eq 0 w Tryz.func141 (args := [.agg [.val (.int .i64 n), .val (.int .i64 d)]]) rfl rfl ?_
  refine NewI.mk fun b1 hb1 => ?_
  refine Branch.mk (fun z1 => ?_) (fun z1 => ?_)
  · have h1 : d < 1 := of_decide_eq_true z1
    refine EndI.mk fun w9 h9 => ?_
    rw [decide_eq_false (by omega : ¬ 1 ≤ d)]; rfl
  have h1 : 1 ≤ d := by have := of_decide_eq_false z1; omega
  refine Branch.mk (fun z2 => ?_) (fun z2 => ?_)
  · have h2 : 1048576 < d := of_decide_eq_true z2
    refine EndI.mk fun w9 h9 => ?_
    rw [decide_eq_false (by omega : ¬ d ≤ 1048576)]; simp
  have h2 : d ≤ 1048576 := by have := of_decide_eq_false z2; omega
  have k4 := Int.emod_nonneg n (by omega : d ≠ 0)
  have k5 := Int.emod_lt_of_pos n (by omega : 0 < d)
  rw [decide_eq_true h1, decide_eq_true h2]
  apply CallI.use1
  focus (exact fun w3 h3 => ralone_any n d h1 hd w3)
  intro w3 v3 h3 hB3
  rw [Fr.alone_gcd h1]
  refine Branch.mk (fun z3 => ?_) (fun z3 => ?_)
  · have h3 : decide (n.natAbs.gcd d.natAbs = 1) = false := by simpa using z3
    refine EndI.mk fun w9 h9 => ?_
    rw [h3]; simp
  have h3 : decide (n.natAbs.gcd d.natAbs = 1) = true := by simpa using z3
  rw [h3]
  clear z1 z2 z3 h3
  apply CallI.use1
  focus (exact fun w4 h4 => rlow03_any n d h1 hn w4)
  intro w4 v4 h4 hB4
  refine Branch.mk (fun z4 => ?_) (fun z4 => ?_)
  · have h4 : -2305843009213693952 ≤ n / d := of_decide_eq_true z4
    rw [decide_eq_true h4]
    refine Branch.mk (fun z5 => ?_) (fun z5 => ?_)
    · have h5 : n / d < 2305843009213693952 := of_decide_eq_true z5
      refine EndI.mk fun w9 h9 => ?_
      rw [decide_eq_true h5]; rfl
    have h5 : ¬ n / d < 2305843009213693952 := of_decide_eq_false z5
    rw [decide_eq_false h5]
    refine Branch.mk (fun z6 => ?_) (fun z6 => ?_)
    · rw [z6]
      apply CallI.use1
      focus (exact fun w5 h5 => rpart03_any n d h1 hd w5)
      intro w5 v5 h5 hB5
      exact EndI.mk fun w9 h9 => by simp
    · rw [z6]
      exact EndI.mk fun w9 h9 => rfl
  · have h4 : ¬ -2305843009213693952 ≤ n / d := of_decide_eq_false z4
    refine EndI.mk fun w9 h9 => ?_
    rw [decide_eq_false h4]; rfl
theorem cmpR_low {a b : Rt} (ha : a.ok = true) (hb : b.ok = true) : Fr.cmpR a b = if a.num / a.den = b.num / b.den then cmpI (a.num % a.den * b.den) (b.num % b.den * a.den) else cmpI (a.num / a.den) (b.num / b.den) := by
  have h1 := Fr.ok_bd ha
  have h2 := Fr.ok_bd hb
  have e1 := Int.emod_add_mul_ediv a.num a.den
  have e2 := Int.emod_add_mul_ediv b.num b.den
  unfold Fr.cmpR cmpI
  generalize a.num / a.den = x at *
  generalize b.num / b.den = y at *
  generalize a.num % a.den = r at *
  generalize b.num % b.den = s at *
  rw [← e1, ← e2]
  generalize a.den = p at *
  generalize b.den = q at *
  have hpq : 0 < p * q := Int.mul_pos (by omega) (by omega)
  have hr : r * q < p * q := Int.mul_lt_mul_of_pos_right (by omega) (by omega)
  have hr0 : 0 ≤ r * q := Int.mul_nonneg (by omega) (by omega)
  have hs : s * p < q * p := Int.mul_lt_mul_of_pos_right (by omega) (by omega)
  have hs0 : 0 ≤ s * p := Int.mul_nonneg (by omega) (by omega)
  have E1 : (r + p * x) * q = r * q + x * (p * q) := by grind
  have E2 : (s + q * y) * p = s * p + y * (p * q) := by grind
  rw [Int.mul_comm q p] at hs
  rw [E1, E2]
  generalize r * q = R at *
  generalize s * p = S at *
  generalize p * q = D at *
  by_cases h : x = y
  · subst h
    rw [if_pos rfl]
    generalize x * D = T
    split <;> split <;> (try split) <;> (try split) <;> omega
  rw [if_neg h]
  by_cases h' : x < y
  · have : (x + 1) * D ≤ y * D := Int.mul_le_mul_of_nonneg_right (by omega) (by omega)
    rw [Int.add_mul] at this
    generalize x * D = X at *
    generalize y * D = Y at *
    rw [if_pos (by omega), if_pos h']
  · have : (y + 1) * D ≤ x * D := Int.mul_le_mul_of_nonneg_right (by omega) (by omega)
    rw [Int.add_mul] at this
    generalize x * D = X at *
    generalize y * D = Y at *
    rw [if_neg (by omega), if_pos (by omega), if_neg h', if_pos (by omega)]
theorem rcompared_any (a b : Rt) (ha : a.ok = true) (hb : b.ok = true) (hai : a.ins) (hbi : b.ins) (w : World) :
    Calls Tryz.prog 142 #[.agg #[.int .i64 a.num, .int .i64 a.den], .agg #[.int .i64 b.num, .int .i64 b.den]] w fun e w' => e = .returned (.int .i64 (Fr.cmpR a b)) ∧ Below w.heap.size w w' := by
  rw [cmpR_low ha hb]
  have h1 := Fr.ok_bd ha
  have h2 := Fr.ok_bd hb
  have m1 := Fr.mul_bd (u := a.num % a.den) (v := b.den) (m := 1048576) (n := 1048576) (by omega) (by omega) (by omega) (by omega)
  have m2 := Fr.mul_bd (u := b.num % b.den) (v := a.den) (m := 1048576) (n := 1048576) (by omega) (by omega) (by omega) (by omega)
  refine fun_eq 0 w Tryz.func142 (args := [.agg [.val (.int .i64 a.num), .val (.int .i64 a.den)], .agg [.val (.int .i64 b.num), .val (.int .i64 b.den)]]) rfl rfl ?_
  refine NewI.mk fun b1 hb1 => ?_
  refine NewI.mk fun b2 hb2 => ?_
  apply CallI.use1
  focus (exact fun w4 h4 => rlow03_any a.num a.den h1.1 hai.1 w4)
  intro w4 v4 h4 hB4
  apply CallI.use1
  focus (exact fun w5 h5 => rlow03_any b.num b.den h2.1 hbi.1 w5)
  intro w5 v5 h5 hB5
  have fin : ∀ x y : Int, (if x < y then (-1 : Int) else if y < x then 1 else 0) = cmpI x y := fun x y => rfl
  refine Branch.mk (fun z1 => ?_) (fun z1 => ?_)
  · have he : a.num / a.den = b.num / b.den := of_decide_eq_true z1
    rw [if_pos he]
    refine DrawI.go (.tk 0 (.tk 1 (.tk 2 (.tk 3 (.tk 5 (.tk 6 (.ev 4 (.tk 7 (.tk 8 .done))))))))) (by kernel_rfl) fun w6 h6 => ?_
    apply CallI.use1
    focus (exact fun w6 h6 => rpart03_any a.num a.den h1.1 hai.2 w6)
    intro w7 v7 h7 hB7
    refine Need.mk (by simp only [inK]; omega) ?_
    refine DrawI.go (.tk 0 (.tk 1 (.tk 2 (.tk 3 (.tk 5 (.tk 6 (.ev 4 (.tk 7 (.tk 8 .done))))))))) (by kernel_rfl) fun w8 h8 => ?_
    apply CallI.use1
    focus (exact fun w6 h6 => rpart03_any b.num b.den h2.1 hbi.2 w6)
    intro w9 v9 h9 hB9
    refine Need.mk (by simp only [inK]; omega) ?_
    unfold cmpI
    refine Branch.mk (fun z2 => ?_) (fun z2 => ?_)
    · rw [if_pos (of_decide_eq_true z2)]
      exact EndI.mk fun w9 h9 => rfl
    rw [if_neg (of_decide_eq_false z2)]
    refine Branch.mk (fun z3 => ?_) (fun z3 => ?_)
    · rw [if_pos (of_decide_eq_true z3)]
      exact EndI.mk fun w9 h9 => rfl
    rw [if_neg (of_decide_eq_false z3)]
    exact EndI.mk fun w9 h9 => rfl
  · rw [if_neg (of_decide_eq_false z1)]
    unfold cmpI
    refine Branch.mk (fun z2 => ?_) (fun z2 => ?_)
    · rw [if_pos (of_decide_eq_true z2)]
      exact EndI.mk fun w9 h9 => rfl
    rw [if_neg (of_decide_eq_false z2)]
    refine Branch.mk (fun z3 => ?_) (fun z3 => ?_)
    · rw [if_pos (of_decide_eq_true z3)]
      exact EndI.mk fun w9 h9 => rfl
    rw [if_neg (of_decide_eq_false z3)]
    exact EndI.mk fun w9 h9 => rfl
end Go.Proofs.YtgjeeghhhfpkoaaGreat

/-
  The document's answer of layer 3, by the engine: Made, Add, Mid.
-/
namespace Go.Proofs.YtgjeeghhhfpkoaaGreat
set_option linter.unusedVariables false
set_option linter.unusedSimpArgs false
set_option maxRecDepth 100000
open Go.RowKit Go.Proofs.YtgjeeghhhfpkoaaGreat.Eng Enc

namespace Fr
/-- a whole number and a part of it, as far as it may be. -/
def made (W p d : Int) : Rt × Bool :=
  if 1048576 < d ∨ 2305843009213693952 < W ∨ W < -2305843009213693952 then (⟨0, 0⟩, false)
  else if inI (W * d + p) = true then (⟨W * d + p, d⟩, okB (W * d + p) d) else (⟨0, 0⟩, false)
theorem made_finish {W p d : Int} (hg : Int.gcd p d = 1) : finish W p d = if (made W p d).2 = true then ((made W p d).1, 0) else (⟨0, 0⟩, 10) := by
  have hgW : Int.gcd (W * d + p) d = 1 := by rw [Int.add_comm, Int.gcd_add_mul_right_left]; exact hg
  unfold finish made low
  rw [hgW]
  by_cases hor : 1048576 < d ∨ 2305843009213693952 < W ∨ W < -2305843009213693952
  · simp only [if_pos hor]
    by_cases h1 : 1048576 < d
    · rw [if_pos h1]; rfl
    · rw [if_neg h1, if_pos]
      · rfl
      · unfold Num.chk Num.okB
        simp
        omega
  · simp only [if_neg hor]
    rw [if_neg (by omega), if_neg]
    · by_cases h3 : inI (W * d + p) = true
      · rw [if_pos h3, if_pos h3]; simp
      · rw [if_neg h3, if_neg h3]; rfl
    · unfold Num.chk Num.okB
      simp
      omega
end Fr
theorem rcommonI_any (P D : Int) (hP : 0 ≤ P) (hD : 0 ≤ D) (h1 : inK .i64 P) (h2 : inK .i64 D) (w : World) :
    Calls Tryz.prog 268 #[.int .i64 P, .int .i64 D] w fun e w' => e = .returned (.int .i64 (Int.gcd P D : Nat)) ∧ Below w.heap.size w w' := by
  simp only [inK] at h1 h2
  have h := rcommon03_any P.natAbs D.natAbs (by omega) (by omega) w
  rwa [show ((P.natAbs : Nat) : Int) = P by omega, show ((D.natAbs : Nat) : Int) = D by omega] at h
theorem edge_hi {K d W : Int} (hd : 1 ≤ d) (hK : 0 ≤ K) : K.tdiv d < W ↔ K < W * d := by
  rw [Int.tdiv_eq_ediv_of_nonneg hK]; exact Int.ediv_lt_iff_lt_mul (by omega)
theorem edge_lo {M d W : Int} (hd : 1 ≤ d) (hM : 0 ≤ M) : W < (-M).tdiv d ↔ W * d < -M := by
  rw [Int.neg_tdiv, Int.tdiv_eq_ediv_of_nonneg hM]
  have := Int.ediv_lt_iff_lt_mul (a := M) (b := -W) (c := d) (by omega)
  rw [Int.neg_mul] at this; omega
theorem tdiv_in {K d : Int} (hd : 1 ≤ d) (hK : inK .i64 K) : inK .i64 (K.tdiv d) := by
  simp only [inK] at hK ⊢
  by_cases h : 0 ≤ K
  · rw [Int.tdiv_eq_ediv_of_nonneg h]
    have := Int.ediv_le_self d h
    have := Int.ediv_nonneg h (by omega : 0 ≤ d)
    omega
  · have e : K = -(-K) := by omega
    rw [e, Int.neg_tdiv, Int.tdiv_eq_ediv_of_nonneg (by omega)]
    have := Int.ediv_le_self d (by omega : 0 ≤ -K)
    have := Int.ediv_nonneg (by omega : 0 ≤ -K) (by omega : 0 ≤ d)
    omega
theorem rmade03_any (W P D : Int) (hW : -9223372036854775807 ≤ W ∧ W < 9223372036854775807) (hP : 0 ≤ P ∧ P < D) (hD : D ≤ 4398046511104) (w : World) :
    Calls Tryz.prog 249 #[.int .i64 W, .int .i64 P, .int .i64 D] w fun e w' => e = .returned (.tuple #[.agg #[.int .i64 (Fr.made W (P / Int.gcd P D) (D / Int.gcd P D)).1.num, .int .i64 (Fr.made W (P / Int.gcd P D) (D / Int.gcd P D)).1.den], .bool (Fr.made W (P / Int.gcd P D) (D / Int.gcd P D)).2]) ∧ Below w.heap.size w w' := by
  refine fun_eq 0 w Tryz.func249 (args := [.val (.int .i64 W), .val (.int .i64 P), .val (.int .i64 D)]) rfl rfl ?_
  have hcm := fun w => rcommonI_any P D hP.1 (by omega) (by simp only [inK]; omega) (by simp only [inK]; omega) w
  obtain ⟨hg, _, _, hp, hd1, hd2⟩ := Fr.red (T := 0 * D + P) (W := 0) (D := D) (p := P) (by omega) hP rfl
  have t1 : P.tdiv (Int.gcd P D) = P / (Int.gcd P D : Int) := Int.tdiv_eq_ediv_of_nonneg hP.1
  have t2 : D.tdiv (Int.gcd P D) = D / (Int.gcd P D : Int) := Int.tdiv_eq_ediv_of_nonneg (by omega)
  generalize (Int.gcd P D : Int) = g at *
  refine NewI.mk fun b1 hb1 => ?_
  apply CallI.use1
  focus (exact fun w2 h2 => hcm w2)
  intro w2 v2 h2 hB2
  generalize P / g = p at *
  generalize D / g = d at *
  refine Need.mk ⟨by omega, by rw [t1]; simp only [inK]; omega⟩ ?_
  refine Need.mk ⟨by omega, by rw [t2]; simp only [inK]; omega⟩ ?_
  conv => whnf
  rw [t1, t2]
  unfold Fr.made
  refine Branch.mk (fun z1 => ?_) (fun z1 => ?_)
  · refine EndI.mk fun w9 h9 => ?_
    rw [if_pos (.inl (of_decide_eq_true z1))]
  refine Branch.mk (fun z2 => ?_) (fun z2 => ?_)
  · refine EndI.mk fun w9 h9 => ?_
    rw [if_pos (.inr (.inl (of_decide_eq_true z2)))]
  refine Branch.mk (fun z3 => ?_) (fun z3 => ?_)
  · refine EndI.mk fun w9 h9 => ?_
    rw [if_pos (.inr (.inr (of_decide_eq_true z3)))]
  replace z1 := of_decide_eq_false z1
  replace z2 := of_decide_eq_false z2
  replace z3 := of_decide_eq_false z3
  rw [if_neg (by omega)]
  have hdd : d ≤ 1048576 := by omega
  have hWd1 : W * d ≤ 2305843009213693952 * d := Int.mul_le_mul_of_nonneg_right (by omega) (by omega)
  have hWd2 : -2305843009213693952 * d ≤ W * d := Int.mul_le_mul_of_nonneg_right (by omega) (by omega)
  refine Branch.mk (fun z4 => ?_) (fun z4 => ?_)
  · replace z4 := of_decide_eq_true z4
    have em1 : maxL 0 [p - d] = 0 := by simp only [maxL]; split <;> omega
    have em2 : minL 0 [p - d] = p - d := by simp only [minL]; split <;> omega
    have hm : (W + 1) * d = W * d + d := by rw [Int.add_mul, Int.one_mul]
    have hm0 : (W + 1) * d ≤ 0 := by rw [Int.mul_comm]; exact Int.mul_nonpos_of_nonneg_of_nonpos (by omega) (by omega)
    refine Need.mk (by simp only [inK]; omega) ?_
    refine Need.mk (by simp only [inK]; omega) ?_
    conv => whnf
    rw [em1]
    refine Need.mk (by simp only [inK]; omega) ?_
    refine Need.mk ⟨by omega, tdiv_in (by omega) (by simp only [inK]; omega)⟩ ?_
    refine Branch.no (decide_eq_false ?_) ?_
    · intro h
      have := (edge_hi (by omega) (by omega)).1 h
      omega
    conv => whnf
    rw [em2]
    refine Need.mk (by simp only [inK]; omega) ?_
    refine Need.mk ⟨by omega, tdiv_in (by omega) (by simp only [inK]; omega)⟩ ?_
    have he := edge_lo (M := 9223372036854775808 + (p - d)) (d := d) (W := W + 1) (by omega) (by omega)
    rw [show -(9223372036854775808 + (p - d)) = -9223372036854775808 - (p - d) by omega] at he
    refine Branch.mk (fun z5 => ?_) (fun z5 => ?_)
    · have h5 := he.1 (of_decide_eq_true z5)
      refine EndI.mk fun w9 h9 => ?_
      rw [if_neg]
      unfold Fr.inI; simp; omega
    · have h5 : ¬ _ := fun h => of_decide_eq_false z5 (he.2 h)
      refine Need.mk (by simp only [inK]; omega) ?_
      refine Need.mk (by simp only [inK]; omega) ?_
      refine NewI.mk fun b3 hb3 => ?_
      conv => whnf
      rw [show (W + 1) * d + (p - d) = W * d + p by omega]
      have hI : Fr.inI (W * d + p) = true := by unfold Fr.inI; simp; omega
      rw [if_pos hI]
      refine DrawI.wr (.tk 0 (.tk 1 (.ev 2 (.ev 3 (.tk 4 .done))))) [0] [] (by kernel_rfl) rfl (by simp) fun w6 h6 => ?_
      apply CallI.use1
      focus (exact fun w7 h7 => rmay03_any ⟨W * d + p, d⟩ ⟨by simp only [inK]; omega, by simp only [inK]; omega⟩ w7)
      intro w7 v7 h7 hB7
      exact EndI.mk fun w9 h9 => rfl
  · replace z4 := of_decide_eq_false z4
    have em1 : maxL 0 [p] = p := by simp only [maxL]; split <;> omega
    have em2 : minL 0 [p] = 0 := by simp only [minL]; split <;> omega
    have hm0 : 0 ≤ W * d := Int.mul_nonneg (by omega) (by omega)
    conv => whnf
    rw [em1]
    refine Need.mk (by simp only [inK]; omega) ?_
    refine Need.mk ⟨by omega, tdiv_in (by omega) (by simp only [inK]; omega)⟩ ?_
    have he := edge_hi (K := 9223372036854775807 - p) (d := d) (W := W) (by omega) (by omega)
    refine Branch.mk (fun z5 => ?_) (fun z5 => ?_)
    · have h5 := he.1 (of_decide_eq_true z5)
      refine EndI.mk fun w9 h9 => ?_
      rw [if_neg]
      unfold Fr.inI; simp; omega
    have h5 : ¬ _ := fun h => of_decide_eq_false z5 (he.2 h)
    conv => whnf
    rw [em2]
    refine Need.mk (by simp only [inK]; omega) ?_
    refine Need.mk ⟨by omega, tdiv_in (by omega) (by simp only [inK]; omega)⟩ ?_
    have he := edge_lo (M := 9223372036854775808) (d := d) (W := W) (by omega) (by omega)
    refine Branch.no (decide_eq_false ?_) ?_
    · intro h
      have := he.1 h
      omega
    refine Need.mk (by simp only [inK]; omega) ?_
    refine Need.mk (by simp only [inK]; omega) ?_
    refine NewI.mk fun b3 hb3 => ?_
    have hI : Fr.inI (W * d + p) = true := by unfold Fr.inI; simp; omega
    rw [if_pos hI]
    refine DrawI.wr (.tk 0 (.tk 1 (.ev 2 (.ev 3 (.tk 4 .done))))) [0] [] (by kernel_rfl) rfl (by simp) fun w6 h6 => ?_
    apply CallI.use1
    focus (exact fun w7 h7 => rmay03_any ⟨W * d + p, d⟩ ⟨by simp only [inK]; omega, by simp only [inK]; omega⟩ w7)
    intro w7 v7 h7 hB7
    exact EndI.mk fun w9 h9 => rfl
namespace Fr
theorem made_sum {a b : Rt} {k : Int} (ha : a.ok = true) (hb : b.ok = true) (hk : k = 1 ∨ k = 2) :
    sum a b k = if (made (sW a b k) (sPart a b k / Int.gcd (sPart a b k) (sDen a b * k)) (sDen a b * k / Int.gcd (sPart a b k) (sDen a b * k))).2 = true then ((made (sW a b k) (sPart a b k / Int.gcd (sPart a b k) (sDen a b * k)) (sDen a b * k / Int.gcd (sPart a b k) (sDen a b * k))).1, 0) else (⟨0, 0⟩, 10) := by
  rw [← finish_sum ha hb hk]
  refine made_finish ?_
  have hd := dn_pos ha hb hk
  have := Int.gcd_ediv_gcd_ediv_gcd (i := sPart a b k) (j := sDen a b * k) (by have := Int.gcd_pos_of_ne_zero_right (sPart a b k) (b := sDen a b * k) (by omega); omega)
  exact this
end Fr
theorem radd03_any (a b : Rt) (ha : a.ins) (hb : b.ins) (w : World) :
    Calls Tryz.prog 191 #[.agg #[.int .i64 a.num, .int .i64 a.den], .agg #[.int .i64 b.num, .int .i64 b.den]] w fun e w' => e = .returned (.tuple #[.agg #[.int .i64 (Fr.add a b).1.num, .int .i64 (Fr.add a b).1.den], .int .i64 (Fr.add a b).2]) ∧ Below w.heap.size w w' := by
  refine fun_eq 0 w Tryz.func191 (args := [.agg [.val (.int .i64 a.num), .val (.int .i64 a.den)], .agg [.val (.int .i64 b.num), .val (.int .i64 b.den)]]) rfl rfl ?_
  refine NewI.mk fun b1 hb1 => ?_
  refine NewI.mk fun b2 hb2 => ?_
  refine NewI.mk fun b3 hb3 => ?_
  unfold Fr.add
  apply CallI.use1
  focus (exact fun x11 g11 => rmay03_any a ha x11)
  intro x11 v11 g11 hB11
  refine Branch.mk (fun z1 => ?_) (fun z1 => ?_)
  · refine EndI.mk fun w9 h9 => ?_
    rw [if_neg (by intro h; rw [h.1] at z1; cases z1)]
  apply CallI.use1
  focus (exact fun x12 g12 => rmay03_any b hb x12)
  intro x12 v12 g12 hB12
  refine Branch.mk (fun z2 => ?_) (fun z2 => ?_)
  · refine EndI.mk fun w9 h9 => ?_
    rw [if_neg (by intro h; rw [h.2] at z2; cases z2)]
  have oka : a.ok = true := by simpa using z1
  have okb : b.ok = true := by simpa using z2
  rw [if_pos ⟨oka, okb⟩]
  have h1 := Fr.ok_bd oka
  have h2 := Fr.ok_bd okb
  have hd := Fr.dn_pos oka okb (k := 1) (by decide)
  have hs := Fr.sum_bd oka okb (k := 1) (by decide)
  have hd0 : 1 ≤ a.den * b.den ∧ a.den * b.den ≤ 1099511627776 := ⟨hd.1, hd.2.1⟩
  have hm0 : Fr.sWhole a b % 1 * (a.den * b.den) ≤ 1099511627776 ∧ 0 ≤ Fr.sWhole a b % 1 * (a.den * b.den) := ⟨hs.2.2.2.1.2, hs.2.2.2.1.1⟩
  have hm := Fr.made_sum oka okb (k := 1) (by decide)
  change Fr.sum a b 1 = if (Fr.made (Fr.sWhole a b / 1 + Fr.sRest2 a b 1 / (Fr.sDen a b * 1)) _ _).2 = true then ((Fr.made (Fr.sWhole a b / 1 + Fr.sRest2 a b 1 / (Fr.sDen a b * 1)) _ _).1, 0) else (⟨0, 0⟩, 10) at hm
  have hq : (Fr.sRest2 a b 1).tdiv (Fr.sDen a b * 1) = Fr.sRest2 a b 1 / (Fr.sDen a b * 1) := Int.tdiv_eq_ediv_of_nonneg hs.2.2.2.2.1.1
  have hr : (Fr.sRest2 a b 1).tmod (Fr.sDen a b * 1) = Fr.sPart a b 1 := Int.tmod_eq_emod_of_nonneg hs.2.2.2.2.1.1
  refine Need.mk (by simp only [inK]; omega) ?_
  have eD : a.den * b.den = Fr.sDen a b * 1 := by unfold Fr.sDen; omega
  have eR : a.num % a.den * b.den + b.num % b.den * a.den = Fr.sRest2 a b 1 := by unfold Fr.sRest2 Fr.sRest; simp [Int.emod_one]
  have eN : a.num / a.den + b.num / b.den = Fr.sWhole a b / 1 := by unfold Fr.sWhole; omega
  refine DrawI.go (.tk 0 (.tk 1 (.tk 2 (.tk 3 (.tk 5 (.tk 6 (.tk 8 (.tk 9 (.tk 10 (.tk 11 (.tk 13 (.tk 14 (.ev 4 (.tk 7 (.ev 12 (.tk 15 (.tk 16 (.tk 17 .done)))))))))))))))))) (by kernel_rfl) fun w3 h3 => ?_
  apply CallI.use1
  focus (exact fun x13 g13 => rpart03_any a.num a.den h1.1 ha.2 x13)
  intro x13 v13 g13 hB13
  refine Need.mk (by simp only [inK]; omega) ?_
  apply CallI.use1
  focus (exact fun x14 g14 => rpart03_any b.num b.den h2.1 hb.2 x14)
  intro x14 v14 g14 hB14
  refine Need.mk (by simp only [inK]; omega) ?_
  refine Need.mk (by simp only [inK]; omega) ?_
  refine DrawI.go (.tk 0 (.tk 1 (.tk 2 (.tk 3 (.tk 5 (.tk 6 (.tk 7 (.tk 8 (.tk 11 (.tk 12 (.tk 13 (.tk 15 (.tk 16 (.tk 17 (.tk 18 (.two 4 (.two 9 (.tk 10 (.tk 14 (.two 19 (.tk 20 (.tk 21 (.tk 22 (.ev 23 (.ev 24 (.tk 25 .done)))))) 23 (.ev 19 (.tk 20 (.tk 21 (.tk 22 (.ev 24 (.tk 25 .done))))))))) 23 (.ev 9 (.tk 10 (.tk 14 (.ev 19 (.tk 20 (.tk 21 (.tk 22 (.ev 24 (.tk 25 .done)))))))))) 23 (.ev 4 (.ev 9 (.tk 10 (.tk 14 (.ev 19 (.tk 20 (.tk 21 (.tk 22 (.ev 24 (.tk 25 .done)))))))))))))))))))))))))) (by kernel_rfl) fun w6 h6 => ?_
  conv => whnf
  rw [eR, eD]
  refine Need.mk (by rw [hq]; simp only [inK]; omega) ?_
  refine Need.mk (by omega) ?_
  conv => whnf
  rw [hr]
  refine Both.mk ?_ ?_
  · skip
    apply CallI.use1
    focus (exact fun x21 g21 => rlow03_any a.num a.den h1.1 ha.1 x21)
    intro x21 v21 g21 hB21
    refine Both.mk ?_ ?_
    · skip
      apply CallI.use1
      focus (exact fun x22 g22 => rlow03_any b.num b.den h2.1 hb.1 x22)
      intro x22 v22 g22 hB22
      refine Need.mk (by simp only [inK]; omega) ?_
      conv => whnf
      rw [hq, eN]
      refine Need.mk (by simp only [inK]; omega) ?_
      refine Both.mk ?_ ?_
      · skip
        apply CallI.use1
        focus (exact fun x23 g23 => rmade03_any (Fr.sWhole a b / 1 + Fr.sRest2 a b 1 / (Fr.sDen a b * 1)) (Fr.sPart a b 1) (Fr.sDen a b * 1) (by omega) (by omega) (by omega) x23)
        intro x23 v23 g23 hB23
        generalize Fr.made (Fr.sWhole a b / 1 + Fr.sRest2 a b 1 / (Fr.sDen a b * 1)) (Fr.sPart a b 1 / (Int.gcd (Fr.sPart a b 1) (Fr.sDen a b * 1) : Int)) (Fr.sDen a b * 1 / (Int.gcd (Fr.sPart a b 1) (Fr.sDen a b * 1) : Int)) = M at hm ⊢
        refine NewI.mk fun c24 hc24 => ?_
        refine Branch.mk (fun zz => ?_) (fun zz => ?_)
        · exact EndI.mk fun w9 h9 => by rw [hm, if_neg (by simpa using zz)]
        · exact EndI.mk fun w9 h9 => by rw [hm, if_pos (by simpa using zz)]
      · skip
        refine NewI.mk fun c25 hc25 => ?_
        apply CallI.use1
        focus (exact fun x26 g26 => rmade03_any (Fr.sWhole a b / 1 + Fr.sRest2 a b 1 / (Fr.sDen a b * 1)) (Fr.sPart a b 1) (Fr.sDen a b * 1) (by omega) (by omega) (by omega) x26)
        intro x26 v26 g26 hB26
        generalize Fr.made (Fr.sWhole a b / 1 + Fr.sRest2 a b 1 / (Fr.sDen a b * 1)) (Fr.sPart a b 1 / (Int.gcd (Fr.sPart a b 1) (Fr.sDen a b * 1) : Int)) (Fr.sDen a b * 1 / (Int.gcd (Fr.sPart a b 1) (Fr.sDen a b * 1) : Int)) = M at hm ⊢
        refine Branch.mk (fun zz => ?_) (fun zz => ?_)
        · exact EndI.mk fun w9 h9 => by rw [hm, if_neg (by simpa using zz)]
        · exact EndI.mk fun w9 h9 => by rw [hm, if_pos (by simpa using zz)]
    · skip
      refine NewI.mk fun c27 hc27 => ?_
      apply CallI.use1
      focus (exact fun x28 g28 => rlow03_any b.num b.den h2.1 hb.1 x28)
      intro x28 v28 g28 hB28
      refine Need.mk (by simp only [inK]; omega) ?_
      conv => whnf
      rw [hq, eN]
      refine Need.mk (by simp only [inK]; omega) ?_
      apply CallI.use1
      focus (exact fun x29 g29 => rmade03_any (Fr.sWhole a b / 1 + Fr.sRest2 a b 1 / (Fr.sDen a b * 1)) (Fr.sPart a b 1) (Fr.sDen a b * 1) (by omega) (by omega) (by omega) x29)
      intro x29 v29 g29 hB29
      generalize Fr.made (Fr.sWhole a b / 1 + Fr.sRest2 a b 1 / (Fr.sDen a b * 1)) (Fr.sPart a b 1 / (Int.gcd (Fr.sPart a b 1) (Fr.sDen a b * 1) : Int)) (Fr.sDen a b * 1 / (Int.gcd (Fr.sPart a b 1) (Fr.sDen a b * 1) : Int)) = M at hm ⊢
      refine Branch.mk (fun zz => ?_) (fun zz => ?_)
      · exact EndI.mk fun w9 h9 => by rw [hm, if_neg (by simpa using zz)]
      · exact EndI.mk fun w9 h9 => by rw [hm, if_pos (by simpa using zz)]
  · skip
    refine NewI.mk fun c30 hc30 => ?_
    apply CallI.use1
    focus (exact fun x31 g31 => rlow03_any a.num a.den h1.1 ha.1 x31)
    intro x31 v31 g31 hB31
    apply CallI.use1
    focus (exact fun x32 g32 => rlow03_any b.num b.den h2.1 hb.1 x32)
    intro x32 v32 g32 hB32
    refine Need.mk (by simp only [inK]; omega) ?_
    conv => whnf
    rw [hq, eN]
    refine Need.mk (by simp only [inK]; omega) ?_
    apply CallI.use1
    focus (exact fun x33 g33 => rmade03_any (Fr.sWhole a b / 1 + Fr.sRest2 a b 1 / (Fr.sDen a b * 1)) (Fr.sPart a b 1) (Fr.sDen a b * 1) (by omega) (by omega) (by omega) x33)
    intro x33 v33 g33 hB33
    generalize Fr.made (Fr.sWhole a b / 1 + Fr.sRest2 a b 1 / (Fr.sDen a b * 1)) (Fr.sPart a b 1 / (Int.gcd (Fr.sPart a b 1) (Fr.sDen a b * 1) : Int)) (Fr.sDen a b * 1 / (Int.gcd (Fr.sPart a b 1) (Fr.sDen a b * 1) : Int)) = M at hm ⊢
    refine Branch.mk (fun zz => ?_) (fun zz => ?_)
    · exact EndI.mk fun w9 h9 => by rw [hm, if_neg (by simpa using zz)]
    · exact EndI.mk fun w9 h9 => by rw [hm, if_pos (by simpa using zz)]
theorem rmid03_any (a b : Rt) (ha : a.ins) (hb : b.ins) (w : World) :
    Calls Tryz.prog 302 #[.agg #[.int .i64 a.num, .int .i64 a.den], .agg #[.int .i64 b.num, .int .i64 b.den]] w fun e w' => e = .returned (.tuple #[.agg #[.int .i64 (Fr.mid a b).1.num, .int .i64 (Fr.mid a b).1.den], .int .i64 (Fr.mid a b).2]) ∧ Below w.heap.size w w' := by
  refine fun_eq 0 w Tryz.func302 (args := [.agg [.val (.int .i64 a.num), .val (.int .i64 a.den)], .agg [.val (.int .i64 b.num), .val (.int .i64 b.den)]]) rfl rfl ?_
  refine NewI.mk fun b1 hb1 => ?_
  refine NewI.mk fun b2 hb2 => ?_
  refine NewI.mk fun b3 hb3 => ?_
  unfold Fr.mid
  apply CallI.use1
  focus (exact fun x11 g11 => rmay03_any a ha x11)
  intro x11 v11 g11 hB11
  refine Branch.mk (fun z1 => ?_) (fun z1 => ?_)
  · refine EndI.mk fun w9 h9 => ?_
    rw [if_neg (by intro h; rw [h.1] at z1; cases z1)]
  apply CallI.use1
  focus (exact fun x12 g12 => rmay03_any b hb x12)
  intro x12 v12 g12 hB12
  refine Branch.mk (fun z2 => ?_) (fun z2 => ?_)
  · refine EndI.mk fun w9 h9 => ?_
    rw [if_neg (by intro h; rw [h.2] at z2; cases z2)]
  have oka : a.ok = true := by simpa using z1
  have okb : b.ok = true := by simpa using z2
  rw [if_pos ⟨oka, okb⟩]
  have h1 := Fr.ok_bd oka
  have h2 := Fr.ok_bd okb
  have hd := Fr.dn_pos oka okb (k := 2) (by decide)
  have hs := Fr.sum_bd oka okb (k := 2) (by decide)
  have hd0 : 1 ≤ a.den * b.den ∧ a.den * b.den ≤ 1099511627776 := ⟨hd.1, hd.2.1⟩
  have hm0 : Fr.sWhole a b % 2 * (a.den * b.den) ≤ 1099511627776 ∧ 0 ≤ Fr.sWhole a b % 2 * (a.den * b.den) := ⟨hs.2.2.2.1.2, hs.2.2.2.1.1⟩
  have hm := Fr.made_sum oka okb (k := 2) (by decide)
  change Fr.sum a b 2 = if (Fr.made (Fr.sWhole a b / 2 + Fr.sRest2 a b 2 / (Fr.sDen a b * 2)) _ _).2 = true then ((Fr.made (Fr.sWhole a b / 2 + Fr.sRest2 a b 2 / (Fr.sDen a b * 2)) _ _).1, 0) else (⟨0, 0⟩, 10) at hm
  have hq : (Fr.sRest2 a b 2).tdiv (Fr.sDen a b * 2) = Fr.sRest2 a b 2 / (Fr.sDen a b * 2) := Int.tdiv_eq_ediv_of_nonneg hs.2.2.2.2.1.1
  have hr : (Fr.sRest2 a b 2).tmod (Fr.sDen a b * 2) = Fr.sPart a b 2 := Int.tmod_eq_emod_of_nonneg hs.2.2.2.2.1.1
  refine Need.mk (by simp only [inK]; omega) ?_
  have eD : 2 * (a.den * b.den) = Fr.sDen a b * 2 := by unfold Fr.sDen; omega
  have eR : Fr.sWhole a b % 2 * (a.den * b.den) + a.num % a.den * b.den + b.num % b.den * a.den = Fr.sRest2 a b 2 := by unfold Fr.sRest2 Fr.sRest Fr.sDen; omega
  have eN : a.num / a.den + b.num / b.den = Fr.sWhole a b := rfl
  refine DrawI.go (.tk 0 (.tk 1 (.tk 2 (.tk 3 (.tk 5 (.tk 6 (.tk 7 (.tk 8 (.ev 4 (.ev 9 (.tk 10 (.tk 11 .done)))))))))))) (by kernel_rfl) fun w3 h3 => ?_
  apply CallI.use1
  focus (exact fun x13 g13 => rlow03_any a.num a.den h1.1 ha.1 x13)
  intro x13 v13 g13 hB13
  apply CallI.use1
  focus (exact fun x14 g14 => rlow03_any b.num b.den h2.1 hb.1 x14)
  intro x14 v14 g14 hB14
  conv => whnf
  rw [eN]
  refine Need.mk (by simp only [inK]; omega) ?_
  refine DrawI.go (.tk 0 (.tk 2 (.tk 4 (.tk 5 (.tk 6 (.tk 7 (.tk 9 (.tk 10 (.tk 13 (.tk 14 (.tk 15 (.tk 16 (.tk 18 (.tk 19 (.ev 1 (.tk 3 (.ev 8 (.tk 11 (.tk 12 (.ev 17 (.tk 20 (.tk 21 (.tk 22 .done))))))))))))))))))))))) (by kernel_rfl) fun w4 h4 => ?_
  apply CallI.use1
  focus (exact fun x15 g15 => rpart03_any (Fr.sWhole a b) 2 (by decide) (by simp only [inK]; omega) x15)
  intro x15 v15 g15 hB15
  refine Need.mk (by simp only [inK]; omega) ?_
  apply CallI.use1
  focus (exact fun x16 g16 => rpart03_any a.num a.den h1.1 ha.2 x16)
  intro x16 v16 g16 hB16
  refine Need.mk (by simp only [inK]; omega) ?_
  refine Need.mk (by simp only [inK]; omega) ?_
  apply CallI.use1
  focus (exact fun x17 g17 => rpart03_any b.num b.den h2.1 hb.2 x17)
  intro x17 v17 g17 hB17
  refine Need.mk (by simp only [inK]; omega) ?_
  conv => whnf
  rw [eR]
  refine Need.mk (by simp only [inK]; omega) ?_
  refine DrawI.go (.tk 0 (.tk 2 (.tk 3 (.tk 4 (.tk 5 (.tk 7 (.tk 8 (.tk 9 (.tk 10 (.tk 11 (.tk 12 (.two 1 (.tk 6 (.two 13 (.tk 14 (.tk 15 (.tk 16 (.ev 17 (.ev 18 (.tk 19 .done)))))) 17 (.ev 13 (.tk 14 (.tk 15 (.tk 16 (.ev 18 (.tk 19 .done)))))))) 17 (.ev 1 (.tk 6 (.ev 13 (.tk 14 (.tk 15 (.tk 16 (.ev 18 (.tk 19 .done)))))))))))))))))))) (by kernel_rfl) fun w6 h6 => ?_
  refine Need.mk (by simp only [inK]; omega) ?_
  conv => whnf
  rw [eD]
  refine Need.mk (by rw [hq]; simp only [inK]; omega) ?_
  refine Need.mk (by simp only [inK]; omega) ?_
  conv => whnf
  rw [eD]
  refine Need.mk (by omega) ?_
  refine Need.mk (by simp only [inK]; omega) ?_
  conv => whnf
  rw [hr, eD]
  refine Both.mk ?_ ?_
  · skip
    apply CallI.use1
    focus (exact fun x21 g21 => rlow03_any (Fr.sWhole a b) 2 (by decide) (by simp only [inK]; omega) x21)
    intro x21 v21 g21 hB21
    conv => whnf
    rw [hq]
    refine Need.mk (by simp only [inK]; omega) ?_
    refine Both.mk ?_ ?_
    · skip
      apply CallI.use1
      focus (exact fun x22 g22 => rmade03_any (Fr.sWhole a b / 2 + Fr.sRest2 a b 2 / (Fr.sDen a b * 2)) (Fr.sPart a b 2) (Fr.sDen a b * 2) (by omega) (by omega) (by omega) x22)
      intro x22 v22 g22 hB22
      generalize Fr.made (Fr.sWhole a b / 2 + Fr.sRest2 a b 2 / (Fr.sDen a b * 2)) (Fr.sPart a b 2 / (Int.gcd (Fr.sPart a b 2) (Fr.sDen a b * 2) : Int)) (Fr.sDen a b * 2 / (Int.gcd (Fr.sPart a b 2) (Fr.sDen a b * 2) : Int)) = M at hm ⊢
      refine NewI.mk fun c23 hc23 => ?_
      refine Branch.mk (fun zz => ?_) (fun zz => ?_)
      · exact EndI.mk fun w9 h9 => by rw [hm, if_neg (by simpa using zz)]
      · exact EndI.mk fun w9 h9 => by rw [hm, if_pos (by simpa using zz)]
    · skip
      refine NewI.mk fun c24 hc24 => ?_
      apply CallI.use1
      focus (exact fun x25 g25 => rmade03_any (Fr.sWhole a b / 2 + Fr.sRest2 a b 2 / (Fr.sDen a b * 2)) (Fr.sPart a b 2) (Fr.sDen a b * 2) (by omega) (by omega) (by omega) x25)
      intro x25 v25 g25 hB25
      generalize Fr.made (Fr.sWhole a b / 2 + Fr.sRest2 a b 2 / (Fr.sDen a b * 2)) (Fr.sPart a b 2 / (Int.gcd (Fr.sPart a b 2) (Fr.sDen a b * 2) : Int)) (Fr.sDen a b * 2 / (Int.gcd (Fr.sPart a b 2) (Fr.sDen a b * 2) : Int)) = M at hm ⊢
      refine Branch.mk (fun zz => ?_) (fun zz => ?_)
      · exact EndI.mk fun w9 h9 => by rw [hm, if_neg (by simpa using zz)]
      · exact EndI.mk fun w9 h9 => by rw [hm, if_pos (by simpa using zz)]
  · skip
    refine NewI.mk fun c26 hc26 => ?_
    apply CallI.use1
    focus (exact fun x27 g27 => rlow03_any (Fr.sWhole a b) 2 (by decide) (by simp only [inK]; omega) x27)
    intro x27 v27 g27 hB27
    conv => whnf
    rw [hq]
    refine Need.mk (by simp only [inK]; omega) ?_
    apply CallI.use1
    focus (exact fun x28 g28 => rmade03_any (Fr.sWhole a b / 2 + Fr.sRest2 a b 2 / (Fr.sDen a b * 2)) (Fr.sPart a b 2) (Fr.sDen a b * 2) (by omega) (by omega) (by omega) x28)
    intro x28 v28 g28 hB28
    generalize Fr.made (Fr.sWhole a b / 2 + Fr.sRest2 a b 2 / (Fr.sDen a b * 2)) (Fr.sPart a b 2 / (Int.gcd (Fr.sPart a b 2) (Fr.sDen a b * 2) : Int)) (Fr.sDen a b * 2 / (Int.gcd (Fr.sPart a b 2) (Fr.sDen a b * 2) : Int)) = M at hm ⊢
    refine Branch.mk (fun zz => ?_) (fun zz => ?_)
    · exact EndI.mk fun w9 h9 => by rw [hm, if_neg (by simpa using zz)]
    · exact EndI.mk fun w9 h9 => by rw [hm, if_pos (by simpa using zz)]
end Go.Proofs.YtgjeeghhhfpkoaaGreat

/-
  Plain laws: the document's way to pick times of a closed matrix is the program's. No program is in sight.
-/
namespace Go.Proofs.YtgjeeghhhfpkoaaGreat
set_option linter.unusedVariables false
namespace Fr
def neg (a : Rt) : Rt := ⟨-a.num, a.den⟩
theorem v_inj {a b : Rt} (ha : a.ok = true) (hb : b.ok = true) (h : v a = v b) : a = b := by
  have h1 := ok_bd ha
  have h2 := ok_bd hb
  have hx : a.num * b.den = b.num * a.den := by
    have hc := cmp_v ha hb
    have h0 : (cmp a b).1 = 0 := by
      rcases hc with ⟨_, hc⟩ | ⟨hc, _⟩ | ⟨_, hc⟩
      · rw [h] at hc; exact absurd hc (Rat.lt_irrefl)
      · exact hc
      · rw [h] at hc; exact absurd hc (Rat.lt_irrefl)
    unfold cmp at h0
    rw [if_pos ⟨ha, hb⟩] at h0
    exact cmpI_zero.1 h0
  have g1 : Nat.gcd a.num.natAbs a.den.natAbs = 1 := by
    have := ha; unfold Rt.ok okB at this; simp at this; omega
  have g2 : Nat.gcd b.num.natAbs b.den.natAbs = 1 := by
    have := hb; unfold Rt.ok okB at this; simp at this; omega
  have hn : a.num.natAbs * b.den.natAbs = b.num.natAbs * a.den.natAbs := by rw [← Int.natAbs_mul, ← Int.natAbs_mul, hx]
  have d1 : a.den.natAbs ∣ b.den.natAbs := by
    have : a.den.natAbs ∣ a.num.natAbs * b.den.natAbs := by rw [hn]; exact Nat.dvd_mul_left _ _
    exact Nat.Coprime.dvd_of_dvd_mul_left (Nat.Coprime.symm g1) this
  have d2 : b.den.natAbs ∣ a.den.natAbs := by
    have : b.den.natAbs ∣ b.num.natAbs * a.den.natAbs := by rw [← hn]; exact Nat.dvd_mul_left _ _
    exact Nat.Coprime.dvd_of_dvd_mul_left (Nat.Coprime.symm g2) this
  have hd : a.den = b.den := by
    have := Nat.dvd_antisymm d1 d2
    omega
  have hnum : a.num = b.num := by
    rw [hd] at hx
    exact Int.eq_of_mul_eq_mul_right (by omega) hx
  cases a; cases b; simp only at hd hnum; rw [hd, hnum]
theorem neg_ok {a : Rt} (h : a.ok = true) : (neg a).ok = true := by
  have h0 := h
  have hb := ok_bd h
  unfold Rt.ok okB inB at h ⊢
  unfold neg
  simp only [Bool.and_eq_true, Bool.or_eq_true, decide_eq_true_eq, Int.natAbs_neg] at h ⊢
  have e := Int.emod_add_mul_ediv a.num a.den
  have e2 := Int.emod_add_mul_ediv (-a.num) a.den
  have k1 := Int.emod_nonneg (-a.num) (b := a.den) (by omega)
  have k2 := Int.emod_lt_of_pos (-a.num) (b := a.den) (by omega)
  by_cases hz : a.num % a.den = 0
  · have hdv : a.den ∣ a.num := Int.dvd_of_emod_eq_zero hz
    have e3 : -a.num / a.den = -(a.num / a.den) := Int.neg_ediv_of_dvd hdv
    have e4 : -a.num % a.den = 0 := Int.emod_eq_zero_of_dvd ((Int.dvd_neg).2 hdv)
    rw [e3, e4]
    refine ⟨⟨h.1.1, ?_, ?_⟩, h.2⟩ <;> omega
  · have e3 : -a.num / a.den = -(a.num / a.den) - 1 := by
      have : -a.num = (a.den - a.num % a.den) + (-(a.num / a.den) - 1) * a.den := by
        rw [Int.sub_mul, Int.neg_mul, Int.mul_comm (a.num / a.den)]; omega
      rw [this, Int.add_mul_ediv_right _ _ (by omega), Int.ediv_eq_zero_of_lt (by omega) (by omega)]; omega
    rw [e3]
    refine ⟨⟨h.1.1, ?_, .inl ?_⟩, h.2⟩
    · rcases h.1.2.2 with h | h <;> omega
    · omega
theorem neg_v (a : Rt) : v (neg a) = - v a := by
  unfold v neg
  simp only
  rw [Rat.intCast_neg, Rat.div_def, Rat.div_def, Rat.neg_mul]
theorem neg_neg (a : Rt) : neg (neg a) = a := by cases a; simp [neg]
theorem neg_sm {D M : Int} {a : Rt} (h : Sm D M a) : Sm D M (neg a) := ⟨neg_ok h.ok, h.den, by have := h.hi; show _ ≤ -a.num; simp only [neg]; omega, by have := h.lo; show -a.num ≤ _; simp only [neg]; omega⟩
theorem cmpR_neg (a b : Rt) : cmpR (neg a) (neg b) = - cmpR a b := by
  unfold cmpR cmpI neg
  simp only [Int.neg_mul]
  generalize a.num * b.den = x
  generalize b.num * a.den = y
  split <;> split <;> (try split) <;> (try split) <;> omega
/-- the other way round, all the same. -/
theorem shift_neg {a : Rt} {D M c m d : Int} (ha : Sm D M a) (hM : 0 ≤ M) (hc : -m ≤ c ∧ c ≤ m) (hd : D ≤ d) (hd2 : d ≤ 1048576) (hM2 : M + m < 2305843009213693952) (hMd : (M + m) * d ≤ 9223372036854775807) : shift (neg a) (-c) = neg (shift a c) := by
  obtain ⟨s1, s2⟩ := shift_sm ha hM hc hd hd2 hM2 hMd
  obtain ⟨t1, t2⟩ := shift_sm (neg_sm ha) hM (c := -c) (m := m) (by omega) hd hd2 hM2 hMd
  refine v_inj t1.ok (neg_ok s1.ok) ?_
  rw [t2, neg_v, neg_v, s2, Rat.intCast_neg]
  grind
/-- a number as it is, or nothing at all. -/
theorem shift_num (a : Rt) (c : Int) : shift a c = (add a ⟨c, 1⟩).1 := by
  unfold shift of
  rw [if_neg (by omega)]
  unfold low
  rw [show Int.gcd c 1 = 1 by simp [Int.gcd], show ((1 : Nat) : Int) = 1 from rfl, Int.ediv_one, Int.ediv_one]
  by_cases h : okB c 1 = true
  · rw [if_pos h]
  · rw [if_neg h]
    unfold add
    rw [if_neg (fun k => by have := k.2; exact absurd this (by decide)), if_neg (fun k => h k.2)]
end Fr
namespace Incl
open Fr Dbm
def lowStep (x : End) (b : Int) (r : Rt) : End :=
  if b = NO then x
  else ⟨true, if x.is = false ∨ 0 < cmpR (shift r (0 - b / 2)) x.at_ then shift r (0 - b / 2) else x.at_,
    if x.is = false ∨ 0 ≤ cmpR (shift r (0 - b / 2)) x.at_ then (if x.is = false ∨ 0 < cmpR (shift r (0 - b / 2)) x.at_ then false else x.strict) || Bd.st b else x.strict⟩
/-- the low end, by the first so many times, as the document has it. -/
def lows (N : Nat) (C : List Int) (so : List Rt) : Nat → End
  | 0 => ⟨false, ⟨0, 1⟩, false⟩
  | k + 1 => lowStep (lows N C so k) (C[k * N + so.length]?.getD 0) (so[k]?.getD ⟨0, 1⟩)
/-- the matrix, the other way round. -/
def turnL (N : Nat) (C : List Int) : List Int := (List.range (N * N)).map fun p => C[p % N * N + p / N]?.getD 0
def negs (so : List Rt) : List Rt := so.map neg
def back (E : End) : End := ⟨E.is, neg E.at_, E.strict⟩
/-- where both have an end, it is the same. -/
def Like (x E : End) : Prop := x.at_.ok = true ∧ x.is = E.is ∧ (E.is = true → x.at_ = E.at_ ∧ x.strict = E.strict)
theorem nearer_lo {E : End} {b : Int} {r : Rt} (hb : lim 288230376151711744 b) (hn : b ≠ NO) : nearer E b r 1 = if E.is = false ∨ 0 < (cmp (shift r (0 - b / 2)) E.at_).1 then ⟨true, shift r (0 - b / 2), Bd.st b⟩ else if (cmp (shift r (0 - b / 2)) E.at_).1 = 0 then ⟨E.is, E.at_, E.strict || Bd.st b⟩ else E := by
  unfold nearer
  rw [value_of hb hn]
  show (if (0 : Int) ≠ 0 then E else _) = _
  rw [if_neg (by decide : ¬ (0 : Int) ≠ 0), show -1 * (b / 2, Bd.st b, (0 : Int)).1 = 0 - b / 2 by simp only; omega, Int.mul_one]
theorem nearer_hi {E : End} {b : Int} {r : Rt} (hb : lim 288230376151711744 b) (hn : b ≠ NO) : nearer E b r (-1) = if E.is = false ∨ (cmp (shift r (b / 2)) E.at_).1 < 0 then ⟨true, shift r (b / 2), Bd.st b⟩ else if (cmp (shift r (b / 2)) E.at_).1 = 0 then ⟨E.is, E.at_, E.strict || Bd.st b⟩ else E := by
  unfold nearer
  rw [value_of hb hn]
  show (if (0 : Int) ≠ 0 then E else _) = _
  rw [if_neg (by decide : ¬ (0 : Int) ≠ 0), show - -1 * (b / 2, Bd.st b, (0 : Int)).1 = b / 2 by simp only; omega]
  simp only [show ∀ z : Int, (0 < z * -1) ↔ z < 0 from fun z => by omega]
theorem nearer_no {E : End} {r : Rt} {s : Int} : nearer E NO r s = E := by
  unfold nearer
  rw [value_no]
  exact if_pos (by decide)
/-- both ways to go on, alike. -/
theorem step_like {x E : End} {s : Rt} {st : Bool} (h : Like x E) (hs : s.ok = true) :
    Like ⟨true, if x.is = false ∨ 0 < cmpR s x.at_ then s else x.at_, if x.is = false ∨ 0 ≤ cmpR s x.at_ then (if x.is = false ∨ 0 < cmpR s x.at_ then false else x.strict) || st else x.strict⟩
      (if E.is = false ∨ 0 < (cmp s E.at_).1 then ⟨true, s, st⟩ else if (cmp s E.at_).1 = 0 then ⟨E.is, E.at_, E.strict || st⟩ else E) := by
  obtain ⟨ho, h1, h2⟩ := h
  cases hE : E.is with
  | false =>
    rw [hE] at h1
    rw [if_pos (.inl h1), if_pos (.inl h1), if_pos (.inl h1), if_pos (.inl rfl)]
    exact ⟨hs, rfl, fun _ => ⟨rfl, Bool.false_or _⟩⟩
  | true =>
    rw [hE] at h1
    obtain ⟨h3, h4⟩ := h2 hE
    rw [← h3, ← h4]
    have hc : (cmp s x.at_).1 = cmpR s x.at_ := by unfold cmp; rw [if_pos ⟨hs, ho⟩]
    rw [hc]
    have hx : ¬ x.is = false := by rw [h1]; decide
    have ht : ¬ true = false := by decide
    by_cases c1 : 0 < cmpR s x.at_
    · rw [if_pos (.inr c1), if_pos (.inr (by omega)), if_pos (.inr c1), if_pos (.inr c1)]
      exact ⟨hs, rfl, fun _ => ⟨rfl, Bool.false_or _⟩⟩
    · have n1 : ¬ (x.is = false ∨ 0 < cmpR s x.at_) := fun h => h.elim hx c1
      have n2 : ¬ (true = false ∨ 0 < cmpR s x.at_) := fun h => h.elim ht c1
      rw [if_neg n1, if_neg n1, if_neg n2]
      by_cases c0 : cmpR s x.at_ = 0
      · have n3 : x.is = false ∨ 0 ≤ cmpR s x.at_ := .inr (by omega)
        rw [if_pos n3, if_pos c0]
        exact ⟨ho, rfl, fun _ => ⟨rfl, rfl⟩⟩
      · have n3 : ¬ (x.is = false ∨ 0 ≤ cmpR s x.at_) := fun h => h.elim hx (by omega)
        rw [if_neg n3, if_neg c0]
        exact ⟨ho, hE.symm, fun _ => ⟨h3, h4⟩⟩
theorem like_step {x E : End} {b : Int} {r : Rt} (h : Like x E) (hb : lim 288230376151711744 b) (hs : b ≠ NO → (shift r (0 - b / 2)).ok = true) : Like (lowStep x b r) (nearer E b r 1) := by
  unfold lowStep
  by_cases hn : b = NO
  · rw [if_pos hn, hn, nearer_no]; exact h
  · rw [if_neg hn, nearer_lo hb hn]; exact step_like h (hs hn)
theorem back_back (E : End) : back (back E) = E := by cases E; simp [back, neg_neg]
/-- and the other way round. -/
theorem like_back {x E : End} {b : Int} {r : Rt} (h : Like x (back E)) (hE : E.is = true → E.at_.ok = true) (hb : lim 288230376151711744 b) (hs : b ≠ NO → (shift r (b / 2)).ok = true ∧ shift (neg r) (0 - b / 2) = neg (shift r (b / 2))) : Like (lowStep x b (neg r)) (back (nearer E b r (-1))) := by
  unfold lowStep
  by_cases hn : b = NO
  · rw [if_pos hn, hn, nearer_no]; exact h
  · obtain ⟨s1, s2⟩ := hs hn
    rw [if_neg hn, nearer_hi hb hn, s2]
    have := step_like (st := Bd.st b) h (neg_ok s1)
    have e : back (if E.is = false ∨ (cmp (shift r (b / 2)) E.at_).1 < 0 then ⟨true, shift r (b / 2), Bd.st b⟩ else if (cmp (shift r (b / 2)) E.at_).1 = 0 then ⟨E.is, E.at_, E.strict || Bd.st b⟩ else E)
      = if (back E).is = false ∨ 0 < (cmp (neg (shift r (b / 2))) (back E).at_).1 then ⟨true, neg (shift r (b / 2)), Bd.st b⟩ else if (cmp (neg (shift r (b / 2))) (back E).at_).1 = 0 then ⟨(back E).is, (back E).at_, (back E).strict || Bd.st b⟩ else back E := by
      obtain ⟨i, a, t⟩ := E
      cases i with
      | false => rfl
      | true =>
        have ho : a.ok = true := hE rfl
        have hc : (cmp (shift r (b / 2)) a).1 = cmpR (shift r (b / 2)) a := by unfold cmp; rw [if_pos ⟨s1, ho⟩]
        have hc2 : (cmp (neg (shift r (b / 2))) (neg a)).1 = - cmpR (shift r (b / 2)) a := by unfold cmp; rw [if_pos ⟨neg_ok s1, neg_ok ho⟩]; exact cmpR_neg _ _
        unfold back
        simp only
        rw [hc, hc2]
        have ht : ¬ true = false := by decide
        by_cases c1 : cmpR (shift r (b / 2)) a < 0
        · have n1 : true = false ∨ cmpR (shift r (b / 2)) a < 0 := .inr c1
          have n2 : true = false ∨ 0 < - cmpR (shift r (b / 2)) a := .inr (by omega)
          rw [if_pos n1, if_pos n2]
        · have n1 : ¬ (true = false ∨ cmpR (shift r (b / 2)) a < 0) := fun h => h.elim ht c1
          have n2 : ¬ (true = false ∨ 0 < - cmpR (shift r (b / 2)) a) := fun h => h.elim ht (by omega)
          rw [if_neg n1, if_neg n2]
          by_cases c0 : cmpR (shift r (b / 2)) a = 0
          · rw [if_pos c0, if_pos (by omega)]
          · rw [if_neg c0, if_neg (by omega)]
    rw [e]; exact this
/-- a time that may be shifted by any bound of a matrix. -/
def Sf (r : Rt) : Prop := Sm 2 288230376151711745 r
theorem Sf.neg {r : Rt} (h : Sf r) : Sf (neg r) := neg_sm h
theorem Sf.ok {r : Rt} (h : Sf r) : r.ok = true := Sm.ok h
theorem Sf.ins {r : Rt} (h : Sf r) : r.ins := by
  have h1 := Fr.ok_bd h.ok
  have h2 := h.den
  have h3 := h.lo
  have h4 := h.hi
  exact ⟨by simp only [Eng.inK]; omega, by simp only [Eng.inK]; omega⟩
theorem lim_half {b : Int} (h : lim 288230376151711744 b) (hn : b ≠ NO) : -288230376151711744 ≤ b / 2 ∧ b / 2 ≤ 288230376151711744 := by
  have := h.resolve_left hn
  omega
theorem Sf.shift {r : Rt} (h : Sf r) {b : Int} (hb : lim 288230376151711744 b) (hn : b ≠ NO) : (shift r (b / 2)).ok = true ∧ (shift r (0 - b / 2)).ok = true ∧ Fr.shift (Fr.neg r) (0 - b / 2) = Fr.neg (Fr.shift r (b / 2)) := by
  have h1 := lim_half hb hn
  have h2 := shift_neg h (c := b / 2) (m := 288230376151711744) (d := 2) (by decide) h1 (by decide) (by decide) (by decide) (by decide)
  rw [show -(b / 2) = 0 - b / 2 by omega] at h2
  refine ⟨(shift_sm h (c := b / 2) (m := 288230376151711744) (d := 2) (by decide) h1 (by decide) (by decide) (by decide) (by decide)).1.ok, (shift_sm h (c := 0 - b / 2) (m := 288230376151711744) (d := 2) (by decide) (by omega) (by decide) (by decide) (by decide) (by decide)).1.ok, h2⟩
theorem turnL_len (N : Nat) (C : List Int) : (turnL N C).length = N * N := by simp [turnL]
theorem turnL_at {N : Nat} {C : List Int} {i j : Nat} (hi : i < N) (hj : j < N) : (turnL N C)[i * N + j]?.getD 0 = C[j * N + i]?.getD 0 := by
  have hp : i * N + j < N * N := Dbm.place_lt hi hj
  have e1 : (i * N + j) % N = j := by rw [Nat.add_comm, Nat.add_mul_mod_self_right, Nat.mod_eq_of_lt hj]
  have e2 : (i * N + j) / N = i := by rw [Nat.add_comm, Nat.add_mul_div_right _ _ (by omega), Nat.div_eq_of_lt hj]; omega
  unfold turnL
  rw [List.getElem?_map, List.getElem?_range hp]
  simp only [Option.map_some, Option.getD_some, e1, e2]
theorem turnL_lim {N : Nat} {C : List Int} (h : ∀ p : Nat, lim 288230376151711744 (C[p]?.getD 0)) (p : Nat) : lim 288230376151711744 ((turnL N C)[p]?.getD 0) := by
  unfold turnL
  rw [List.getElem?_map]
  by_cases hp : p < N * N
  · rw [List.getElem?_range hp]; exact h _
  · rw [List.getElem?_eq_none (by simp; omega)]
    show lim 288230376151711744 0
    exact .inr (by decide)
theorem lows_like {N : Nat} {C : List Int} {so : List Rt} (hb : ∀ p : Nat, lim 288230376151711744 (C[p]?.getD 0)) (hs : ∀ r, r ∈ so → Sf r) : ∀ k, k ≤ so.length → Like (lows N C so k) (ends N C so k).1
  | 0, _ => ⟨ok_nought, rfl, fun h => by cases h⟩
  | k + 1, hk => by
    refine like_step (lows_like hb hs k (by omega)) (hb _) fun hn => ?_
    have hg := List.getElem?_eq_getElem (l := so) (i := k) (by omega)
    rw [hg]
    exact ((hs _ (List.getElem_mem (by omega))).shift (hb _) hn).2.1
theorem ends_hi_ok {N : Nat} {C : List Int} {so : List Rt} (hb : ∀ p : Nat, lim 288230376151711744 (C[p]?.getD 0)) (hs : ∀ r, r ∈ so → Sf r) : ∀ k, k ≤ so.length → (ends N C so k).2.is = true → (ends N C so k).2.at_.ok = true
  | 0, _ => fun h => by cases h
  | k + 1, hk => by
    have ih := ends_hi_ok (N := N) hb hs k (by omega)
    have hg := List.getElem?_eq_getElem (l := so) (i := k) (by omega)
    have hsh := fun hn => (hs _ (List.getElem_mem (by omega : k < so.length))).shift (hb (so.length * N + k)) hn
    show (nearer _ (C[so.length * N + k]?.getD 0) (so[k]?.getD ⟨0, 1⟩) (-1)).is = true → _
    intro h
    show (nearer _ (C[so.length * N + k]?.getD 0) (so[k]?.getD ⟨0, 1⟩) (-1)).at_.ok = true
    rw [hg] at h ⊢
    by_cases hn : C[so.length * N + k]?.getD 0 = NO
    · rw [hn, nearer_no] at h ⊢; exact ih h
    · rw [nearer_hi (hb _) hn] at h ⊢
      split
      · exact (hsh hn).1
      · rename_i h1
        rw [if_neg h1] at h
        split
        · rename_i h2; rw [if_pos h2] at h; exact ih h
        · rename_i h2; rw [if_neg h2] at h; exact ih h
theorem lows_back {N : Nat} {C : List Int} {so : List Rt} (hl : so.length < N) (hb : ∀ p : Nat, lim 288230376151711744 (C[p]?.getD 0)) (hs : ∀ r, r ∈ so → Sf r) : ∀ k, k ≤ so.length → Like (lows N (turnL N C) (negs so) k) (back (ends N C so k).2)
  | 0, _ => ⟨ok_nought, rfl, fun h => by cases h⟩
  | k + 1, hk => by
    have hg := List.getElem?_eq_getElem (l := so) (i := k) (by omega)
    have e1 : (negs so).length = so.length := by simp [negs]
    have e2 : (negs so)[k]?.getD ⟨0, 1⟩ = neg (so[k]'(by omega)) := by unfold negs; rw [List.getElem?_map, hg]; rfl
    have e3 : (turnL N C)[k * N + so.length]?.getD 0 = C[so.length * N + k]?.getD 0 := turnL_at (by omega) hl
    show Like (lowStep _ ((turnL N C)[k * N + (negs so).length]?.getD 0) ((negs so)[k]?.getD ⟨0, 1⟩)) (back (nearer _ (C[so.length * N + k]?.getD 0) (so[k]?.getD ⟨0, 1⟩) (-1)))
    rw [e1, e2, e3, hg]
    refine like_back (lows_back hl hb hs k (by omega)) (ends_hi_ok hb hs k (by omega)) (hb _) fun hn => ?_
    have := (hs _ (List.getElem_mem (by omega : k < so.length))).shift (hb (so.length * N + k)) hn
    exact ⟨this.1, this.2.2⟩
theorem choose_like {x y l h : End} (hl : Like x l) (hh : Like y (back h)) : choose x (back y) = choose l h := by
  obtain ⟨_, l1, l2⟩ := hl
  obtain ⟨_, h1, h2⟩ := hh
  obtain ⟨xi, xa, xs⟩ := x
  obtain ⟨yi, ya, ys⟩ := y
  obtain ⟨li, la, ls⟩ := l
  obtain ⟨hi, ha, hs⟩ := h
  unfold back at *
  simp only at l1 l2 h1 h2
  subst l1; subst h1
  unfold choose
  simp only
  cases xi <;> cases yi
  · rfl
  · obtain ⟨e1, e2⟩ := h2 rfl
    subst e1; subst e2; rw [neg_neg]; rfl
  · obtain ⟨e1, e2⟩ := l2 rfl
    subst e1; subst e2; rfl
  · obtain ⟨e1, e2⟩ := h2 rfl
    obtain ⟨e3, e4⟩ := l2 rfl
    subst e1; subst e2; subst e3; subst e4; rw [neg_neg]
theorem rpick_eq {N : Nat} {C : List Int} {so : List Rt} (hl : so.length < N) (hb : ∀ p : Nat, lim 288230376151711744 (C[p]?.getD 0)) (hs : ∀ r, r ∈ so → Sf r) :
    choose (lows N C so so.length) (back (lows N (turnL N C) (negs so) so.length)) = pick N C so :=
  choose_like (lows_like hb hs _ (Nat.le_refl _)) (lows_back hl hb hs _ (Nat.le_refl _))
theorem lows_ok {N : Nat} {C : List Int} {so : List Rt} (hb : ∀ p : Nat, lim 288230376151711744 (C[p]?.getD 0)) (hs : ∀ r, r ∈ so → Sf r) (k : Nat) (hk : k ≤ so.length) : (lows N C so k).at_.ok = true := (lows_like hb hs k hk).1
theorem lows_ins {N : Nat} {C : List Int} {so : List Rt} : ∀ k, (lows N C so k).at_.ins
  | 0 => ins_nought
  | k + 1 => by
    show (lowStep _ _ _).at_.ins
    unfold lowStep
    split
    · exact lows_ins k
    · show Rt.ins (if _ then _ else _)
      split
      · exact add_ins
      · exact lows_ins k
theorem lows_sm {N : Nat} {C : List Int} {so : List Rt} (hb : ∀ p : Nat, lim 288230376151711744 (C[p]?.getD 0)) (hs : ∀ r, r ∈ so → Sf r) : ∀ k, k ≤ so.length → Sm 2 576460752303423489 (lows N C so k).at_
  | 0, _ => Sm.mono (D := 1) (M := 0) ⟨ok_nought, by show (1 : Int) ≤ 1; omega, by show -(0 * 1 : Int) ≤ 0; omega, by show (0 : Int) ≤ 0 * 1; omega⟩ (by decide) (by decide)
  | k + 1, hk => by
    have ih := lows_sm (N := N) hb hs k (by omega)
    have hg := List.getElem?_eq_getElem (l := so) (i := k) (by omega)
    show Sm _ _ (lowStep _ (C[k * N + so.length]?.getD 0) (so[k]?.getD ⟨0, 1⟩)).at_
    rw [hg]
    unfold lowStep
    split
    · exact ih
    · rename_i hn
      show Sm _ _ (if _ then _ else _)
      split
      · have h1 := lim_half (hb _) hn
        exact (shift_sm (hs _ (List.getElem_mem (by omega : k < so.length))) (c := 0 - C[k * N + so.length]?.getD 0 / 2) (m := 288230376151711744) (d := 2) (by decide) (by omega) (by decide) (by decide) (by decide) (by decide)).1
      · exact ih
/-- the times that are picked of a closed matrix of three clocks may be shifted. -/
theorem sofar_sf {C : List Int} (hc : chk 3 C = 0) (hC : Clo 3 C) : ∀ k, k < 2 → ∀ r, r ∈ sofar 3 C k → Sf r := by
  have hlim : ∀ i j, i < 3 → j < 3 → lim 288230376151711744 (C[i * 3 + j]?.getD 0) := fun i j hi hj => chk_lim hc _ (by have := hC.len; omega)
  have s0 : Sm 1 0 ⟨0, 1⟩ := ⟨by decide, by decide, by decide, by decide⟩
  have d1 : satO 0 (mx 3 C 0 0) := by
    unfold mx ob
    rw [hC.diag 0 (by decide)]
    exact satO_zero.2 (by omega)
  obtain ⟨a1, a2⟩ := pick_ok (so := [⟨0, 1⟩]) (D := 1) (M := 0) hC hlim (by decide) (fun j hj => by
      have hj : j < 1 := hj
      have e0 : j = 0 := by omega
      rw [e0]; exact s0)
    (fun i j hi hj => by
      have hi : i < 1 := hi
      have hj : j < 1 := hj
      have e0 : i = 0 := by omega
      have e1 : j = 0 := by omega
      rw [e0, e1, Rat.sub_self]; exact d1) (by decide) (by decide) (by decide) (by decide) (by decide)
  have s1 : Sf ⟨0, 1⟩ := s0.mono (by decide) (by decide)
  intro k hk r hr
  have : k = 0 ∨ k = 1 := by omega
  rcases this with rfl | rfl
  · rw [List.mem_singleton.1 hr]; exact s1
  · rcases List.mem_append.1 hr with h | h
    · rw [List.mem_singleton.1 h]; exact s1
    · rw [List.mem_singleton.1 h]; exact a1
theorem chk_all {C : List Int} (hc : chk 3 C = 0) (p : Nat) : lim 288230376151711744 (C[p]?.getD 0) := by
  by_cases hp : p < C.length
  · exact chk_lim hc _ hp
  · rw [List.getElem?_eq_none (by omega)]; exact .inr (by decide)
end Incl
end Go.Proofs.YtgjeeghhhfpkoaaGreat

/-
  The document's answer of layer 6, by the engine: shift, low, turned, other, pick, Picked.
-/
namespace Go.Proofs.YtgjeeghhhfpkoaaGreat
set_option linter.unusedVariables false
set_option linter.unusedSimpArgs false
set_option maxRecDepth 100000
open Go.RowKit Go.Proofs.YtgjeeghhhfpkoaaGreat.Eng Enc

theorem rshift06_any (a : Rt) (n : Int) (ha : a.ins) (hn : inK .i64 n) (w : World) :
    Calls Tryz.prog 303 #[.agg #[.int .i64 a.num, .int .i64 a.den], .int .i64 n] w fun e w' => e = .returned (.agg #[.int .i64 (Fr.shift a n).num, .int .i64 (Fr.shift a n).den]) ∧ Below w.heap.size w w' := by
  rw [Fr.shift_num]
  refine fun_eq 0 w Tryz.func303 (args := [.agg [.val (.int .i64 a.num), .val (.int .i64 a.den)], .val (.int .i64 n)]) rfl rfl ?_
  refine NewI.mk fun b1 hb1 => ?_
  refine NewI.mk fun b2 hb2 => ?_
  apply CallI.use1
  focus (exact fun w1 h1 => radd03_any a ⟨n, 1⟩ ha ⟨hn, by simp only [inK]; omega⟩ w1)
  intro w1 v1 h1 hB1
  refine NewI.mk fun b3 hb3 => ?_
  exact EndI.mk fun w9 h9 => rfl
/-- a part of what lies in a list. -/
theorem Sl.ldf {α : Type} [Enc α] {n : Nat} {W w : World} {L : List Nat} {a : Option Addr} {ad : Addr} {m cap : Nat} {l : List α} (h : Sl n W (.slice a m cap) l) {k : Nat} {x : α} (hk : l[k]? = some x) (had : a = some ad) (hB : Below n W w) (hL : ∀ b, b ∈ L → n ≤ b) {i : Nat} {c : Value} (hc : (enc x)[i]? = some c) {K : Value → Prop} (hK : K c) :
    LoadI w L ((ad.add ((k : Int).toNat * size α)).add i) K := by
  subst had
  obtain ⟨h1, h2⟩ := h.cell hk hB
  refine ⟨⟨_, ⟨h2 i c hc, fun e => ?_⟩, hK⟩⟩
  have hb : ∀ (q : Addr) (j : Nat), (q.add j).block = q.block := fun q j => by unfold Addr.add; split <;> rfl
  rw [hb, hb] at e
  have := hL _ e; omega
theorem lim_i64 {b : Int} (h : Dbm.lim 288230376151711744 b) : -9223372036854775808 ≤ b ∧ b ≤ 9223372036854775807 := by
  rcases h with h | h
  · rw [h]; unfold Dbm.NO; omega
  · omega
set_option maxHeartbeats 4000000 in
theorem rlow06_any (N : Nat) (hN : N ≤ 4) (C : List Int) (hC : C.length = N * N) (hb : ∀ p : Nat, Dbm.lim 288230376151711744 (C[p]?.getD 0)) (so : List Rt) (hso : so.length < N) (hs : ∀ r, r ∈ so → Incl.Sf r) (a b : Option Addr) (ca cb : Nat) (w : World) (hA : Sl w.heap.size w (.slice a C.length ca) C) (hB : Sl w.heap.size w (.slice b so.length cb) so) :
    Calls Tryz.prog 299 #[.agg #[.int .i64 N, .slice a C.length ca], .slice b so.length cb] w fun e w' => e = .returned (.tuple #[.bool (Incl.lows N C so so.length).is, .agg #[.int .i64 (Incl.lows N C so so.length).at_.num, .int .i64 (Incl.lows N C so so.length).at_.den], .bool (Incl.lows N C so so.length).strict]) ∧ Below w.heap.size w w' := by
  refine fun_eq 0 w Tryz.func299 (args := [.agg [.val (.int .i64 N), .val (.slice a C.length ca)], .val (.slice b so.length cb)]) rfl rfl ?_
  have hNN : N * N ≤ 4 * 4 := Nat.mul_le_mul hN hN
  refine NewI.mk fun b1 hb1 => ?_
  refine NewI.mk fun b2 hb2 => ?_
  refine NewI.mk fun b3 hb3 => ?_
  refine LoopI.inv (α := Nat × World) (fun y => [(8, .val (.bool (Incl.lows N C so y.1).is)), (9, .val (.bool (Incl.lows N C so y.1).strict)), (11, .val (.int .i64 y.1))]) (fun y => [⟨[.val (.int .i64 N), .val (.slice a C.length ca)], 111⟩, ⟨[.val (.int .i64 0), .val (.int .i64 0)], 23⟩,
    ⟨[.val (.int .i64 (Incl.lows N C so y.1).at_.num), .val (.int .i64 (Incl.lows N C so y.1).at_.den)], 23⟩]) (fun y => y.2)
    (fun y => y.1 ≤ so.length ∧ Below w.heap.size w y.2) (fun y => so.length - y.1) ?_ ?_
  · intro w1 h1
    exact ⟨(0, w1), Cov.mk (by repeat' (first | exact trivial | refine And.intro rfl ?_)) rfl rfl rfl rfl rfl, rfl, Nat.zero_le _, h1.below⟩
  rintro ⟨k, W⟩ ⟨hk, hW⟩
  have hk : k ≤ so.length := hk
  have hW : Below w.heap.size w W := hW
  have hlo := Incl.lows_ok hb hs (N := N) k hk
  have hli : (Incl.lows N C so k).at_.ins := Incl.lows_ins k
  refine Branch.mk (fun hc => ?_) (fun hc => ?_)
  · have hlt : k < so.length := by simpa using hc
    have hg := List.getElem?_eq_getElem (l := so) (i := k) hlt
    have hrs := hs _ (List.getElem_mem hlt)
    have hp1 : k * N + so.length < N * N := Dbm.place_lt (by omega) hso
    have hg1 := List.getElem?_eq_getElem (l := C) (i := k * N + so.length) (by omega)
    have f1 : Incl.lows N C so (k + 1) = Incl.lowStep (Incl.lows N C so k) (C[k * N + so.length]'(by omega)) (so[k]'hlt) := by
      show Incl.lowStep _ (C[k * N + so.length]?.getD 0) (so[k]?.getD ⟨0, 1⟩) = _
      rw [hg1, hg]; rfl
    have hbx := hb (k * N + so.length)
    rw [hg1] at hbx
    simp only [Option.getD_some] at hbx
    have hst := fun hn => hrs.shift hbx hn
    generalize C[k * N + so.length]'_ = x at *
    generalize so[k]'_ = r at *
    have hx64 := lim_i64 hbx
    have e1 : (k : Int) * N + so.length = ((k * N + so.length : Nat) : Int) := by simp
    have e3 : (k : Int) * N = ((k * N : Nat) : Int) := by simp
    have hAW := hA.go hW hW.size
    have hBW := hB.go hW hW.size
    refine Need.mk (by show inK .i64 ((k : Int) * N); rw [e3]; simp only [inK]; omega) ?_
    refine Need.mk (by show inK .i64 ((k : Int) * N + so.length); rw [e1]; simp only [inK]; omega) ?_
    conv => whnf
    rw [e1]
    refine hAW.idx hg1 fun ad1 had1 => ?_
    refine hAW.ld1 hg1 had1 (Below.refl _ _) (by simp) ?_
    generalize Incl.lows N C so k = E at *
    unfold Incl.lowStep at f1
    refine Branch.mk (fun z1 => ?_) (fun z1 => ?_)
    · have hn : x = Dbm.NO := of_decide_eq_true z1
      rw [if_pos hn] at f1
      refine Need.mk (by simp only [inK]; omega) (EndI.mk fun w11 h11 => ⟨(k + 1, w11), ?_, rfl, ⟨hlt, h11.below⟩, by simp only; omega⟩)
      simp only [f1]
      exact Cov.mk (by repeat' (first | exact trivial | refine And.intro rfl ?_)) rfl rfl rfl rfl rfl
    have hn : ¬ x = Dbm.NO := of_decide_eq_false z1
    rw [if_neg hn] at f1
    obtain ⟨_, sh2, _⟩ := hst hn
    refine DrawI.go (.tk 0 (.tk 1 (.tk 2 (.tk 3 (.tk 4 (.two 5 (.tk 6 (.two 7 (.ev 8 (.ev 9 .done)) 8 (.ev 7 (.ev 9 .done)))) 8 (.ev 5 (.tk 6 (.ev 7 (.ev 9 .done)))))))))) (by kernel_rfl) fun w3 h3 => ?_
    have hnum : ∀ w, Calls Tryz.prog 236 #[.int .i64 x] w fun e w' => e = .returned (.int .i64 (x / 2)) ∧ Below w.heap.size w w' := fun w => (rnumber_any x hx64.1 hx64.2 w).mono fun e w' ⟨h, hw⟩ => ⟨h, hw ▸ Below.refl _ _⟩
    have hstr : ∀ w, Calls Tryz.prog 279 #[.int .i64 x] w fun e w' => e = .returned (.bool (Bd.st x)) ∧ Below w.heap.size w w' := fun w => (rstrict_any x w).mono fun e w' ⟨h, hw⟩ => ⟨h, hw ▸ Below.refl _ _⟩
    have hBU := hBW.go h3.go h3.go.size
    refine hBU.idx hg fun ad had => ?_
    refine hBU.ld hg had (Below.refl _ _) (by simp) ?_
    refine Both.mk ?_ ?_
    · skip
      apply CallI.use1
      focus (exact fun w4 h4 => hnum w4)
      intro w4 v4 h4 hB4
      refine Need.mk (by simp only [inK]; omega) ?_
      refine Both.mk ?_ ?_
      · skip
        apply CallI.use1
        focus (exact fun w5 h5 => rshift06_any r (0 - x / 2) hrs.ins (by simp only [inK]; omega) w5)
        intro w5 v5 h5 hB5
        refine NewI.mk fun b5 hb5 => ?_
        apply CallI.use1
        focus (exact fun w6 h6 => rcompared_any (Fr.shift r (0 - x / 2)) E.at_ sh2 hlo Fr.add_ins hli w6)
        intro w6 v6 h6 hB6
        generalize Fr.shift r (0 - x / 2) = S at *
        obtain ⟨is, at_, st⟩ := E
        simp only at f1 hlo hli
        generalize Fr.cmpR S at_ = c at *
        cases is
        · have f2 : Incl.lows N C so (k + 1) = ⟨true, S, Bd.st x⟩ := by rw [f1]; simp
          repeat' (first
            | (apply CallI.use1; (focus (exact fun w1 h1 => hstr w1)); intro w1 w2 h1 hB)
            | (refine Branch.yes rfl ?_)
            | (refine Branch.no rfl ?_)
            | (refine Branch.mk (fun hb => ?_) (fun hb => ?_))
            | (refine NewI.mk fun nb hnb => ?_)
            | (refine Need.mk (by show _ ∧ _; omega) ?_)
            | (refine Need.mk (by omega) ?_)
            | (refine Need.mk ?_ ?_)
            | (refine EndI.mk fun w1 h1 => ?_))
          all_goals first | (simp only [inK]; omega) | (refine ⟨(k + 1, w1), ?_, rfl, ⟨hlt, h1.below⟩, by simp only; omega⟩; simp only [f2]; exact Cov.mk (by repeat' (first | exact trivial | refine And.intro rfl ?_)) rfl rfl rfl rfl rfl)
        · by_cases c1 : 0 < c
          · have f2 : Incl.lows N C so (k + 1) = ⟨true, S, Bd.st x⟩ := by rw [f1]; simp [c1]; intro h; omega
            refine Branch.no rfl ?_
            refine Branch.yes (decide_eq_true c1) ?_
            refine Branch.no rfl ?_
            refine Branch.yes (decide_eq_true (by omega)) ?_
            repeat' (first
              | (apply CallI.use1; (focus (exact fun w1 h1 => hstr w1)); intro w1 w2 h1 hB)
              | (refine Branch.yes rfl ?_)
              | (refine Branch.no rfl ?_)
              | (refine Branch.mk (fun hb => ?_) (fun hb => ?_))
              | (refine NewI.mk fun nb hnb => ?_)
              | (refine Need.mk (by show _ ∧ _; omega) ?_)
              | (refine Need.mk (by omega) ?_)
              | (refine Need.mk ?_ ?_)
              | (refine EndI.mk fun w1 h1 => ?_))
            all_goals first | (simp only [inK]; omega) | (refine ⟨(k + 1, w1), ?_, rfl, ⟨hlt, h1.below⟩, by simp only; omega⟩; simp only [f2]; exact Cov.mk (by repeat' (first | exact trivial | refine And.intro rfl ?_)) rfl rfl rfl rfl rfl)
          · refine Branch.no rfl ?_
            refine Branch.no (decide_eq_false c1) ?_
            refine Branch.no rfl ?_
            by_cases c0 : 0 ≤ c
            · have f2 : Incl.lows N C so (k + 1) = ⟨true, at_, st || Bd.st x⟩ := by rw [f1]; simp [c1, c0]
              refine Branch.yes (decide_eq_true c0) ?_
              cases st
              · repeat' (first
                | (apply CallI.use1; (focus (exact fun w1 h1 => hstr w1)); intro w1 w2 h1 hB)
                | (refine Branch.yes rfl ?_)
                | (refine Branch.no rfl ?_)
                | (refine Branch.mk (fun hb => ?_) (fun hb => ?_))
                | (refine NewI.mk fun nb hnb => ?_)
                | (refine Need.mk (by show _ ∧ _; omega) ?_)
                | (refine Need.mk (by omega) ?_)
                | (refine Need.mk ?_ ?_)
                | (refine EndI.mk fun w1 h1 => ?_))
                all_goals first | (simp only [inK]; omega) | (refine ⟨(k + 1, w1), ?_, rfl, ⟨hlt, h1.below⟩, by simp only; omega⟩; simp only [f2]; exact Cov.mk (by repeat' (first | exact trivial | refine And.intro rfl ?_)) rfl rfl rfl rfl rfl)
              · repeat' (first
                | (apply CallI.use1; (focus (exact fun w1 h1 => hstr w1)); intro w1 w2 h1 hB)
                | (refine Branch.yes rfl ?_)
                | (refine Branch.no rfl ?_)
                | (refine Branch.mk (fun hb => ?_) (fun hb => ?_))
                | (refine NewI.mk fun nb hnb => ?_)
                | (refine Need.mk (by show _ ∧ _; omega) ?_)
                | (refine Need.mk (by omega) ?_)
                | (refine Need.mk ?_ ?_)
                | (refine EndI.mk fun w1 h1 => ?_))
                all_goals first | (simp only [inK]; omega) | (refine ⟨(k + 1, w1), ?_, rfl, ⟨hlt, h1.below⟩, by simp only; omega⟩; simp only [f2]; exact Cov.mk (by repeat' (first | exact trivial | refine And.intro rfl ?_)) rfl rfl rfl rfl rfl)
            · have f2 : Incl.lows N C so (k + 1) = ⟨true, at_, st⟩ := by rw [f1]; simp [c1, c0]
              refine Branch.no (decide_eq_false c0) ?_
              repeat' (first
                | (refine Branch.yes rfl ?_)
                | (refine Branch.no rfl ?_)
                | (refine Branch.mk (fun hb => ?_) (fun hb => ?_))
                | (refine NewI.mk fun nb hnb => ?_)
                | (refine Need.mk (by show _ ∧ _; omega) ?_)
                | (refine Need.mk (by omega) ?_)
                | (refine Need.mk ?_ ?_)
                | (refine EndI.mk fun w1 h1 => ?_))
              all_goals first | (simp only [inK]; omega) | (refine ⟨(k + 1, w1), ?_, rfl, ⟨hlt, h1.below⟩, by simp only; omega⟩; simp only [f2]; exact Cov.mk (by repeat' (first | exact trivial | refine And.intro rfl ?_)) rfl rfl rfl rfl rfl)
      · skip
        refine NewI.mk fun b5 hb5 => ?_
        apply CallI.use1
        focus (exact fun w5 h5 => rshift06_any r (0 - x / 2) hrs.ins (by simp only [inK]; omega) w5)
        intro w5 v5 h5 hB5
        apply CallI.use1
        focus (exact fun w6 h6 => rcompared_any (Fr.shift r (0 - x / 2)) E.at_ sh2 hlo Fr.add_ins hli w6)
        intro w6 v6 h6 hB6
        generalize Fr.shift r (0 - x / 2) = S at *
        obtain ⟨is, at_, st⟩ := E
        simp only at f1 hlo hli
        generalize Fr.cmpR S at_ = c at *
        cases is
        · have f2 : Incl.lows N C so (k + 1) = ⟨true, S, Bd.st x⟩ := by rw [f1]; simp
          repeat' (first
            | (apply CallI.use1; (focus (exact fun w1 h1 => hstr w1)); intro w1 w2 h1 hB)
            | (refine Branch.yes rfl ?_)
            | (refine Branch.no rfl ?_)
            | (refine Branch.mk (fun hb => ?_) (fun hb => ?_))
            | (refine NewI.mk fun nb hnb => ?_)
            | (refine Need.mk (by show _ ∧ _; omega) ?_)
            | (refine Need.mk (by omega) ?_)
            | (refine Need.mk ?_ ?_)
            | (refine EndI.mk fun w1 h1 => ?_))
          all_goals first | (simp only [inK]; omega) | (refine ⟨(k + 1, w1), ?_, rfl, ⟨hlt, h1.below⟩, by simp only; omega⟩; simp only [f2]; exact Cov.mk (by repeat' (first | exact trivial | refine And.intro rfl ?_)) rfl rfl rfl rfl rfl)
        · by_cases c1 : 0 < c
          · have f2 : Incl.lows N C so (k + 1) = ⟨true, S, Bd.st x⟩ := by rw [f1]; simp [c1]; intro h; omega
            refine Branch.no rfl ?_
            refine Branch.yes (decide_eq_true c1) ?_
            refine Branch.no rfl ?_
            refine Branch.yes (decide_eq_true (by omega)) ?_
            repeat' (first
              | (apply CallI.use1; (focus (exact fun w1 h1 => hstr w1)); intro w1 w2 h1 hB)
              | (refine Branch.yes rfl ?_)
              | (refine Branch.no rfl ?_)
              | (refine Branch.mk (fun hb => ?_) (fun hb => ?_))
              | (refine NewI.mk fun nb hnb => ?_)
              | (refine Need.mk (by show _ ∧ _; omega) ?_)
              | (refine Need.mk (by omega) ?_)
              | (refine Need.mk ?_ ?_)
              | (refine EndI.mk fun w1 h1 => ?_))
            all_goals first | (simp only [inK]; omega) | (refine ⟨(k + 1, w1), ?_, rfl, ⟨hlt, h1.below⟩, by simp only; omega⟩; simp only [f2]; exact Cov.mk (by repeat' (first | exact trivial | refine And.intro rfl ?_)) rfl rfl rfl rfl rfl)
          · refine Branch.no rfl ?_
            refine Branch.no (decide_eq_false c1) ?_
            refine Branch.no rfl ?_
            by_cases c0 : 0 ≤ c
            · have f2 : Incl.lows N C so (k + 1) = ⟨true, at_, st || Bd.st x⟩ := by rw [f1]; simp [c1, c0]
              refine Branch.yes (decide_eq_true c0) ?_
              cases st
              · repeat' (first
                | (apply CallI.use1; (focus (exact fun w1 h1 => hstr w1)); intro w1 w2 h1 hB)
                | (refine Branch.yes rfl ?_)
                | (refine Branch.no rfl ?_)
                | (refine Branch.mk (fun hb => ?_) (fun hb => ?_))
                | (refine NewI.mk fun nb hnb => ?_)
                | (refine Need.mk (by show _ ∧ _; omega) ?_)
                | (refine Need.mk (by omega) ?_)
                | (refine Need.mk ?_ ?_)
                | (refine EndI.mk fun w1 h1 => ?_))
                all_goals first | (simp only [inK]; omega) | (refine ⟨(k + 1, w1), ?_, rfl, ⟨hlt, h1.below⟩, by simp only; omega⟩; simp only [f2]; exact Cov.mk (by repeat' (first | exact trivial | refine And.intro rfl ?_)) rfl rfl rfl rfl rfl)
              · repeat' (first
                | (apply CallI.use1; (focus (exact fun w1 h1 => hstr w1)); intro w1 w2 h1 hB)
                | (refine Branch.yes rfl ?_)
                | (refine Branch.no rfl ?_)
                | (refine Branch.mk (fun hb => ?_) (fun hb => ?_))
                | (refine NewI.mk fun nb hnb => ?_)
                | (refine Need.mk (by show _ ∧ _; omega) ?_)
                | (refine Need.mk (by omega) ?_)
                | (refine Need.mk ?_ ?_)
                | (refine EndI.mk fun w1 h1 => ?_))
                all_goals first | (simp only [inK]; omega) | (refine ⟨(k + 1, w1), ?_, rfl, ⟨hlt, h1.below⟩, by simp only; omega⟩; simp only [f2]; exact Cov.mk (by repeat' (first | exact trivial | refine And.intro rfl ?_)) rfl rfl rfl rfl rfl)
            · have f2 : Incl.lows N C so (k + 1) = ⟨true, at_, st⟩ := by rw [f1]; simp [c1, c0]
              refine Branch.no (decide_eq_false c0) ?_
              repeat' (first
                | (refine Branch.yes rfl ?_)
                | (refine Branch.no rfl ?_)
                | (refine Branch.mk (fun hb => ?_) (fun hb => ?_))
                | (refine NewI.mk fun nb hnb => ?_)
                | (refine Need.mk (by show _ ∧ _; omega) ?_)
                | (refine Need.mk (by omega) ?_)
                | (refine Need.mk ?_ ?_)
                | (refine EndI.mk fun w1 h1 => ?_))
              all_goals first | (simp only [inK]; omega) | (refine ⟨(k + 1, w1), ?_, rfl, ⟨hlt, h1.below⟩, by simp only; omega⟩; simp only [f2]; exact Cov.mk (by repeat' (first | exact trivial | refine And.intro rfl ?_)) rfl rfl rfl rfl rfl)
    · skip
      refine NewI.mk fun b5 hb5 => ?_
      apply CallI.use1
      focus (exact fun w4 h4 => hnum w4)
      intro w4 v4 h4 hB4
      refine Need.mk (by simp only [inK]; omega) ?_
      apply CallI.use1
      focus (exact fun w5 h5 => rshift06_any r (0 - x / 2) hrs.ins (by simp only [inK]; omega) w5)
      intro w5 v5 h5 hB5
      apply CallI.use1
      focus (exact fun w6 h6 => rcompared_any (Fr.shift r (0 - x / 2)) E.at_ sh2 hlo Fr.add_ins hli w6)
      intro w6 v6 h6 hB6
      generalize Fr.shift r (0 - x / 2) = S at *
      obtain ⟨is, at_, st⟩ := E
      simp only at f1 hlo hli
      generalize Fr.cmpR S at_ = c at *
      cases is
      · have f2 : Incl.lows N C so (k + 1) = ⟨true, S, Bd.st x⟩ := by rw [f1]; simp
        repeat' (first
          | (apply CallI.use1; (focus (exact fun w1 h1 => hstr w1)); intro w1 w2 h1 hB)
          | (refine Branch.yes rfl ?_)
          | (refine Branch.no rfl ?_)
          | (refine Branch.mk (fun hb => ?_) (fun hb => ?_))
          | (refine NewI.mk fun nb hnb => ?_)
          | (refine Need.mk (by show _ ∧ _; omega) ?_)
          | (refine Need.mk (by omega) ?_)
          | (refine Need.mk ?_ ?_)
          | (refine EndI.mk fun w1 h1 => ?_))
        all_goals first | (simp only [inK]; omega) | (refine ⟨(k + 1, w1), ?_, rfl, ⟨hlt, h1.below⟩, by simp only; omega⟩; simp only [f2]; exact Cov.mk (by repeat' (first | exact trivial | refine And.intro rfl ?_)) rfl rfl rfl rfl rfl)
      · by_cases c1 : 0 < c
        · have f2 : Incl.lows N C so (k + 1) = ⟨true, S, Bd.st x⟩ := by rw [f1]; simp [c1]; intro h; omega
          refine Branch.no rfl ?_
          refine Branch.yes (decide_eq_true c1) ?_
          refine Branch.no rfl ?_
          refine Branch.yes (decide_eq_true (by omega)) ?_
          repeat' (first
            | (apply CallI.use1; (focus (exact fun w1 h1 => hstr w1)); intro w1 w2 h1 hB)
            | (refine Branch.yes rfl ?_)
            | (refine Branch.no rfl ?_)
            | (refine Branch.mk (fun hb => ?_) (fun hb => ?_))
            | (refine NewI.mk fun nb hnb => ?_)
            | (refine Need.mk (by show _ ∧ _; omega) ?_)
            | (refine Need.mk (by omega) ?_)
            | (refine Need.mk ?_ ?_)
            | (refine EndI.mk fun w1 h1 => ?_))
          all_goals first | (simp only [inK]; omega) | (refine ⟨(k + 1, w1), ?_, rfl, ⟨hlt, h1.below⟩, by simp only; omega⟩; simp only [f2]; exact Cov.mk (by repeat' (first | exact trivial | refine And.intro rfl ?_)) rfl rfl rfl rfl rfl)
        · refine Branch.no rfl ?_
          refine Branch.no (decide_eq_false c1) ?_
          refine Branch.no rfl ?_
          by_cases c0 : 0 ≤ c
          · have f2 : Incl.lows N C so (k + 1) = ⟨true, at_, st || Bd.st x⟩ := by rw [f1]; simp [c1, c0]
            refine Branch.yes (decide_eq_true c0) ?_
            cases st
            · repeat' (first
              | (apply CallI.use1; (focus (exact fun w1 h1 => hstr w1)); intro w1 w2 h1 hB)
              | (refine Branch.yes rfl ?_)
              | (refine Branch.no rfl ?_)
              | (refine Branch.mk (fun hb => ?_) (fun hb => ?_))
              | (refine NewI.mk fun nb hnb => ?_)
              | (refine Need.mk (by show _ ∧ _; omega) ?_)
              | (refine Need.mk (by omega) ?_)
              | (refine Need.mk ?_ ?_)
              | (refine EndI.mk fun w1 h1 => ?_))
              all_goals first | (simp only [inK]; omega) | (refine ⟨(k + 1, w1), ?_, rfl, ⟨hlt, h1.below⟩, by simp only; omega⟩; simp only [f2]; exact Cov.mk (by repeat' (first | exact trivial | refine And.intro rfl ?_)) rfl rfl rfl rfl rfl)
            · repeat' (first
              | (apply CallI.use1; (focus (exact fun w1 h1 => hstr w1)); intro w1 w2 h1 hB)
              | (refine Branch.yes rfl ?_)
              | (refine Branch.no rfl ?_)
              | (refine Branch.mk (fun hb => ?_) (fun hb => ?_))
              | (refine NewI.mk fun nb hnb => ?_)
              | (refine Need.mk (by show _ ∧ _; omega) ?_)
              | (refine Need.mk (by omega) ?_)
              | (refine Need.mk ?_ ?_)
              | (refine EndI.mk fun w1 h1 => ?_))
              all_goals first | (simp only [inK]; omega) | (refine ⟨(k + 1, w1), ?_, rfl, ⟨hlt, h1.below⟩, by simp only; omega⟩; simp only [f2]; exact Cov.mk (by repeat' (first | exact trivial | refine And.intro rfl ?_)) rfl rfl rfl rfl rfl)
          · have f2 : Incl.lows N C so (k + 1) = ⟨true, at_, st⟩ := by rw [f1]; simp [c1, c0]
            refine Branch.no (decide_eq_false c0) ?_
            repeat' (first
              | (refine Branch.yes rfl ?_)
              | (refine Branch.no rfl ?_)
              | (refine Branch.mk (fun hb => ?_) (fun hb => ?_))
              | (refine NewI.mk fun nb hnb => ?_)
              | (refine Need.mk (by show _ ∧ _; omega) ?_)
              | (refine Need.mk (by omega) ?_)
              | (refine Need.mk ?_ ?_)
              | (refine EndI.mk fun w1 h1 => ?_))
            all_goals first | (simp only [inK]; omega) | (refine ⟨(k + 1, w1), ?_, rfl, ⟨hlt, h1.below⟩, by simp only; omega⟩; simp only [f2]; exact Cov.mk (by repeat' (first | exact trivial | refine And.intro rfl ?_)) rfl rfl rfl rfl rfl)
  · have hge : k = so.length := by have : ¬ k < so.length := by simpa using hc
                                   omega
    subst hge
    refine DrawI.wr (.tk 0 (.tk 1 (.tk 2 (.tk 3 (.ev 4 (.tk 5 .done)))))) [1] [] (by kernel_rfl) rfl (by simp) fun w3 h3 => ?_
    exact EndI.mk fun w9 h9 => rfl
theorem rother06_any (N : Nat) (hN : N ≤ 4) (C : List Int) (hC : C.length = N * N) (a : Option Addr) (ca : Nat) (w : World) (hS : Sl w.heap.size w (.slice a C.length ca) C) :
    Calls Tryz.prog 300 #[.agg #[.int .i64 N, .slice a C.length ca]] w (Ret w fun v w' => ∃ a' c', v = .agg #[.int .i64 N, .slice a' (Incl.turnL N C).length c'] ∧ Own TB w.heap.size w' (.slice a' (Incl.turnL N C).length c') (Incl.turnL N C)) := by
  have hNN : N * N ≤ 4 * 4 := Nat.mul_le_mul hN hN
  have htl := Incl.turnL_len N C
  refine fun_ret 0 w Tryz.func300 (args := [.agg [.val (.int .i64 N), .val (.slice a C.length ca)]]) rfl rfl ?_
  refine NewI.mk fun b1 hb1 => ?_
  refine NewI.mk fun b2 hb2 => ?_
  refine NewI.mk fun b3 hb3 => ?_
  obtain ⟨X, hX1, hX2, hX3, hXw, hXm⟩ : ∃ X, b1 < X ∧ b2 < X ∧ b3 < X ∧ w.heap.size ≤ X ∧ ∀ n, b1 < n → b2 < n → b3 < n → w.heap.size ≤ n → X ≤ n := ⟨max (max (max b1 b2) b3 + 1) w.heap.size, by omega, by omega, by omega, by omega, fun n h1 h2 h3 h4 => by omega⟩
  refine LoopI.inv (α := Nat × World × Value) (fun y => [(4, .val (.int .i64 y.1))]) (fun y => [⟨[.val (.int .i64 N), .val (.slice a C.length ca)], 111⟩, ⟨[.val (.int .i64 0), .val (.slice none 0 0)], 111⟩, ⟨[.val (.int .i64 N), .val y.2.2], 111⟩]) (fun y => y.2.1)
    (fun y => y.1 ≤ N ∧ Below w.heap.size w y.2.1 ∧ X ≤ y.2.1.heap.size ∧ Own TB X y.2.1 y.2.2 ((Incl.turnL N C).take (y.1 * N))) (fun y => N - y.1) ?_ ?_
  · intro w1 h1
    exact ⟨(0, w1, .slice none 0 0), Cov.mk (by repeat' (first | exact trivial | refine And.intro rfl ?_)) rfl rfl rfl rfl rfl, rfl, Nat.zero_le _, h1.below, hXm _ (h1.lt b1 (by simp)) (h1.lt b2 (by simp)) (h1.lt b3 (by simp)) h1.below.size, by simp only [Nat.zero_mul]; exact Own.nil⟩
  rintro ⟨i, V, sv⟩ ⟨hi, hV, hXV, hO⟩
  simp only at hi hV hXV hO
  refine Branch.mk (fun z1 => ?_) (fun z1 => ?_)
  · have hiN : i < N := by have := of_decide_eq_true z1; simp only at this; omega
    refine LoopI.inv (α := Nat × World × Value) (fun y => [(5, .val (.int .i64 y.1))]) (fun y => [⟨[.val (.int .i64 N), .val (.slice a C.length ca)], 111⟩, ⟨[.val (.int .i64 0), .val (.slice none 0 0)], 111⟩, ⟨[.val (.int .i64 N), .val y.2.2], 111⟩]) (fun y => y.2.1)
      (fun y => y.1 ≤ N ∧ Below w.heap.size w y.2.1 ∧ X ≤ y.2.1.heap.size ∧ Own TB X y.2.1 y.2.2 ((Incl.turnL N C).take (i * N + y.1))) (fun y => N - y.1) ?_ ?_
    · intro w1 h1
      exact ⟨(0, w1, sv), Cov.mk (by repeat' (first | exact trivial | refine And.intro rfl ?_)) rfl rfl rfl rfl rfl, rfl, Nat.zero_le _, h1.below, Nat.le_trans hXV h1.size, hO.at h1 (by simp)⟩
    rintro ⟨j, U, tv⟩ ⟨hj, hU, hXU, hO2⟩
    simp only at hj hU hXU hO2
    refine Branch.mk (fun z2 => ?_) (fun z2 => ?_)
    · have hjN : j < N := by have := of_decide_eq_true z2; simp only at this; omega
      have hpl : i * N + j < N * N := Dbm.place_lt hiN hjN
      have hpq : j * N + i < N * N := Dbm.place_lt hjN hiN
      have hg := List.getElem?_eq_getElem (l := C) (i := j * N + i) (by omega)
      have hx := Incl.turnL_at (C := C) hiN hjN
      rw [hg] at hx
      simp only [Option.getD_some] at hx
      have hgt := List.getElem?_eq_getElem (l := Incl.turnL N C) (i := i * N + j) (by omega)
      rw [hgt] at hx
      simp only [Option.getD_some] at hx
      have hes : (Incl.turnL N C).take (i * N + (j + 1)) = (Incl.turnL N C).take (i * N + j) ++ [C[j * N + i]'(by omega)] := by rw [← Nat.add_assoc, List.take_add_one, hgt, hx]; rfl
      have htk : ((Incl.turnL N C).take (i * N + j)).length = i * N + j := by rw [List.length_take]; omega
      generalize C[j * N + i]'_ = x at *
      have e1 : (j : Int) * N + i = ((j * N + i : Nat) : Int) := by simp
      have e3 : (j : Int) * N = ((j * N : Nat) : Int) := by simp
      cases htv : tv.ownBlock with
      | none =>
        refine DrawI.wr (.tk 0 (.tk 2 (.tk 3 (.tk 4 (.tk 5 (.tk 6 (.tk 7 (.tk 8 (.tk 9 (.tk 10 (.tk 11 (.two 1 (.ev 12 (.ev 13 (.tk 14 (.ev 15 .done)))) 12 (.ev 1 (.ev 13 (.tk 14 (.ev 15 .done)))))))))))))))) [2] [] (by kernel_rfl) rfl (by simp) fun w2 h2 => ?_
        refine Need.mk (by show inK .i64 ((j : Int) * N); rw [e3]; simp only [inK]; omega) ?_
        refine Need.mk (by show inK .i64 ((j : Int) * N + i); rw [e1]; simp only [inK]; omega) ?_
        conv => whnf
        rw [e1]
        have hS2 := hS.below h2.below
        have hO3 := hO2.below (atB h2 (by simp))
        have hb2X : X ≤ w2.heap.size := Nat.le_trans hXU h2.size
        refine hS2.idx hg fun ad1 had1 => ?_
        refine hS2.ld1 hg had1 (Below.refl _ _) (fun x hx => by simp [locs] at hx; rw [hx]; exact hb3) ?_
        refine Both.mk ?_ ?_
        · refine NewI.mk fun b5 hb5 => ?_
          have hb5' : w2.heap.size ≤ b5 := hb5
          have hr : ∀ k, tv.ownBlock = some k → w.heap.size ≤ k ∧ k ∉ [b1, b2, b3, b5] ∧ (k ∈ (locs [b1, b2, b3] [2] ++ []) ∨ w2.heap.size ≤ k) := fun k hk => by rw [htv] at hk; cases hk
          refine GenN.app (α := Int) elB ((Incl.turnL N C).take (i * N + j)) [x] X (fun w5 h5 => hO3.below h5.go) (fun w5 h5 => src_own h5 3 rfl rfl rfl rfl) (by rw [htk]; unfold maxLen; simp; omega) (by rw [htk]; simp; omega) (fun w5 h5 => Nat.le_trans hb2X h5.size)
            (fun w5 w6 h5 hg => kpD_grown h5 hg hr) fun sv' w5 w6 h5 hg hO' => ?_
          obtain ⟨a', c', rfl⟩ := hO'.form
          rw [← hes] at hO' ⊢
          have hX6 : X ≤ w6.heap.size := Nat.le_trans hb2X (Nat.le_trans h5.size hg.size)
          refine Need.mk (by simp only [inK]; omega) (EndI.mk fun w7 h7 => ⟨(j + 1, w7, .slice a' ((Incl.turnL N C).take (i * N + (j + 1))).length c'), Cov.mk (by repeat' (first | exact trivial | refine And.intro rfl ?_)) rfl rfl rfl rfl rfl, rfl, ⟨hjN, h7.below, Nat.le_trans hX6 h7.size, ?_⟩, by simp only; omega⟩)
          exact hO'.at h7 (by intro b hb; simp at hb; subst hb; exact hX3)
        · refine NewI.mk fun b5 hb5 => ?_
          have hb5' : w2.heap.size ≤ b5 := hb5
          have hr : ∀ k, tv.ownBlock = some k → w.heap.size ≤ k ∧ k ∉ [b1, b2, b3, b5] ∧ (k ∈ (locs [b1, b2, b3] [2] ++ []) ∨ w2.heap.size ≤ k) := fun k hk => by rw [htv] at hk; cases hk
          refine GenN.app (α := Int) elB ((Incl.turnL N C).take (i * N + j)) [x] X (fun w5 h5 => hO3.below h5.go) (fun w5 h5 => src_own h5 3 rfl rfl rfl rfl) (by rw [htk]; unfold maxLen; simp; omega) (by rw [htk]; simp; omega) (fun w5 h5 => Nat.le_trans hb2X h5.size)
            (fun w5 w6 h5 hg => kpD_grown h5 hg hr) fun sv' w5 w6 h5 hg hO' => ?_
          obtain ⟨a', c', rfl⟩ := hO'.form
          rw [← hes] at hO' ⊢
          have hX6 : X ≤ w6.heap.size := Nat.le_trans hb2X (Nat.le_trans h5.size hg.size)
          refine Need.mk (by simp only [inK]; omega) (EndI.mk fun w7 h7 => ⟨(j + 1, w7, .slice a' ((Incl.turnL N C).take (i * N + (j + 1))).length c'), Cov.mk (by repeat' (first | exact trivial | refine And.intro rfl ?_)) rfl rfl rfl rfl rfl, rfl, ⟨hjN, h7.below, Nat.le_trans hX6 h7.size, ?_⟩, by simp only; omega⟩)
          exact hO'.at h7 (by intro b hb; simp at hb; subst hb; exact hX3)
      | some g =>
        have hgX : X ≤ g := (hO2.lt g htv).1
        refine DrawI.wr (.tk 0 (.tk 2 (.tk 3 (.tk 4 (.tk 5 (.tk 6 (.tk 7 (.tk 8 (.tk 9 (.tk 10 (.tk 11 (.two 1 (.ev 12 (.ev 13 (.tk 14 (.ev 15 .done)))) 12 (.ev 1 (.ev 13 (.tk 14 (.ev 15 .done)))))))))))))))) [2] [g] (by kernel_rfl) rfl (by intro b hb hm; simp at hb hm; omega) fun w2 h2 => ?_
        refine Need.mk (by show inK .i64 ((j : Int) * N); rw [e3]; simp only [inK]; omega) ?_
        refine Need.mk (by show inK .i64 ((j : Int) * N + i); rw [e1]; simp only [inK]; omega) ?_
        conv => whnf
        rw [e1]
        have hS2 := hS.below h2.below
        have hO3 := hO2.below (atB h2 (by simp))
        have hb2X : X ≤ w2.heap.size := Nat.le_trans hXU h2.size
        refine hS2.idx hg fun ad1 had1 => ?_
        refine hS2.ld1 hg had1 (Below.refl _ _) (fun x hx => by simp [locs] at hx; have : w.heap.size ≤ b3 := hb3; omega) ?_
        refine Both.mk ?_ ?_
        · refine NewI.mk fun b5 hb5 => ?_
          have hb5' : w2.heap.size ≤ b5 := hb5
          have hr : ∀ k, tv.ownBlock = some k → w.heap.size ≤ k ∧ k ∉ [b1, b2, b3, b5] ∧ (k ∈ (locs [b1, b2, b3] [2] ++ [g]) ∨ w2.heap.size ≤ k) := fun k hk => by
            have := hO3.lt k hk
            rw [htv] at hk; injection hk with hk; subst hk
            refine ⟨by omega, fun hm => ?_, .inl (by simp [locs])⟩
            simp only [List.mem_cons, List.not_mem_nil, or_false] at hm
            omega
          refine GenN.app (α := Int) elB ((Incl.turnL N C).take (i * N + j)) [x] X (fun w5 h5 => hO3.below h5.go) (fun w5 h5 => src_own h5 3 rfl rfl rfl rfl) (by rw [htk]; unfold maxLen; simp; omega) (by rw [htk]; simp; omega) (fun w5 h5 => Nat.le_trans hb2X h5.size)
            (fun w5 w6 h5 hg => kpD_grown h5 hg hr) fun sv' w5 w6 h5 hg hO' => ?_
          obtain ⟨a', c', rfl⟩ := hO'.form
          rw [← hes] at hO' ⊢
          have hX6 : X ≤ w6.heap.size := Nat.le_trans hb2X (Nat.le_trans h5.size hg.size)
          refine Need.mk (by simp only [inK]; omega) (EndI.mk fun w7 h7 => ⟨(j + 1, w7, .slice a' ((Incl.turnL N C).take (i * N + (j + 1))).length c'), Cov.mk (by repeat' (first | exact trivial | refine And.intro rfl ?_)) rfl rfl rfl rfl rfl, rfl, ⟨hjN, h7.below, Nat.le_trans hX6 h7.size, ?_⟩, by simp only; omega⟩)
          exact hO'.at h7 (by intro b hb; simp at hb; subst hb; exact hX3)
        · refine NewI.mk fun b5 hb5 => ?_
          have hb5' : w2.heap.size ≤ b5 := hb5
          have hr : ∀ k, tv.ownBlock = some k → w.heap.size ≤ k ∧ k ∉ [b1, b2, b3, b5] ∧ (k ∈ (locs [b1, b2, b3] [2] ++ [g]) ∨ w2.heap.size ≤ k) := fun k hk => by
            have := hO3.lt k hk
            rw [htv] at hk; injection hk with hk; subst hk
            refine ⟨by omega, fun hm => ?_, .inl (by simp [locs])⟩
            simp only [List.mem_cons, List.not_mem_nil, or_false] at hm
            omega
          refine GenN.app (α := Int) elB ((Incl.turnL N C).take (i * N + j)) [x] X (fun w5 h5 => hO3.below h5.go) (fun w5 h5 => src_own h5 3 rfl rfl rfl rfl) (by rw [htk]; unfold maxLen; simp; omega) (by rw [htk]; simp; omega) (fun w5 h5 => Nat.le_trans hb2X h5.size)
            (fun w5 w6 h5 hg => kpD_grown h5 hg hr) fun sv' w5 w6 h5 hg hO' => ?_
          obtain ⟨a', c', rfl⟩ := hO'.form
          rw [← hes] at hO' ⊢
          have hX6 : X ≤ w6.heap.size := Nat.le_trans hb2X (Nat.le_trans h5.size hg.size)
          refine Need.mk (by simp only [inK]; omega) (EndI.mk fun w7 h7 => ⟨(j + 1, w7, .slice a' ((Incl.turnL N C).take (i * N + (j + 1))).length c'), Cov.mk (by repeat' (first | exact trivial | refine And.intro rfl ?_)) rfl rfl rfl rfl rfl, rfl, ⟨hjN, h7.below, Nat.le_trans hX6 h7.size, ?_⟩, by simp only; omega⟩)
          exact hO'.at h7 (by intro b hb; simp at hb; subst hb; exact hX3)
    · have hge : j = N := by have := of_decide_eq_false z2; simp only at this; omega
      subst hge
      have hnx : i * j + j = (i + 1) * j := by rw [Nat.add_mul, Nat.one_mul]
      refine Need.mk (by simp only [inK]; omega) (EndI.mk fun w9 h9 => ⟨(i + 1, w9, tv), Cov.mk (by repeat' (first | exact trivial | refine And.intro rfl ?_)) rfl rfl rfl rfl rfl, rfl, ⟨hiN, h9.below, Nat.le_trans hXU h9.size, ?_⟩, by simp only; omega⟩)
      simp only; rw [← hnx]; exact hO2.at h9 (by simp)
  · have hge : i = N := by have := of_decide_eq_false z1; simp only at this; omega
    subst hge
    rw [List.take_of_length_le (by omega)] at hO
    obtain ⟨a', c', rfl⟩ := hO.form
    exact EndI.mk fun w3 h3 => ⟨_, _, rfl, (hO.at h3 (by intro b hb; simp at hb; omega)).lower hXw⟩
theorem rturned06_any (so : List Rt) (hso : so.length ≤ 4) (hs : ∀ r, r ∈ so → Incl.Sf r) (b : Option Addr) (cb : Nat) (w : World) (hB : Sl w.heap.size w (.slice b so.length cb) so) :
    Calls Tryz.prog 301 #[.slice b so.length cb] w (Ret w fun v w' => ∃ a' c', v = .slice a' (Incl.negs so).length c' ∧ Own TR w.heap.size w' (.slice a' (Incl.negs so).length c') (Incl.negs so)) := by
  refine fun_ret 0 w Tryz.func301 (args := [.val (.slice b so.length cb)]) rfl rfl ?_
  have hnl : (Incl.negs so).length = so.length := by simp [Incl.negs]
  refine LoopI.invC (α := Nat × World × Value) (fun y => [(4, .val (.int .i64 y.1)), (3, .val y.2.2)]) (fun y => y.2.1)
    (fun y => y.1 ≤ so.length ∧ Below w.heap.size w y.2.1 ∧ Own TR w.heap.size y.2.1 y.2.2 ((Incl.negs so).take y.1)) (fun y => so.length - y.1) ?_ ?_
  · intro w1 h1
    exact ⟨(0, w1, .slice none 0 0), Cov.mk (by repeat' (first | exact trivial | refine And.intro rfl ?_)) rfl rfl rfl rfl rfl, rfl, Nat.zero_le _, h1.below, Own.nil⟩
  rintro ⟨k, U, tv⟩ ⟨hk, hU, hO2⟩
  simp only at hk hU hO2
  refine Branch.mk (fun z2 => ?_) (fun z2 => ?_)
  · have hlt : k < so.length := by have := of_decide_eq_true z2; simp only at this; omega
    have hg := List.getElem?_eq_getElem (l := so) (i := k) hlt
    have hins := (hs _ (List.getElem_mem hlt))
    have hes : (Incl.negs so).take (k + 1) = (Incl.negs so).take k ++ [Fr.neg (so[k]'hlt)] := by rw [List.take_add_one]; unfold Incl.negs; rw [List.getElem?_map, hg]; rfl
    have htk : ((Incl.negs so).take k).length = k := by rw [List.length_take]; omega
    generalize so[k]'_ = r at *
    have hri := hins.ins
    have hrb := Fr.ok_bd hins.ok
    have hr1 := hins.lo
    have hr3 := hins.hi
    have hr2 := hins.den
    have hBU := hB.below hU
    cases htv : tv.ownBlock with
    | none =>
      refine DrawI.wr (.tk 0 (.tk 1 (.tk 2 (.tk 3 (.tk 4 (.tk 5 (.tk 6 (.tk 7 (.tk 8 (.tk 9 (.tk 10 (.tk 11 (.tk 12 (.ev 13 (.ev 14 (.tk 15 .done)))))))))))))))) [] [] (by kernel_rfl) rfl (by simp) fun w2 h2 => ?_
      have hB2 := hB.below h2.below
      have hO3 := hO2.below (atB h2 (by simp))
      refine hB2.idx hg fun ad1 had1 => ?_
      refine hB2.ldf hg had1 (Below.refl _ _) (by simp) (i := 0) (c := .int .i64 r.num) rfl ?_
      refine Need.mk (by simp only [inK]; omega) ?_
      refine hB2.idx hg fun ad2 had2 => ?_
      refine hB2.ldf hg had2 (Below.refl _ _) (by simp) (i := 1) (c := .int .i64 r.den) rfl ?_
      refine NewI.mk fun b5 hb5 => ?_
      have hb5' : w2.heap.size ≤ b5 := hb5
      have hr : ∀ k, tv.ownBlock = some k → w.heap.size ≤ k ∧ k ∉ [b5] ∧ (k ∈ ([] ++ [] : List Nat) ∨ w2.heap.size ≤ k) := fun k hk => by rw [htv] at hk; cases hk
      conv => whnf
      rw [show (0 : Int) - r.num = -r.num by omega]
      refine GenN.app (α := Rt) elR ((Incl.negs so).take k) [Fr.neg r] w.heap.size (fun w5 h5 => hO3.below h5.go) (fun w5 h5 => src_own h5 0 rfl rfl rfl rfl) (by rw [htk]; unfold maxLen; simp; omega) (by rw [htk]; simp; omega) (fun w5 h5 => h5.below.size)
        (fun w5 w6 h5 hg => kpD_grown h5 hg hr) fun sv' w5 w6 h5 hg hO' => ?_
      obtain ⟨a', c', rfl⟩ := hO'.form
      rw [← hes] at hO' ⊢
      refine Need.mk (by simp only [inK]; omega) (EndI.mk fun w7 h7 => ⟨(k + 1, w7, .slice a' ((Incl.negs so).take (k + 1)).length c'), Cov.mk (by repeat' (first | exact trivial | refine And.intro rfl ?_)) rfl rfl rfl rfl rfl, rfl, ⟨hlt, h7.below, ?_⟩, by simp only; omega⟩)
      exact hO'.at h7 (by simp)
    | some g =>
      have hgX : w.heap.size ≤ g := (hO2.lt g htv).1
      refine DrawI.wr (.tk 0 (.tk 1 (.tk 2 (.tk 3 (.tk 4 (.tk 5 (.tk 6 (.tk 7 (.tk 8 (.tk 9 (.tk 10 (.tk 11 (.tk 12 (.ev 13 (.ev 14 (.tk 15 .done)))))))))))))))) [] [g] (by kernel_rfl) rfl (by simp) fun w2 h2 => ?_
      have hB2 := hB.below h2.below
      have hO3 := hO2.below (atB h2 (by simp))
      refine hB2.idx hg fun ad1 had1 => ?_
      refine hB2.ldf hg had1 (Below.refl _ _) (fun x hx => by simp at hx; omega) (i := 0) (c := .int .i64 r.num) rfl ?_
      refine Need.mk (by simp only [inK]; omega) ?_
      refine hB2.idx hg fun ad2 had2 => ?_
      refine hB2.ldf hg had2 (Below.refl _ _) (fun x hx => by simp at hx; omega) (i := 1) (c := .int .i64 r.den) rfl ?_
      refine NewI.mk fun b5 hb5 => ?_
      have hb5' : w2.heap.size ≤ b5 := hb5
      have hr : ∀ k, tv.ownBlock = some k → w.heap.size ≤ k ∧ k ∉ [b5] ∧ (k ∈ ([] ++ [g] : List Nat) ∨ w2.heap.size ≤ k) := fun k hk => by
        have := hO3.lt k hk
        rw [htv] at hk; injection hk with hk; subst hk
        refine ⟨by omega, fun hm => ?_, .inl (by simp)⟩
        simp only [List.mem_cons, List.not_mem_nil, or_false] at hm
        omega
      conv => whnf
      rw [show (0 : Int) - r.num = -r.num by omega]
      refine GenN.app (α := Rt) elR ((Incl.negs so).take k) [Fr.neg r] w.heap.size (fun w5 h5 => hO3.below h5.go) (fun w5 h5 => src_own h5 0 rfl rfl rfl rfl) (by rw [htk]; unfold maxLen; simp; omega) (by rw [htk]; simp; omega) (fun w5 h5 => h5.below.size)
        (fun w5 w6 h5 hg => kpD_grown h5 hg hr) fun sv' w5 w6 h5 hg hO' => ?_
      obtain ⟨a', c', rfl⟩ := hO'.form
      rw [← hes] at hO' ⊢
      refine Need.mk (by simp only [inK]; omega) (EndI.mk fun w7 h7 => ⟨(k + 1, w7, .slice a' ((Incl.negs so).take (k + 1)).length c'), Cov.mk (by repeat' (first | exact trivial | refine And.intro rfl ?_)) rfl rfl rfl rfl rfl, rfl, ⟨hlt, h7.below, ?_⟩, by simp only; omega⟩)
      exact hO'.at h7 (by simp)
  · have hge : k = so.length := by have := of_decide_eq_false z2; simp only at this; omega
    subst hge
    rw [List.take_of_length_le (by omega)] at hO2
    obtain ⟨a', c', rfl⟩ := hO2.form
    exact EndI.mk fun w3 h3 => ⟨_, _, rfl, hO2.at h3 (by simp)⟩
set_option maxHeartbeats 4000000 in
theorem rpick06_any (N : Nat) (hN : N ≤ 4) (C : List Int) (hC : C.length = N * N) (hb : ∀ p : Nat, Dbm.lim 288230376151711744 (C[p]?.getD 0)) (so : List Rt) (hso : so.length < N) (hs : ∀ r, r ∈ so → Incl.Sf r) (a b : Option Addr) (ca cb : Nat) (w : World) (hA : Sl w.heap.size w (.slice a C.length ca) C) (hB : Sl w.heap.size w (.slice b so.length cb) so) :
    Calls Tryz.prog 262 #[.agg #[.int .i64 N, .slice a C.length ca], .slice b so.length cb] w fun e w' => e = .returned (.agg #[.int .i64 (Incl.pick N C so).num, .int .i64 (Incl.pick N C so).den]) ∧ Below w.heap.size w w' := by
  have hnl : (Incl.negs so).length = so.length := by simp [Incl.negs]
  have hsn : ∀ r, r ∈ Incl.negs so → Incl.Sf r := fun r hr => by
    obtain ⟨x, hx, rfl⟩ := List.mem_map.1 hr
    exact (hs x hx).neg
  rw [← Incl.rpick_eq hso hb hs]
  have hii : (Incl.lows N C so so.length).at_.ins := Incl.lows_ins _
  have hjo := Incl.lows_sm (N := N) (Incl.turnL_lim (N := N) hb) hsn so.length (by omega)
  have hji : (Incl.lows N (Incl.turnL N C) (Incl.negs so) so.length).at_.ins := Incl.lows_ins _
  have hc1 := rlow06_any N hN C hC hb so hso hs a b ca cb
  have hc2 := fun a2 b2 ca2 cb2 => rlow06_any N hN (Incl.turnL N C) (Incl.turnL_len N C) (Incl.turnL_lim hb) (Incl.negs so) (by omega) hsn a2 b2 ca2 cb2
  rw [hnl] at hc2
  refine fun_eq 0 w Tryz.func262 (args := [.agg [.val (.int .i64 N), .val (.slice a C.length ca)], .val (.slice b so.length cb)]) rfl rfl ?_
  have st := Stay.first (w := w)
  refine NewI.mk fun b1 hb1 => ?_
  refine NewI.mk fun b2 hb2 => ?_
  generalize Incl.lows N C so so.length = lo at *
  apply CallI.use1
  focus (exact fun w1 h1 => hc1 w1 (hA.st (st.at h1 (fun x hx => by simp at hx <;> omega))) (hB.st (st.at h1 (fun x hx => by simp at hx <;> omega))))
  intro w1 v1 h1 hB1
  have st := st.next h1 (fun x hx => by simp at hx <;> omega) hB1
  refine NewI.mk fun b3 hb3 => ?_
  apply CallI.use
  focus (exact fun w2 h2 => rother06_any N hN C hC a ca w2 (hA.st (st.at h2 (fun x hx => by simp at hx <;> omega))))
  rintro v w2 v2 h2 hB2 ⟨a2, c2, rfl, hO2⟩
  have st := st.next h2 (fun x hx => by simp at hx <;> omega) hB2
  apply CallI.use
  focus (exact fun w3 h3 => rturned06_any so (by omega) hs b cb w3 (hB.st (st.at h3 (fun x hx => by simp at hx <;> omega))))
  rintro v w3 v3 h3 hB3 ⟨a3, c3, rfl, hO3⟩
  have st := st.next h3 (fun x hx => by simp at hx <;> omega) hB3
  rw [hnl] at *
  apply CallI.use1
  focus (exact fun w4 h4 => hc2 a2 a3 c2 c3 w4 ((hO2.st (st.at h4 (fun x hx => by simp at hx <;> omega))).sl) ((hO3.st (st.at h4 (fun x hx => by simp at hx <;> omega))).sl))
  intro w4 v4 h4 hB4
  have st := st.next h4 (fun x hx => by simp at hx <;> omega) hB4
  generalize Incl.lows N (Incl.turnL N C) (Incl.negs so) so.length = hi at *
  refine NewI.mk fun b4 hb4 => ?_
  have hj1 := Fr.ok_bd hjo.ok
  have hj2 := hjo.den
  have hj3 := hjo.lo
  have hj4 := hjo.hi
  refine Need.mk (by simp only [inK]; omega) ?_
  conv => whnf
  rw [show (0 : Int) - hi.at_.num = -hi.at_.num by omega]
  refine NewI.mk fun b5 hb5 => ?_
  have hbi : (Incl.back hi).at_.ins := ⟨by show inK .i64 (-hi.at_.num); simp only [inK]; omega, hji.2⟩
  obtain ⟨li, la, ls⟩ := lo
  obtain ⟨hi, ha, hs⟩ := hi
  simp only at hii hji
  unfold Incl.choose Incl.back
  change Rt.ins ⟨-ha.num, ha.den⟩ at hbi
  clear hc1 hc2 hj1 hj2 hj3 hj4 hjo
  have hsA := fun (w : World) => rshift06_any la 1 hii (by simp [inK]) w
  have hsB := fun (w : World) => rshift06_any ⟨-ha.num, ha.den⟩ (-1) hbi (by simp [inK]) w
  have hsM := fun (w : World) => rmid03_any la ⟨-ha.num, ha.den⟩ hii hbi w
  cases li
  · cases hi
    · refine Branch.no rfl ?_
      refine Branch.no rfl ?_
      refine Branch.no rfl ?_
      refine Branch.no rfl ?_
      refine Branch.no rfl ?_
      exact EndI.mk fun w3 h3 => rfl
    · cases hs
      · refine Branch.no rfl ?_
        refine Branch.yes rfl ?_
        refine Branch.yes rfl ?_
        exact EndI.mk fun w3 h3 => rfl
      · refine Branch.no rfl ?_
        refine Branch.yes rfl ?_
        refine Branch.no rfl ?_
        refine Branch.no rfl ?_
        refine Branch.no rfl ?_
        refine Branch.yes rfl ?_
        apply CallI.use1
        focus (exact fun w1 h1 => hsB w1)
        intro w1 v1 h1 hB1
        exact EndI.mk fun w3 h3 => rfl
  · cases ls
    · refine Branch.yes rfl ?_
      refine Branch.yes rfl ?_
      exact EndI.mk fun w3 h3 => rfl
    · cases hi
      · refine Branch.yes rfl ?_
        refine Branch.no rfl ?_
        refine Branch.no rfl ?_
        refine Branch.yes rfl ?_
        refine Branch.no rfl ?_
        refine Branch.yes rfl ?_
        apply CallI.use1
        focus (exact fun w1 h1 => hsA w1)
        intro w1 v1 h1 hB1
        exact EndI.mk fun w3 h3 => rfl
      · cases hs
        · refine Branch.yes rfl ?_
          refine Branch.no rfl ?_
          refine Branch.yes rfl ?_
          refine Branch.yes rfl ?_
          exact EndI.mk fun w3 h3 => rfl
        · refine Branch.yes rfl ?_
          refine Branch.no rfl ?_
          refine Branch.yes rfl ?_
          refine Branch.no rfl ?_
          refine Branch.yes rfl ?_
          refine Branch.yes rfl ?_
          apply CallI.use1
          focus (exact fun w1 h1 => hsM w1)
          intro w1 v1 h1 hB1
          refine NewI.mk fun b6 hb6 => ?_
          exact EndI.mk fun w3 h3 => rfl
/-- the times that are picked of a closed matrix of three clocks. -/
theorem rpicked06_any (C : List Int) (hc : Dbm.chk 3 C = 0) (hC : Dbm.Clo 3 C) (a : Option Addr) (ca : Nat) (w : World) (hA : Sl w.heap.size w (.slice a C.length ca) C) :
    Calls Tryz.prog 205 #[.agg #[.int .i64 3, .slice a C.length ca]] w (Ret w fun v w' => ∃ a' c', v = .slice a' (Incl.picked 3 C).length c' ∧ Sl w'.heap.size w' (.slice a' (Incl.picked 3 C).length c') (Incl.picked 3 C) ∧ ∀ ad, a' = some ad → w.heap.size ≤ ad.block) := by
  have hb := Incl.chk_all hc
  have hsf := Incl.sofar_sf hc hC
  have hlen : C.length = 3 * 3 := hC.len
  refine fun_ret 0 w Tryz.func205 (args := [.agg [.val (.int .i64 3), .val (.slice a C.length ca)]]) rfl rfl ?_
  have st := Stay.first (w := w)
  refine NewI.mk fun b1 hb1 => ?_
  refine NewI.mk fun b2 hb2 => ?_
  have hb2w : w.heap.size ≤ b2 := hb2
  refine LoopI.rounds 3 ?_
  refine Branch.yes rfl ?_
  apply CallI.use1
  focus (exact fun w1 h1 => rpick06_any 3 (by omega) C hlen hb [⟨0, 1⟩] (by simp) (hsf 0 (by omega)) a _ ca _ w1 (hA.st (st.at h1 (fun x hx => by simp at hx <;> omega))) (Sl.own (l := [(⟨0, 1⟩ : Rt)]) h1 1 rfl rfl rfl (Nat.le_refl _) (by simp [maxLen])))
  intro w1 v1 h1 hB1
  have st := st.next h1 (fun x hx => by simp at hx <;> omega) hB1
  refine NewI.mk fun b3 hb3 => ?_
  refine GenN.appN (α := Rt) elR [⟨0, 1⟩] [Incl.pick 3 C [⟨0, 1⟩]] w.heap.size rfl (fun w5 h5 => Own.own (l := [(⟨0, 1⟩ : Rt)]) h5 1 rfl rfl rfl hb2w) (fun w5 h5 => src_own h5 2 rfl rfl rfl rfl) (by simp) (by simp [maxLen]) (by simp) fun v w5 v5 h5 hB5 hO => ?_
  obtain ⟨av, cv, rfl⟩ := hO.form
  have hlp := Lp.ofNew (st.sub (m := [v1, w1, w]) (by simp)) h5 (fun x hx => by simp at hx <;> omega) hB5 hO
  have es : ([⟨0, 1⟩] ++ [Incl.pick 3 C [⟨0, 1⟩]] : List Rt) = Incl.sofar 3 C 1 := rfl
  rw [es] at hlp hO ⊢
  have hsl : (Incl.sofar 3 C 1).length = 2 := Incl.sofar_len 3 C 1
  refine Need.mk (by simp only [inK]; omega) ?_
  refine Branch.yes rfl ?_
  have hpk2 := fun (w : World) (bb : Option Addr) (cb : Nat) h1 h2 => rpick06_any 3 (by omega) C hlen hb (Incl.sofar 3 C 1) (by omega) (hsf 1 (by omega)) a bb ca cb w h1 h2
  apply CallI.use1
  focus (exact fun w6 h6 => hpk2 w6 _ _ (hA.st (hlp.at h6 (by simp)).st) (hlp.at h6 (by simp)).own.sl)
  intro w6 v6 h6 hB6
  have hlp6 := (hlp.at h6 (by simp)).go hB6
  refine NewI.mk fun b4 hb4 => ?_
  refine GenN.appL (α := Rt) elR hlp6 (fun x hx => by simp at hx ⊢; rcases hx with h | h | h | h <;> simp [h]; exact .inr hb4) (fun x hx => by simp at hx <;> omega) [Incl.pick 3 C (Incl.sofar 3 C 1)] (fun w8 h8 => src_own h8 3 rfl rfl rfl rfl) (by rw [hsl]; simp) (by decide) fun a' c' w8 w9 h8 hlp9 hsz hbl => ?_
  have es2 : Incl.sofar 3 C 1 ++ [Incl.pick 3 C (Incl.sofar 3 C 1)] = Incl.sofar 3 C 2 := rfl
  rw [es2] at hlp9 ⊢
  have hsl2 : (Incl.sofar 3 C 2).length = 3 := Incl.sofar_len 3 C 2
  refine Need.mk (by simp only [inK]; omega) ?_
  refine Branch.no rfl ?_
  have hcap : (Incl.sofar 3 C 2).length ≤ c' := by
    obtain ⟨_, _, e, h1, _⟩ := hlp9.own.sl.form
    injection e with _ _ e
    omega
  refine Need.mk ⟨by omega, by omega, by omega⟩ ?_
  refine EndI.mk fun w7 h7 => ?_
  have hS7 := (hlp9.at h7 (by simp)).own.sl
  have hsub := hS7.sub 1 (Incl.sofar 3 C 2).length (by omega) (Nat.le_refl _)
  have epk : ((Incl.sofar 3 C 2).drop 1).take ((Incl.sofar 3 C 2).length - 1) = Incl.picked 3 C := by
    rw [List.take_of_length_le (by simp)]; rfl
  rw [epk] at hsub
  have hpl : (Incl.picked 3 C).length = (Incl.sofar 3 C 2).length - 1 := by rw [← epk]; simp
  show ∃ a'' cap', Value.slice _ ((Incl.sofar 3 C 2).length - 1) (c' - 1) = .slice a'' (Incl.picked 3 C).length cap' ∧ Sl w7.heap.size w7 (.slice a'' (Incl.picked 3 C).length cap') (Incl.picked 3 C) ∧ ∀ ad, a'' = some ad → w.heap.size ≤ ad.block
  rw [hpl]
  refine ⟨_, _, rfl, hsub, fun ad had => ?_⟩
  replace had : (if c' = 1 then a' else a'.map (·.add (1 * size Rt))) = some ad := had
  have hb0 := hlp9.b0
  obtain ⟨_, ⟨e0, _⟩ | ⟨g, cp, cur, e0, hbg, _⟩⟩ := hlp9.own
  · injection e0 with e0
    subst e0
    split at had <;> simp at had
  · injection e0 with e0
    subst e0
    split at had
    · injection had with had; subst had; exact Nat.le_trans hb0 hbg
    · simp only [Option.map_some, Option.some.injEq] at had
      rw [addr_addL] at had
      subst had; exact Nat.le_trans hb0 hbg
end Go.Proofs.YtgjeeghhhfpkoaaGreat

