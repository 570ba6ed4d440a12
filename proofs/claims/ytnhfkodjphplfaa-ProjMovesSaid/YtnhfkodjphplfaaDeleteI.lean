/-
  slices.Delete at a list of int: in place.
-/
import Derived.Test.YtnhfkodjphplfaaSl
import Derived.Test.YtnhfkodjphplfaaPlainList
import Derived.Test.YtnhfkodjphplfaaSl2
import Derived.Test.YtnhfkodjphplfaaThru
namespace Go.Proofs.Ytnhfkodjphplfaa
set_option linter.unusedVariables false
set_option linter.unusedSimpArgs false
set_option maxRecDepth 100000
open Go.RowKit Go.Proofs.Ytnhfkodjphplfaa.Eng Enc

theorem elDI : ElOk Try.prog 42 3 1 8 := elOk (z := .int .i64 0) Try.underlying42 (by kernel_rfl) rfl (by decide)
theorem tyDI : TyOk Try.prog 3 ⟨[.int .i64 0], false⟩ := tyOk_one Try.zeroValue3 Try.sizeOf3 Try.isAgg3 rfl
theorem deleteI_any (l : List Int) (g cap base i j : Nat) (e0 : TypeId) (he : e0 = 3) (hij : i < j) (hj : j ≤ l.length) (B : Nat) (w : World) (hB : B ≤ w.heap.size) (hg : B ≤ g) (hO : Own e0 base w (.slice (some ⟨g, 0, none⟩) l.length cap) l) (hlen : l.length ≤ 1000000) :
    Calls Try.prog 25 #[.slice (some ⟨g, 0, none⟩) l.length cap, .int .i64 i, .int .i64 j] w fun e w' => ∃ v, e = .returned v ∧ Below B w w' ∧ v = .slice (some ⟨g, 0, none⟩) (i + (l.length - j)) cap ∧ Own e0 base w' (.slice (some ⟨g, 0, none⟩) (i + (l.length - j)) cap) (l.take i ++ l.drop j) ∧ w.grownBy w' (some g) := by
  subst he
  obtain ⟨_, hbg, hgl, cur0, _, hcap, hmax, _, _⟩ := hO.at0
  have hm : cap ≤ 9223372036854775807 := by unfold maxLen at hmax; omega
  refine fun_at 0 B w hB Try.func25 (args := [.val (.slice (some ⟨g, 0, none⟩) l.length cap), .val (.int .i64 i), .val (.int .i64 j)]) rfl rfl ?_
  refine Need.mk ⟨by omega, by omega, by omega, by omega⟩ ?_
  refine Branch.no (by simp; omega) ?_
  refine DrawI.wr (.tk 0 (.tk 1 (.tk 2 (.tk 3 (.tk 4 (.tk 5 (.ev 6 (.tk 7 .done)))))))) [] [g] (by kernel_rfl) rfl (fun _ h => by cases h) fun w1 h1 => ?_
  refine Need.mk ⟨by omega, by omega, by omega⟩ ?_
  refine Need.mk ⟨by omega, by omega, by omega⟩ ?_
  have hdl : (l.drop j).length = l.length - j := by simp
  have hil : (l.take i).length = i := by simp; omega
  refine GenN.mk fun w2 h2 => ?_
  have k2 := h1.go.trans (h2.go.mono h1.size)
  have hO2 : Own 3 base w2 (.slice (some ⟨g, 0, none⟩) l.length cap) l := hO.below k2
  have hT := hO2.take i (by omega)
  have hs0 := (hO2.sl).sub j l.length hj (Nat.le_refl _)
  rw [List.take_of_length_le (by simp)] at hs0
  obtain ⟨hl, hs⟩ := hs0.src
  have happ : ∃ w', (Builtin.append_ #[42, 42] 42 #[.slice (some ⟨g, 0, none⟩) i cap, .slice (if cap = j then some ⟨g, 0, none⟩ else (some (⟨g, 0, none⟩ : Addr)).map (·.add (j * size Int))) (l.length - j) (cap - j)]).run Try.prog w2 = .ok (.slice (some ⟨g, 0, none⟩) (i + (l.length - j)) cap) w' ∧
      Own 3 base w' (.slice (some ⟨g, 0, none⟩) (i + (l.length - j)) cap) (l.take i ++ l.drop j) ∧ w2.grownBy w' (some g) := by
    obtain ⟨ht, ⟨inf, z, hi, hz, hss, hb, hzs⟩, hp⟩ := elDI
    have hown : w2.ownsRow base 3 (size Int) (.slice (some ⟨g, 0, none⟩) i cap) i (cellsL (l.take i)) := by have := hT; unfold Own at this; rwa [hil] at this
    rcases hs with ⟨e0, hm0⟩ | ⟨ad, c, e0, hc⟩
    · split at e0 <;> simp at e0
    · rw [e0]
      rw [hdl] at hl ⊢
      obtain ⟨w', a1, a2, a3⟩ := run_append_fits (P := Try.prog) w2 base 42 42 3 inf (size Int) ht hi hss g i cap (cellsL (l.take i)) hown ad (l.length - j) c (cellsL (l.drop j)) hl hc (cellsL_one _) (by omega)
      refine ⟨w', a1, ?_, a3⟩
      unfold Own
      rw [cellsL_append, List.length_append, hil, hdl]; exact a2
  obtain ⟨w3, hr3, hO3, hg3⟩ := happ
  refine ⟨.slice (some ⟨g, 0, none⟩) (i + (l.length - j)) cap, w3, ?_, kpD_grown h2 hg3 (fun k hk => by injection hk with hk; subst hk; exact ⟨hg, by simp, .inl (by simp [locs])⟩), ?_⟩
  · exact run_value hr3
  have hnl : (l.take i ++ l.drop j).length = i + (l.length - j) := by rw [List.length_append, hil, hdl]
  refine Need.mk ⟨by omega, by omega, by omega⟩ ?_
  refine GenN.mk fun w4 h4 => ?_
  have hO4 := hO3.below h4.go
  have g4 : w.grownBy w4 (some g) := grown_below (grown_trans (grown_below (grown_refl w (some g)) k2) hg3) h4.go
  obtain ⟨_, _, hgl4, cur, hc4, _, _, hs4, _⟩ := hO4.at0
  have hlo : i + (l.length - j) < l.length := by omega
  have hroom : (i + (l.length - j)) * size Int + (j - i) * size Int ≤ cur.size := by
    rw [hs4, ← Nat.add_mul]; exact Nat.mul_le_mul_right _ (by omega)
  obtain ⟨vs, hvl, hrun⟩ := run_clear (P := Try.prog) (c := cap - (i + (l.length - j))) elDI.ht tyDI (by decide) (o := (i + (l.length - j)) * size Int) (n := j - i) hc4 hroom (by omega)
  have hvl' : vs.length = (j - i) * size Int := hvl
  refine ⟨_, _, hrun _ _ _ ?_, ⟨below_setRow (Below.refl _ _) hg _, fun b hb => by cases hb⟩, ?_⟩
  · show Value.slice (if cap = _ then _ else _) _ _ = _
    rw [if_neg (by simp only [Int.toNat_natCast]; omega)]
    simp only [Int.toNat_natCast, Option.map_some, addr_addL, Nat.zero_add, Value.slice.injEq, true_and]
    exact ⟨rfl, by omega, trivial⟩
  refine EndI.mk fun w5 h5 => ?_
  refine ⟨rfl, (hO4.setRow hc4 _ vs (by rw [hnl]; exact Nat.le_refl _) (by rw [hvl']; exact hroom)).below h5.go, ?_⟩
  exact grown_below (grown_trans g4 (grown_setRow w4 g _)) h5.go
end Go.Proofs.Ytnhfkodjphplfaa
