/-
  The contracts of package dbm, by the engine: may, Check, Twin, at.
-/
import Derived.Test.YtdecibfnhceloaaGreatBound
import Derived.Test.YtdecibfnhceloaaGreatPlainDbm
import Derived.Test.YtdecibfnhceloaaGreatIndexB
import Derived.Test.YtdecibfnhceloaaGreatCloneB
namespace Go.Proofs.YtdecibfnhceloaaGreat
set_option linter.unusedVariables false
set_option linter.unusedSimpArgs false
set_option maxRecDepth 100000
open Go.RowKit Go.Proofs.YtdecibfnhceloaaGreat.Eng Enc

theorem Dbm.value_spec (b : Int) : ((b / 2 < -2305843009213693952 ∨ 2305843009213693952 < b / 2) ∧ b ≠ 9223372036854775807 ∧ Bd.value b = (0, false, 8)) ∨ (b = 9223372036854775807 ∧ Bd.value b = (0, false, 6)) ∨ (b ≠ 9223372036854775807 ∧ Bd.value b = (b / 2, Bd.st b, 0)) := by
  by_cases hn : b = 9223372036854775807
  · subst hn; exact .inr (.inl ⟨rfl, Bd.value_none⟩)
  · cases hm : Bd.may b with
    | true => exact .inr (.inr ⟨hn, Bd.value_yes hm hn⟩)
    | false =>
      refine .inl ⟨?_, hn, Bd.value_bad hm⟩
      have h2 : Num.okB (b / 2) = false := by simpa [Bd.may, hn] using hm
      exact Num.okB_no.1 h2
theorem dmay_any (b : Int) (w : World) :
    Calls Tryz.prog 63 #[.int .i64 b] w fun e w' => e = .returned (.bool (Dbm.mayC b)) ∧ Below w.heap.size w w' := by
  refine fun_eq 0 w Tryz.func63 (args := [.val (.int .i64 b)]) rfl rfl ?_
  repeat' (first
    | (refine CallI.to1 (value_any _) fun w2 => ?_)
    | (refine Branch.yes rfl ?_)
    | (refine Branch.no rfl ?_)
    | (refine Branch.mk (fun hb => ?_) (fun hb => ?_))
    | (refine NewI.mk fun nb hnb => ?_)
    | (refine Need.mk (by show _ ∧ _; omega) ?_)
    | (refine Need.mk (by omega) ?_)
    | (refine Need.mk ?_ ?_)
    | (refine EndI.mk fun w1 h1 => ?_))
  all_goals
    congr 1
    clear h1
    simp only [Dbm.mayC]
    rcases Dbm.value_spec b with ⟨k1, k2, hv⟩ | ⟨k1, hv⟩ | ⟨k1, hv⟩ <;> simp only [hv, decide_eq_true_eq, decide_eq_false_iff_not] at * <;> grind
theorem check1_any (b : Int) (w : World) :
    Calls Tryz.prog 62 #[.int .i64 b] w fun e w' => e = .returned (.bool (!(Dbm.mayC b))) ∧ Below w.heap.size w w' := by
  refine fun_eq 0 w Tryz.func62 (args := [.val (.int .i64 b)]) rfl rfl ?_
  repeat' (first
    | (refine CallI.to1 (dmay_any _) fun w2 => ?_)
    | (refine Branch.yes rfl ?_)
    | (refine Branch.no rfl ?_)
    | (refine Branch.mk (fun hb => ?_) (fun hb => ?_))
    | (refine NewI.mk fun nb hnb => ?_)
    | (refine Need.mk (by show _ ∧ _; omega) ?_)
    | (refine Need.mk (by omega) ?_)
    | (refine Need.mk ?_ ?_)
    | (refine EndI.mk fun w1 h1 => ?_))
  rfl
theorem dcheck_any (n : Int) (a : Option Addr) (cap : Nat) (L : List Int) (w : World) (hS : Sl w.heap.size w (.slice a L.length cap) L) :
    Calls Tryz.prog 38 #[.agg #[.int .i64 n, .slice a L.length cap]] w fun e w' => e = .returned (.int .i64 (Dbm.chk n L)) ∧ Below w.heap.size w w' := by
  refine fun_eq 0 w Tryz.func38 (args := [.agg [.val (.int .i64 n), .val (.slice a L.length cap)]]) rfl rfl ?_
  have sq : ∀ h1 : ¬ n < 1, ¬ n > 4 → 1 ≤ n * n ∧ n * n ≤ 16 := fun h1 h2 => by
    rcases (by omega : n = 1 ∨ n = 2 ∨ n = 3 ∨ n = 4) with rfl | rfl | rfl | rfl <;> simp
  repeat' (first
    | (apply CallI.use1; (focus (exact fun w1 h1 => containsB_pure L (fun b => !(Dbm.mayC b)) a cap 62 #[] w1 (Sl.at h1 hS) Tryz.call62 fun x W _ _ => check1_any x W)); intro w1 w2 h1 hB)
    | (refine Branch.yes rfl ?_)
    | (refine Branch.no rfl ?_)
    | (refine Branch.mk (fun hb => ?_) (fun hb => ?_))
    | (refine NewI.mk fun nb hnb => ?_)
    | (refine Need.mk (by show _ ∧ _; omega) ?_)
    | (refine Need.mk (by omega) ?_)
    | (refine Need.mk ?_ ?_)
    | (refine EndI.mk fun w1 h1 => ?_))
  all_goals try (show _ ∧ _; have := sq (by simpa using ‹decide (n < 1) = false›) (by simpa using ‹decide (4 < n) = false›); omega)
  all_goals try (congr 1; clear hS sq; simp_all [Dbm.chk] <;> omega)

/-- dbm.Twin: a row of the call's own. -/
theorem twin_any (n : Int) (a : Option Addr) (cap : Nat) (L : List Int) (hlen : L.length ≤ 1000000) (w : World) (hS : Sl w.heap.size w (.slice a L.length cap) L) :
    Calls Tryz.prog 64 #[.agg #[.int .i64 n, .slice a L.length cap]] w (Ret w fun v w' => ∃ a' cap', v = .agg #[.int .i64 n, .slice a' L.length cap'] ∧ Own 41 w.heap.size w' (.slice a' L.length cap') L) := by
  refine fun_ret 0 w Tryz.func64 (args := [.agg [.val (.int .i64 n), .val (.slice a L.length cap)]]) rfl rfl ?_
  refine NewI.mk fun b1 hb1 => ?_
  refine NewI.mk fun b2 hb2 => ?_
  refine DrawI.wr (.tk 0 (.tk 1 (.tk 2 (.tk 3 (.ev 4 (.tk 5 (.ev 6 .done))))))) [1] [] (by kernel_rfl) rfl (fun _ _ => by simp) fun w1 h1 => ?_
  apply CallI.use
  · exact fun w2 h2 => cloneB_any L a cap w2 (Sl.at h2 hS) hlen
  intro v w2 w3 h2 hB hO
  obtain ⟨a', cap', rfl⟩ := hO.form
  exact EndI.mk fun w4 h4 => ⟨_, _, rfl, (hO.at h4 (by intro b hb; have := h2.lt b; simp_all)).lower h2.below.size⟩

/-- a matrix under way, of n clocks, at block h; its bounds lie in a row at block g. -/
structure Mat (W : World) (h g : Nat) (n : Int) (len cap : Nat) : Prop where
  c0 : W.cell? ⟨h, 0, none⟩ = some (.int .i64 n)
  c1 : W.cell? ⟨h, 1, none⟩ = some (.slice (some ⟨g, 0, none⟩) len cap)
theorem Mat.lt {W : World} {h g : Nat} {n : Int} {len cap : Nat} (m : Mat W h g n len cap) : h < W.heap.size := World.block_lt_of_cell? _ _ m.c0
theorem Mat.of_block {W W' : World} {h g : Nat} {n : Int} {len cap : Nat} (m : Mat W h g n len cap) (hb : W'.heap[h]? = W.heap[h]?) : Mat W' h g n len cap :=
  ⟨(World.cell?_of_block (a := ⟨h, 0, none⟩) hb).trans m.c0, (World.cell?_of_block (a := ⟨h, 1, none⟩) hb).trans m.c1⟩
theorem Mat.below {W W' : World} {h g : Nat} {n : Int} {len cap : Nat} (m : Mat W h g n len cap) (hB : Below W.heap.size W W') : Mat W' h g n len cap := m.of_block (hB.block h m.lt)

theorem at_any (n i j : Int) (h g len cap : Nat) (h0 : 0 ≤ i * n + j) (h1 : i * n + j < len) (hin : inK .i64 (i * n) ∧ inK .i64 (i * n + j)) (w : World) (hM : Mat w h g n len cap) :
    Calls Tryz.prog 65 #[.pointer (some ⟨h, 0, none⟩), .int .i64 i, .int .i64 j] w fun e w' => e = .returned (.pointer (some ⟨g, (i * n + j).toNat, none⟩)) ∧ Below w.heap.size w w' := by
  refine fun_eq 0 w Tryz.func65 (args := [.val (.pointer (some ⟨h, 0, none⟩)), .val (.int .i64 i), .val (.int .i64 j)]) rfl rfl ?_
  refine DrawI.go (.tk 0 (.tk 1 (.tk 2 (.tk 3 (.tk 4 (.tk 5 (.tk 6 (.tk 7 (.tk 8 (.tk 9 (.tk 10 (.tk 11 (.tk 12 (.tk 13 (.tk 14 (.tk 15 .done)))))))))))))))) (by kernel_rfl) fun w1 k1 => ?_
  have hM1 := hM.below k1.go
  refine LoadI.mk ⟨_, ⟨hM1.c1, by simp⟩, ?_⟩
  refine LoadI.mk ⟨_, ⟨hM1.c0, by simp⟩, ?_⟩
  refine Need.mk hin.1 ?_
  refine Need.mk hin.2 ?_
  refine IdxI.mk ⟨_, ⟨rfl, h0, h1⟩, ?_⟩
  refine EndI.mk fun w2 k2 => ?_
  simp [addr_addL]
end Go.Proofs.YtdecibfnhceloaaGreat
