/-
  slices.Sorted over slices.Values, at int; proj.Move: their contracts.
-/
import Derived.Test.YtnhfkodjphplfaaSorted
import Derived.Test.YtnhfkodjphplfaaShSort
import Derived.Test.YtnhfkodjphplfaaPlainMove
import Derived.Test.YtnhfkodjphplfaaStay
import Derived.Sort.OwnSortedInts
namespace Go.Proofs.Ytnhfkodjphplfaa
set_option linter.unusedVariables false
set_option linter.unusedSimpArgs false
set_option maxRecDepth 100000
open Go.RowKit Go.Proofs.Ytnhfkodjphplfaa.Eng Enc

theorem cellsInt (l : List Int) : cellsL l = l.map (Value.int .i64) := by
  induction l with
  | nil => rfl
  | cons x l ih => simp only [cellsL, ih, List.map_cons]; rfl

/-- slices.Sort, at a row of the run's own. -/
theorem sort_own (base : Nat) (v : Value) (l : List Int) (hl : l.length ≤ 1000000) (w : World) (hO : Own 3 base w v l) :
    Calls Try.prog 68 #[v] w fun e w' => e = .returned (.tuple #[]) ∧ Own 3 base w' v (Proj.sortI l) ∧ w.grownBy w' v.ownBlock := by
  obtain ⟨hc, ⟨rfl, h0⟩ | ⟨g, cap, cur, rfl, hb, hg, hn, hm, hs, ht⟩⟩ := id hO
  · obtain rfl := List.eq_nil_of_length_eq_zero h0
    refine (AnyM.slices_Sort_int_none Try.sort5 none 0 w).mono ?_
    rintro e w' ⟨rfl, rfl⟩
    exact ⟨rfl, by rw [show Proj.sortI [] = [] by simp [Proj.sortI]]; exact hO, rfl, rfl, rfl, Nat.le_refl _, fun _ _ _ => rfl⟩
  · rw [cellsInt] at ht
    have ht' : cur.toList.take l.length = l.map (Value.int .i64) := by simpa [Enc.size] using ht
    refine (AnyM.slices_Sort_int Try.sort5 g 0 cap l w (holds_of_blockI hg ht') (Array.getElem?_eq_some_iff.1 hg).1 (by omega)).mono ?_
    rintro e w' ⟨rfl, n, os, rfl⟩
    refine ⟨rfl, ?_, grownBy_sortedI _⟩
    have hlen : (l.mergeSort fun x y => decide (x ≤ y)).length = l.length := List.length_mergeSort _
    have := ownsRow_sortedI (w := w) (n := n) (os := os) hlen hb hg hn hm hs
    unfold Own
    rw [cellsInt]
    unfold Proj.sortI
    rw [hlen]
    exact this

theorem sorted_any (Bs : Nat) (a : Option Addr) (cap : Nat) (zs : List Int) (hlen : zs.length ≤ 1000000) (w : World) (hc : w.cell? ⟨Bs, 0, none⟩ = some (.slice a zs.length cap)) (hS : Sl w.heap.size w (.slice a zs.length cap) zs) :
    Calls Try.prog 40 #[.func (.func 69) #[] #[.pointer (some ⟨Bs, 0, none⟩)]] w (Ret w fun v w' => Own 3 w.heap.size w' v (Proj.sortI zs)) := by
  have hBs : Bs < w.heap.size := World.block_lt_of_cell? _ _ hc
  refine fun_ret 0 w Try.func40 (args := [.val (.func (.func 69) #[] #[.pointer (some ⟨Bs, 0, none⟩)])]) rfl rfl ?_
  apply CallI.use
  · exact fun w1 h1 => collect_any Bs a cap zs hlen w1 ((h1.below.cell (p := ⟨Bs, 0, none⟩) hBs).trans hc) (Sl.at h1 hS)
  intro v w1 w2 h1 hB hO
  obtain ⟨a', c', rfl⟩ := hO.form
  refine CallI.mk fun w3 h3 => (sort_own w1.heap.size _ zs hlen w3 (hO.at h3 (by simp))).mono ?_
  rintro e w4 ⟨rfl, hO4, hg⟩
  have hlen2 : (Proj.sortI zs).length = zs.length := (Proj.sortI_perm zs).length_eq
  refine ⟨keep_grown h3 hg fun k hk => ⟨Nat.le_trans h1.below.size (hO.lt k hk).1, by simp⟩, _, rfl, ?_⟩
  exact EndI.mk fun w5 h5 => (hO4.at h5 (by simp)).lower h1.below.size
end Go.Proofs.Ytnhfkodjphplfaa
