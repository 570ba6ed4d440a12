/-
  slices.AppendSeq, Collect, Sorted over slices.Values, at int, by the engine.
-/
import Derived.Test.YtnhfkodjphplfaaValues
import Derived.Test.YtnhfkodjphplfaaEngR
import Derived.Test.YtnhfkodjphplfaaDeleteI
import Derived.Test.YtnhfkodjphplfaaPairs
namespace Go.Proofs.Ytnhfkodjphplfaa
set_option linter.unusedVariables false
set_option linter.unusedSimpArgs false
set_option maxRecDepth 100000
open Go.RowKit Go.Proofs.Ytnhfkodjphplfaa.Eng Enc

theorem appendSeq_any (Bs : Nat) (a : Option Addr) (cap : Nat) (zs : List Int) (hlen : zs.length ≤ 1000000) (w : World) (hc : w.cell? ⟨Bs, 0, none⟩ = some (.slice a zs.length cap)) (hS : Sl w.heap.size w (.slice a zs.length cap) zs) :
    Calls Try.prog 82 #[.slice none 0 0, .func (.func 69) #[] #[.pointer (some ⟨Bs, 0, none⟩)]] w (Ret w fun v w' => Own 3 w.heap.size w' v zs) := by
  have hBs : Bs < w.heap.size := World.block_lt_of_cell? _ _ hc
  refine fun_at 9 w.heap.size w (Nat.le_refl _) Try.func82 (args := [.val (.slice none 0 0), .val (.func (.func 69) #[] #[.pointer (some ⟨Bs, 0, none⟩)])]) rfl rfl ?_
  refine NewI.mk fun b1 hb1 => ?_
  refine RawI.mk fun ac w1 hR => ?_
  have h1 := hR.at_
  have hl1 := h1.lt b1 (by simp)
  have hc1 : w1.cell? ⟨Bs, 0, none⟩ = some (.slice a zs.length cap) := (h1.below.cell (p := ⟨Bs, 0, none⟩) hBs).trans hc
  refine rangeE cxOk (by decide) hR rfl Try.call69 (values_stops 8 (by omega) Bs w.heap.size a cap zs (by omega) w1 (Nat.lt_of_lt_of_le hBs h1.below.size) h1.below.size hc1 (hS.below h1.below)) (encs := fun x : Int => [Value.int .i64 x]) (fun h k => h.trans k) (fun W l o o' hl ho h2 h3 => ?_)
    (fun W W' hs hg => ?_) (fun x => rfl) (γ := Value) (fun v => [⟨[.val v], 42⟩]) (fun pre v W => Own 3 w1.heap.size W v pre) ?_ (.slice none 0 0) rfl Own.nil (fun _ _ _ _ => False) (fun _ _ => []) (fun _ _ _ _ _ _ h _ _ => h) _
    (fun l z hp W => And.intro rfl rfl) ?_ ?_ (fun _ _ _ _ _ _ _ _ h => h.elim)
  · exact ⟨rfl, rfl, rfl, by simp [World.putObj], fun k hk => World.putObj_heap_other (by have h0 : w.heap.size ≤ w1.heap.size := h1.below.size; omega)⟩
  · exact ⟨hg.os, hg.tape, hg.output, hg.size, fun k hk => hg.block k (Nat.lt_of_lt_of_le hk (Nat.le_trans h1.below.size hs)) (by simp)⟩
  · intro v pre W W' row hO hg hr
    refine Own.kept hO hg ?_
    obtain ⟨_, ⟨rfl, _⟩ | ⟨g, c, cur, rfl, _, hgb, _⟩⟩ := id hO
    · exact .inl rfl
    · refine .inr (fun e => ?_)
      obtain ⟨_, o, ho, hcl⟩ := hr g e.symm
      rw [hgb] at ho; cases ho; cases hcl
  · intro l pre x v W hO hBW hsW hlt
    refine NewI.mk fun b2 hb2 => ?_
    have hO1 : Own 3 w1.heap.size W v pre := hO
    have hr : ∀ k, v.ownBlock = some k → w.heap.size ≤ k ∧ k ∉ [b1, b2] := fun k hk => by
      have := hO1.lt k hk
      refine ⟨Nat.le_trans h1.below.size this.1, fun hm => ?_⟩
      have hb2' : W.heap.size ≤ b2 := hb2
      simp only [List.mem_cons, List.not_mem_nil, or_false] at hm
      omega
    refine GenN.app (α := Int) elDI pre [x] w1.heap.size (fun w5 h5 => hO1.below h5.go) (fun w5 h5 => src_own h5 1 rfl rfl rfl rfl) (by unfold maxLen; simp; omega) (by simp; omega) (fun w5 h5 => Nat.le_trans hsW h5.size)
      (fun w5 w6 h5 hg => keep_grown h5 hg hr) fun sv' w5 w6 h5 hg hO' => ?_
    obtain ⟨a', c', rfl⟩ := hO'.form
    refine ⟨.slice a' (pre ++ [x]).length c', ?_⟩
    refine Need.mk (CovH.mk rfl rfl rfl) (EndI.mk fun w7 h7 => ?_)
    have hW7 : W.heap.size ≤ w7.heap.size := Nat.le_trans h5.size (Nat.le_trans hg.size h7.size)
    refine ⟨⟨hW7, fun k o _ hk hcl => ?_⟩, ?_, hO'.at h7 (by intro b hb; simp at hb; subst hb; exact hl1)⟩
    · have hkW : k < W.heap.size := (Array.getElem?_eq_some_iff.1 hk).1
      have e5 : w5.heap[k]? = some o := (h5.go.block k hkW).trans hk
      have e6 : w6.heap[k]? = some o := by
        refine (hg.block k (Nat.lt_of_lt_of_le hkW h5.size) (fun e => ?_)).trans e5
        obtain ⟨_, ⟨rfl, _⟩ | ⟨g, c, cur, rfl, _, hgb, _⟩⟩ := id hO1
        · cases e
        · injection e with e
          subst e
          rw [hgb] at hk; cases hk; cases hcl
      refine (h7.step k (Nat.lt_of_lt_of_le hkW (Nat.le_trans h5.size hg.size)) (fun hm => ?_)).trans e6
      simp at hm
      subst hm
      have := h5.blk 0 _ ⟨_, _⟩ (by rfl) (by rfl)
      rw [e5] at this; cases this; cases hcl
    · have hb7 := h7.below
      exact ⟨hb7.os.trans hBW.os.symm, hb7.tape.trans hBW.tape.symm, hb7.output.trans hBW.output.symm, hW7, fun k hk => (hb7.block k hk).trans (hBW.block k hk).symm⟩
  · rintro D xs v W hD rfl hO hmark
    have hDW : D < W.heap.size := (Array.getElem?_eq_some_iff.1 hmark).1
    have hO1 : Own 3 w1.heap.size W v xs := hO
    obtain ⟨a', c', rfl⟩ := hO1.form
    refine EndM.mk fun w10 h10 => ⟨⟨Nat.le_trans h1.below.size hD, (h10.step D hDW (by simp)).trans hmark⟩, fun w11 hu => ?_⟩
    have hO10 := hO1.at h10 (by simp)
    refine (Own.kept (row := some D) hO10 ⟨hu.2.1, hu.2.2.1, hu.2.2.2.1, by rw [hu.1]; exact Nat.le_refl _, fun k _ hk => hu.2.2.2.2 k (fun e => hk (by rw [e]))⟩ ?_).lower h1.below.size
    obtain ⟨_, ⟨e, _⟩ | ⟨g, c, cur, e, _, hgb, _⟩⟩ := id hO10
    · rw [e]; exact .inl rfl
    · rw [e]
      refine .inr (fun e' => ?_)
      injection e' with e'
      subst e'
      have := (h10.step _ hDW (by simp)).trans hmark
      rw [hgb] at this; cases this

theorem collect_any (Bs : Nat) (a : Option Addr) (cap : Nat) (zs : List Int) (hlen : zs.length ≤ 1000000) (w : World) (hc : w.cell? ⟨Bs, 0, none⟩ = some (.slice a zs.length cap)) (hS : Sl w.heap.size w (.slice a zs.length cap) zs) :
    Calls Try.prog 67 #[.func (.func 69) #[] #[.pointer (some ⟨Bs, 0, none⟩)]] w (Ret w fun v w' => Own 3 w.heap.size w' v zs) := by
  have hBs : Bs < w.heap.size := World.block_lt_of_cell? _ _ hc
  refine fun_ret 0 w Try.func67 (args := [.val (.func (.func 69) #[] #[.pointer (some ⟨Bs, 0, none⟩)])]) rfl rfl ?_
  apply CallI.use
  · exact fun w1 h1 => appendSeq_any Bs a cap zs hlen w1 ((h1.below.cell (p := ⟨Bs, 0, none⟩) hBs).trans hc) (Sl.at h1 hS)
  intro v w1 w2 h1 hB hO
  obtain ⟨a', c', rfl⟩ := hO.form
  exact EndI.mk fun w3 h3 => (hO.at h3 (by simp)).lower h1.below.size
end Go.Proofs.Ytnhfkodjphplfaa
