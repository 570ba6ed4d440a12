/-
  What stays: the worlds that a run has come by, each of which still stands below; one list, lengthened call by call.
-/
import Derived.Test.YtnhfkodjphplfaaClose
namespace Go.Proofs.Ytnhfkodjphplfaa
set_option linter.unusedVariables false
open Go.RowKit Go.Proofs.Ytnhfkodjphplfaa.Eng Enc

/-- the worlds that the run has come by; w: the last one. -/
structure Stay (w0 : Base) (l : List World) (w : World) : Prop where
  base : ∀ X, X ∈ l → Below w0.B w0.W X
  all : ∀ X, X ∈ l → Below X.heap.size X w
theorem Stay.start {w0 : Base} {w : World} (h : Below w0.B w0.W w) : Stay w0 [w] w :=
  ⟨fun X hX => by rw [List.mem_singleton.1 hX]; exact h, fun X hX => by rw [List.mem_singleton.1 hX]; exact Below.refl _ _⟩
theorem Stay.first {w : World} : Stay ⟨w, w.heap.size, Nat.le_refl _⟩ [w] w := Stay.start (Below.refl _ _)
section
variable {w0 : Base} {l : List World} {hp : List LB} {r L : List Nat} {w w1 w2 : World}
/-- at a world at hand. -/
theorem Stay.at (st : Stay w0 l w) (h : At w0 hp r L w w1) (hL : ∀ b, b ∈ L → w.heap.size ≤ b) : Stay w0 (w1 :: l) w1 := by
  refine ⟨fun X hX => ?_, fun X hX => ?_⟩
  · rcases List.mem_cons.1 hX with rfl | hX
    · exact h.below
    · exact st.base X hX
  · rcases List.mem_cons.1 hX with rfl | hX
    · exact Below.refl _ _
    · exact h.from (st.base X hX) (st.all X hX) fun b hb => Nat.le_trans (st.all X hX).size (hL b hb)
theorem Stay.go (st : Stay w0 l w) (h : w0.B ≤ w.heap.size) (hb : Below w0.B w0.W w) (hB : Below w.heap.size w w2) : Stay w0 (w2 :: l) w2 := by
  refine ⟨fun X hX => ?_, fun X hX => ?_⟩
  · rcases List.mem_cons.1 hX with rfl | hX
    · exact hb.trans (hB.mono h)
    · exact st.base X hX
  · rcases List.mem_cons.1 hX with rfl | hX
    · exact Below.refl _ _
    · exact (st.all X hX).trans (hB.mono (st.all X hX).size)
theorem Stay.next (st : Stay w0 l w) (h : At w0 hp r L w w1) (hL : ∀ b, b ∈ L → w.heap.size ≤ b) (hB : Below w1.heap.size w1 w2) : Stay w0 (w2 :: w1 :: l) w2 :=
  (st.at h hL).go (Nat.le_trans w0.le h.below.size) h.below hB
theorem Stay.get (st : Stay w0 l w) {X : World} (hX : X ∈ l) : Below X.heap.size X w := st.all X hX
end
/-- a list that was shown at a world that the run has come by. -/
theorem Sl.st {α : Type} [Enc α] {w0 : Base} {l : List World} {X w : World} {sv : Value} {m : List α} (h : Sl X.heap.size X sv m) (st : Stay w0 l w) (hX : X ∈ l := by simp) : Sl w.heap.size w sv m := h.go (st.get hX) (st.get hX).size
theorem Fresh.st {w0 : Base} {l : List World} {X w : World} {e : TypeId} {base : Nat} {sv : Value} {m : List Int} (h : Fresh e base X sv m) (st : Stay w0 l w) (hX : X ∈ l := by simp) : Fresh e base w sv m := h.below (st.get hX)
theorem Own.st {α : Type} [Enc α] {w0 : Base} {l : List World} {X w : World} {e : TypeId} {base : Nat} {sv : Value} {m : List α} (h : Own e base X sv m) (st : Stay w0 l w) (hX : X ∈ l := by simp) : Own e base w sv m := h.below (st.get hX)

theorem infoB0 : (Try.prog.info? 41).map (fun i => i.zero.map fun v => v.cells.toList) = some (some [Value.int .i64 0]) := by kernel_rfl
/-- a slice that is made: all zeros. -/
theorem cells_rep {α : Type} [Enc α] (z : α) (n : Nat) : cellsL (List.replicate n z) = (List.range (n * size α)).map fun k => (enc z)[k % size α]?.getD undef := by
  induction n with
  | zero => simp [cellsL]
  | succ n ih =>
    rw [List.replicate_succ', cellsL_append, ih, Nat.succ_mul, List.range_add, List.map_append]
    congr 1
    simp only [cellsL, List.append_nil, List.map_map]
    apply List.ext_getElem?
    intro k
    rw [List.getElem?_map]
    rcases Nat.lt_or_ge k (size α) with h | h
    · rw [List.getElem?_range h]
      simp only [Option.map_some, Function.comp]
      rw [Nat.add_comm, Nat.add_mul_mod_self_right, Nat.mod_eq_of_lt h, List.getElem?_eq_getElem (by rw [len]; exact h)]; rfl
    · rw [List.getElem?_eq_none (by rw [len]; exact h), List.getElem?_eq_none (l := List.range (size α)) (by simpa using h)]; rfl
theorem GenV.mks {α : Type} [Enc α] {P : Program} {w0 : Base} {kp : List Nat → World → World → Prop} [hkp : KpOk w0 kp] {hp : List LB} {r L : List Nat} {w : World} {K : Value → World → Prop} {t e : TypeId} {bytes : Nat} (hE : ElOk P t e (size α) bytes) (z : α)
    (hz : (P.info? e).map (fun i => i.zero.map fun v => v.cells.toList) = some (some (enc z))) (n : Nat) {i : Int} (hi : i = n) (hbig : n * size α ≤ 16777216) (hbytes : bytes * n ≤ 281474976710656)
    (hk : ∀ v w1 w2, At w0 hp r L w w1 → Below w1.heap.size w1 w2 → Own e w1.heap.size w2 v (List.replicate n z) → K v w2) : GenV P w0 kp (Instr.makeSlice t (.int .i64 i) (.int .i64 i)) hp r L w K := ⟨fun w1 h1 => by
  subst hi
  obtain ⟨ht, ⟨inf, zv, hi, hzv, hss, hby, hzs⟩, hp⟩ := hE
  obtain ⟨w2, hr2, hown, hg2⟩ := run_makeSlice_full (P := P) w1 w1.heap.size _ _ inf zv (size α) ht hi hzv hss .i64 .i64 n hbig (by rw [hby]; exact hbytes) (by
    have h1 : n * 1 ≤ n * size α := Nat.mul_le_mul_left n hp
    unfold maxLen; omega) (Nat.le_refl _)
  have hB2 : Below w1.heap.size w1 w2 := ⟨hg2.os, hg2.tape, hg2.output, hg2.size, fun k hk => hg2.block k hk (by simp)⟩
  refine ⟨_, w2, hr2, hkp.ok h1 hB2, hk _ w1 w2 h1 hB2 ?_⟩
  have hzc : zv.cells.toList = enc z := by
    rw [hi] at hz
    simp only [Option.map_some, Option.some.injEq, hzv] at hz
    exact hz
  unfold Own
  rw [List.length_replicate, cells_rep]
  have e1 : (madeCells zv.cells (n * size α)).toList = (List.range (n * size α)).map fun k => (enc z)[k % size α]?.getD undef := by
    unfold madeCells
    simp only [Array.toList_map, Array.toList_range]
    refine List.map_congr_left fun k _ => ?_
    rw [← hzc]
    have hm : k % size α < zv.cells.size := by rw [hzs]; exact Nat.mod_lt _ hp
    rw [hzs, getElem!_pos zv.cells _ hm, Array.getElem?_toList, Array.getElem?_eq_getElem hm]; rfl
  rw [← e1]
  exact hown⟩
end Go.Proofs.Ytnhfkodjphplfaa
