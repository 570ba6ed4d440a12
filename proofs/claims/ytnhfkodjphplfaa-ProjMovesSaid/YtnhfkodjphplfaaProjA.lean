/-
  The contracts of package proj, by the engine: made, and what hands it its places.
-/
import Derived.Test.YtnhfkodjphplfaaClose
import Derived.Test.YtnhfkodjphplfaaDeleteI
namespace Go.Proofs.Ytnhfkodjphplfaa
set_option linter.unusedVariables false
set_option linter.unusedSimpArgs false
set_option maxRecDepth 100000
open Go.RowKit Go.Proofs.Ytnhfkodjphplfaa.Eng Enc

/-- what made makes: bound k is that at place F k, where that is not below 0. -/
def madeL (L : List Int) (F : Nat → Int) (N : Nat) : List Int := (List.range N).map fun k => if 0 ≤ F k then L[(F k).toNat]?.getD 0 else 9223372036854775807

theorem madeL_len (L : List Int) (F : Nat → Int) (N : Nat) : (madeL L F N).length = N := by simp [madeL]
/-- the row after k bounds. -/
def madeP (L : List Int) (F : Nat → Int) (N k : Nat) : List Int := (List.range N).map fun j => if j < k then (if 0 ≤ F j then L[(F j).toNat]?.getD 0 else 9223372036854775807) else 0
theorem madeP_len (L : List Int) (F : Nat → Int) (N k : Nat) : (madeP L F N k).length = N := by simp [madeP]
theorem madeP_all (L : List Int) (F : Nat → Int) (N : Nat) : madeP L F N N = madeL L F N := by
  unfold madeP madeL
  refine List.map_congr_left fun j hj => ?_
  rw [if_pos (List.mem_range.1 hj)]
theorem madeP_zero (L : List Int) (F : Nat → Int) (N : Nat) : madeP L F N 0 = List.replicate N 0 := by
  unfold madeP
  rw [List.eq_replicate_iff]
  refine ⟨by simp, fun b hb => ?_⟩
  simp at hb; exact hb.2.symm
theorem madeP_set (L : List Int) (F : Nat → Int) {N k : Nat} (hk : k < N) (x : Int) (hx : x = if 0 ≤ F k then L[(F k).toNat]?.getD 0 else 9223372036854775807) : (madeP L F N k).set k x = madeP L F N (k + 1) := by
  apply List.ext_getElem?
  intro j
  rw [List.getElem?_set]
  unfold madeP
  by_cases hj : k = j
  · subst hj
    simp [hk, hx]
  · rw [if_neg hj]
    simp only [List.getElem?_map]
    rcases Nat.lt_or_ge j N with h | h
    · rw [List.getElem?_range h]
      simp only [Option.map_some]
      have h2 : j < k + 1 ↔ j < k := by omega
      simp only [h2]
    · rw [List.getElem?_eq_none (by simpa using h)]; rfl
theorem kpD_set {w0 : Base} {wr : World} {M r : List Nat} {w1 : World} {g x : Nat} {v : Value} (hg : w0.B ≤ g) (hr : ∀ b, b ∈ r → b ≠ g) (hM : g ∈ M) : kpD w0 wr M r w1 (w1.setCell ⟨g, x, none⟩ v) := fun _ =>
  ⟨keep_set hg hr, fun k hk hkm => Below.heap_setCell _ _ _ _ (fun e => hkm (e ▸ hM))⟩
theorem row_zeros {e : TypeId} {base : Nat} {W : World} {g N : Nat} {xs : List Value} (h : W.ownsRow base e 1 (.slice (some ⟨g, 0, none⟩) N N) N xs) (hx : xs = (List.replicate N (0 : Int)).map (Value.int .i64)) : RowAt e W g (List.replicate N 0) := by
  subst hx
  have := RowAt.of_own (T := e) (L := List.replicate N 0) (cap := N) (by simpa using h)
  exact this.1

theorem infoBound0 : (Try.prog.info? 41).map (fun i => (i.zero, i.size, i.bytes)) = some (some (.int .i64 0), 1, 8) := by kernel_rfl

theorem pmade_any (d : Int) (L : List Int) (a : Option Addr) (cap : Nat) (m : Nat) (hm1 : 1 ≤ m) (hm4 : m ≤ 5) (fid : FuncId) (caps : Array Value) (en : Enters Try.prog fid) (F : Nat → Int) (w : World) (hS : Sl w.heap.size w (.slice a L.length cap) L)
    (hF : ∀ k, k < m * m → F k < L.length)
    (hcall : ∀ k W, k < m * m → Below w.heap.size w W → Calls Try.prog fid (.int .i64 ((k : Int).tdiv m) :: .int .i64 ((k : Int).tmod m) :: caps.toList).toArray W fun e W' => e = .returned (.int .i64 (F k)) ∧ Below W.heap.size W W') :
    Calls Try.prog 26 #[.agg #[.int .i64 d, .slice a L.length cap], .int .i64 m, .func (.func fid) #[] caps] w (Ret w fun v w' => ∃ a' cap', v = .agg #[.int .i64 m, .slice a' (madeL L F (m * m)).length cap'] ∧ Fresh TB w.heap.size w' (.slice a' (madeL L F (m * m)).length cap') (madeL L F (m * m))) := by
  refine fun_ret 0 w Try.func26 (args := [.agg [.val (.int .i64 d), .val (.slice a L.length cap)], .val (.int .i64 m), .val (.func (.func fid) #[] caps)]) rfl rfl ?_
  refine NewI.mk fun b1 hb1 => ?_
  refine NewI.mk fun b2 hb2 => ?_
  have hmm : m * m ≤ 25 := Nat.mul_le_mul hm4 hm4
  have hmm1 : 1 ≤ m * m := Nat.mul_le_mul hm1 hm1
  have emm : (m : Int) * m = ((m * m : Nat) : Int) := rfl
  refine Need.mk (by show _ ∧ _; omega) ?_
  generalize hN : m * m = N at *
  refine GenV.mk fun w1 h1 => ?_
  obtain ⟨ht, ⟨inf, z, hi, hz, hss, hby, hzs⟩, hp⟩ := elB
  obtain ⟨w2, hr2, hown, hg2⟩ := run_makeSlice_full (P := Try.prog) w1 w1.heap.size _ _ inf z 1 ht hi hz hss .i64 .i64 N (by omega) (by rw [hby]; omega) (by unfold maxLen; omega) (Nat.le_refl _)
  have hB2 : Below w1.heap.size w1 w2 := ⟨hg2.os, hg2.tape, hg2.output, hg2.size, fun k hk => hg2.block k hk (by simp)⟩
  refine ⟨_, w2, by rw [emm]; exact hr2, h1.keep hB2, ?_⟩
  refine NewI.mk fun b3 hb3 => ?_
  have hcells : (madeCells z.cells (N * 1)).toList = (List.replicate N (0 : Int)).map (Value.int .i64) := by
    have hzc : z = .int .i64 0 := by
      have := infoBound0
      rw [hi] at this
      simp only [Option.map_some, Option.some.injEq, Prod.mk.injEq] at this
      exact Option.some.inj (hz.symm.trans this.1)
    subst hzc
    apply List.ext_getElem?
    intro j
    rcases Nat.lt_or_ge j N with h | h
    · simp [madeCells, h, Value.cells, Nat.mod_one]
    · simp [madeCells, Nat.not_lt.2 h]
  have hr0 : RowAt TB w2 w1.heap.size (madeP L F N 0) := by rw [madeP_zero]; exact row_zeros hown hcells
  have hgw : w.heap.size ≤ w1.heap.size := h1.below.size
  have hgr : ∀ b, b ∈ [b1, b2, b3] → b ≠ w1.heap.size := by
    intro b hb e
    simp only [List.mem_cons, List.not_mem_nil, or_false] at hb
    have := hr0.lt
    rcases hb with rfl | rfl | rfl
    · have := h1.lt b (by simp); omega
    · have := h1.lt b (by simp); omega
    · omega
  have hsz1 : w1.heap.size < w2.heap.size := hr0.lt
  generalize w1.heap.size = g at *
  refine LoopI.invC (α := Nat × World) (fun y => [(19, .val (.int .i64 y.1))]) (fun y => y.2) (fun y => y.1 ≤ N ∧ Below w.heap.size w y.2 ∧ RowAt TB y.2 g (madeP L F N y.1)) (fun y => N - y.1) ?_ ?_
  · intro w5 h5
    exact ⟨(0, w5), Cov.mk (by repeat' (first | exact trivial | refine And.intro rfl ?_)) rfl rfl rfl rfl rfl, rfl, Nat.zero_le _, h5.below, hr0.at h5 (fun e => hgr b3 (by simp) (List.mem_singleton.1 e).symm)⟩
  rintro ⟨k, W⟩ ⟨hk, hW, hRk⟩
  refine Branch.mk (fun hb => ?_) (fun hb => ?_)
  · have hlt : k < N := by simpa using hb
    have hkl : ∀ i, k < (madeP L F N i).length := fun i => by rw [madeP_len]; exact hlt
    refine IdxI.mk ⟨_, ⟨rfl, by omega, by omega⟩, ?_⟩
    refine StoreI.mk fun w5 h5 => ?_
    have r5 := hRk.below h5.go hRk.lt
    rw [show ((⟨g, 0, none⟩ : Addr).add ((k : Int).toNat * 1)) = ⟨g, k, none⟩ by simp [addr_addL]]
    refine ⟨⟨⟨_, r5.cell (j := k) (hkl k)⟩, r5.frozen _⟩, keep_set hgw hgr, ?_⟩
    have r6 : RowAt TB (w5.setCell ⟨g, k, none⟩ (.int .i64 9223372036854775807)) g ((madeP L F N k).set k 9223372036854775807) := r5.set (hkl k) _
    have B6 : Below w.heap.size w (w5.setCell ⟨g, k, none⟩ (.int .i64 9223372036854775807)) := h5.below.setCell (p := ⟨g, k, none⟩) hgw _
    generalize w5.setCell ⟨g, k, none⟩ (.int .i64 9223372036854775807) = w6 at r6 B6
    refine DrawI.go (.tk 0 (.tk 1 (.tk 2 (.tk 3 (.tk 4 (.tk 5 (.tk 6 (.ev 7 (.tk 8 .done))))))))) (by kernel_rfl) fun w7 h7 => ?_
    have r7 := r6.below h7.go r6.lt
    have hdm : inK .i64 ((k : Int).tdiv m) := by
      rw [Int.tdiv_eq_ediv_of_nonneg (by omega)]
      have h0 : 0 ≤ (k : Int) / m := Int.ediv_nonneg (by omega) (by omega)
      have h1 : (k : Int) / m ≤ k := Int.ediv_le_self _ (by omega)
      show _ ∧ _; omega
    refine Need.mk ⟨by omega, hdm⟩ ?_
    refine Need.mk (by omega) ?_
    refine Need.mk en ?_
    apply CallI.use1
    · exact fun w8 h8 => hcall k w8 hlt h8.below
    intro w8 w9 h8 hB9
    have k9 := h8.step2 hB9
    have r9 := r7.below k9 r7.lt
    have B9 : Below w.heap.size w w9 := h8.below.trans (hB9.mono h8.below.size)
    refine Branch.mk (fun hc => ?_) (fun hc => ?_)
    · have hc0 : 0 ≤ F k := by simpa using hc
      refine DrawI.wr (.tk 0 (.tk 1 (.tk 2 (.tk 3 (.tk 4 (.tk 5 (.tk 6 (.tk 7 (.tk 8 (.ev 9 .done)))))))))) [] [g] (by kernel_rfl) rfl (fun b hb h => hgr b hb (by simpa using h)) fun w10 h10 => ?_
      have r10 := r9.below h10.go r9.lt
      have hFl := hF k hlt
      obtain ⟨f, hf⟩ : ∃ f : Nat, F k = f := ⟨(F k).toNat, by omega⟩
      have hfl : f < L.length := by omega
      rw [hf]
      refine hS.idx (List.getElem?_eq_getElem hfl) fun ad had => ?_
      refine hS.ld1 (List.getElem?_eq_getElem hfl) had h10.below (by intro b hb; simp at hb; subst hb; exact hgw) ?_
      refine IdxI.mk ⟨_, ⟨rfl, by omega, by omega⟩, ?_⟩
      refine StoreI.mk fun w11 h11 => ?_
      rw [show ((⟨g, 0, none⟩ : Addr).add ((k : Int).toNat * 1)) = ⟨g, k, none⟩ by simp [addr_addL]]
      have r11 := r10.below h11.go r10.lt
      have hkl' : k < ((madeP L F N k).set k 9223372036854775807).length := by simpa using hkl k
      refine ⟨⟨⟨_, r11.cell hkl'⟩, r11.frozen _⟩, kpD_set hgw hgr (by simp [locs]), ?_⟩
      refine Need.mk (by show _ ∧ _; omega) (EndI.mk fun w12 h12 => ⟨(k + 1, w12), Cov.mk (by repeat' (first | exact trivial | refine And.intro rfl ?_)) rfl rfl rfl rfl rfl, rfl, ⟨hlt, h12.below, ?_⟩, by simp only; omega⟩)
      have e1 : ((madeP L F N k).set k 9223372036854775807).set k (L[f]'hfl) = madeP L F N (k + 1) := by
        rw [List.set_set]
        exact madeP_set L F hlt _ (by rw [if_pos hc0, hf, Int.toNat_natCast, List.getElem?_eq_getElem hfl]; rfl)
      rw [← e1]
      exact (r11.set hkl' _).below h12.go (by have := r11.lt; simpa [World.setCell] using this)
    · have hc0 : ¬ 0 ≤ F k := by simpa using hc
      refine Need.mk (by show _ ∧ _; omega) (EndI.mk fun w12 h12 => ⟨(k + 1, w12), Cov.mk (by repeat' (first | exact trivial | refine And.intro rfl ?_)) rfl rfl rfl rfl rfl, rfl, ⟨hlt, h12.below, ?_⟩, by simp only; omega⟩)
      have e1 : (madeP L F N k).set k 9223372036854775807 = madeP L F N (k + 1) := madeP_set L F hlt _ (by rw [if_neg hc0])
      rw [← e1]
      exact r9.below h12.go r9.lt
  · have hge : k = N := by have : ¬ k < N := by simpa using hb
                           omega
    rw [hge, madeP_all] at hRk
    refine EndI.mk fun w5 h5 => ?_
    have hll := madeL_len L F N
    rw [hll]
    refine ⟨_, _, rfl, .inr ⟨g, N, by rw [hll], by omega, by unfold maxLen; omega, hgw, ?_⟩⟩
    exact hRk.at h5 (fun e => hgr b2 (by simp) (List.mem_singleton.1 e).symm)
end Go.Proofs.Ytnhfkodjphplfaa
