/-
  Merged texts of this law (each with its own head below).
-/
import Derived.Test.YtanhnllkccldhaaGreatLTablePoints3
import Derived.Test.YtanhnllkccldhaaGreatLTablePoints5
import Derived.Test.YtanhnllkccldhaaGreatLTablePoints4
import Derived.Test.YtanhnllkccldhaaGreatLTablePoints1
import Derived.Laws.StructEq
import Derived.Test.YtanhnllkccldhaaGreatProg
import Derived.Maps.Own
import Derived.Maps.Views
import Derived.Lib.SlKeysI
import Derived.Shelf.SlIterI.Nil
import Derived.Shelf.SlIterI.Sorted
import Derived.Shelf.SlIterI.Collect
import Derived.Shelf.SortM.Plain
import Derived.Shelf.SortM.SortNone
import Derived.Ground.GgzProg
import Derived.Ground.SlgmProg
namespace Go.Proofs.YtanhnllkccldhaaGreat
set_option linter.unusedVariables false
set_option linter.unusedSimpArgs false
set_option maxRecDepth 100000
open Go.RowKit Go.Proofs.YtanhnllkccldhaaGreat.Eng Enc
def madeL (L : List Int) (F : Nat → Int) (N : Nat) : List Int := (List.range N).map fun k => if 0 ≤ F k then L[(F k).toNat]?.getD 0 else 9223372036854775807
theorem madeL_len (L : List Int) (F : Nat → Int) (N : Nat) : (madeL L F N).length = N := by simp [madeL]
def madeP (L : List Int) (F : Nat → Int) (N k : Nat) : List Int := (List.range N).map fun j => if j < k then (if 0 ≤ F j then L[(F j).toNat]?.getD 0 else 9223372036854775807) else 0
theorem madeP_len (L : List Int) (F : Nat → Int) (N k : Nat) : (madeP L F N k).length = N := by simp [madeP]
theorem madeP_all (L : List Int) (F : Nat → Int) (N : Nat) : madeP L F N N = madeL L F N := by
 unfold madeP madeL
 refine List.map_congr_left fun j hj => ?_
 rw [if_pos (List.mem_range.1 hj)]
theorem madeP_zero (L : List Int) (F : Nat → Int) (N : Nat) : madeP L F N 0 = List.replicate N 0 := by
 unfold madeP
 rw [List.eq_replicate_iff]
 refine ⟨by simp, fun b hb => ?_⟩
 simp at hb; exact hb.2.symm
theorem madeP_set (L : List Int) (F : Nat → Int) {N k : Nat} (hk : k < N) (x : Int) (hx : x = if 0 ≤ F k then L[(F k).toNat]?.getD 0 else 9223372036854775807) : (madeP L F N k).set k x = madeP L F N (k + 1) := by
 apply List.ext_getElem?
 intro j
 rw [List.getElem?_set]
 unfold madeP
 by_cases hj : k = j
 ·subst hj
  simp [hk, hx]
 ·rw [if_neg hj]
  simp only [List.getElem?_map]
  rcases Nat.lt_or_ge j N with h | h
  ·rw [List.getElem?_range h]
   simp only [Option.map_some]
   have h2 : j < k + 1 ↔ j < k := by omega
   simp only [h2]
  ·rw [List.getElem?_eq_none (by simpa using h)]; rfl
theorem kpD_set {w0 : Base} {wr : World} {M r : List Nat} {w1 : World} {g x : Nat} {v : Value} (hg : w0.B ≤ g) (hr : ∀ b, b ∈ r → b ≠ g) (hM : g ∈ M) : kpD w0 wr M r w1 (w1.setCell ⟨g, x, none⟩ v) := fun _ =>
 ⟨keep_set hg hr, fun k hk hkm => Below.heap_setCell _ _ _ _ (fun e => hkm (e ▸ hM))⟩
theorem row_zeros {e : TypeId} {base : Nat} {W : World} {g N : Nat} {xs : List Value} (h : W.ownsRow base e 1 (.slice (some ⟨g, 0, none⟩) N N) N xs) (hx : xs = (List.replicate N (0 : Int)).map (Value.int .i64)) : RowAt e W g (List.replicate N 0) := by
 subst hx
 have := RowAt.of_own (T := e) (L := List.replicate N 0) (cap := N) (by simpa using h)
 exact this.1
theorem infoBound0 : (Tryz.prog.info? 84).map (fun i => (i.zero, i.size, i.bytes)) = some (some (.int .i64 0), 1, 8) := by kernel_rfl
theorem pmade_any (d : Int) (L : List Int) (a : Option Addr) (cap : Nat) (m : Nat) (hm1 : 1 ≤ m) (hm4 : m ≤ 5) (fid : FuncId) (caps : Array Value) (en : Enters Tryz.prog fid) (F : Nat → Int) (w : World) (hS : Sl w.heap.size w (.slice a L.length cap) L)
 (hF : ∀ k, k < m * m → F k < L.length)
 (hcall : ∀ k W, k < m * m → Below w.heap.size w W → Calls Tryz.prog fid (.int .i64 ((k : Int).tdiv m) :: .int .i64 ((k : Int).tmod m) :: caps.toList).toArray W fun e W' => e = .returned (.int .i64 (F k)) ∧ Below W.heap.size W W') :
 Calls Tryz.prog 191 #[.agg #[.int .i64 d, .slice a L.length cap], .int .i64 m, .func (.func fid) #[] caps] w (Ret w fun v w' => ∃ a' cap', v = .agg #[.int .i64 m, .slice a' (madeL L F (m * m)).length cap'] ∧ Fresh TB w.heap.size w' (.slice a' (madeL L F (m * m)).length cap') (madeL L F (m * m))) := by
 refine fun_ret 0 w Tryz.func191 (args := [.agg [.val (.int .i64 d), .val (.slice a L.length cap)], .val (.int .i64 m), .val (.func (.func fid) #[] caps)]) rfl rfl ?_
 refine NewI.mk fun b1 hb1 => ?_
 refine NewI.mk fun b2 hb2 => ?_
 have hmm : m * m ≤ 25 := Nat.mul_le_mul hm4 hm4
 have hmm1 : 1 ≤ m * m := Nat.mul_le_mul hm1 hm1
 have emm : (m : Int) * m = ((m * m : Nat) : Int) := rfl
 refine Need.mk (by show _ ∧ _; omega) ?_
 generalize hN : m * m = N at *
 refine GenV.mk fun w1 h1 => ?_
 obtain ⟨ht, ⟨inf, z, hi, hz, hss, hby, hzs⟩, hp⟩ := elB
 obtain ⟨w2, hr2, hown, hg2⟩ := run_makeSlice_full (P := Tryz.prog) w1 w1.heap.size _ _ inf z 1 ht hi hz hss .i64 .i64 N (by omega) (by rw [hby]; omega) (by unfold maxLen; omega) (Nat.le_refl _)
 have hB2 : Below w1.heap.size w1 w2 := ⟨hg2.os, hg2.tape, hg2.output, hg2.size, fun k hk => hg2.block k hk (by simp)⟩
 refine ⟨_, w2, by rw [emm]; exact hr2, h1.keep hB2, ?_⟩
 refine NewI.mk fun b3 hb3 => ?_
 have hcells : (madeCells z.cells (N * 1)).toList = (List.replicate N (0 : Int)).map (Value.int .i64) := by
  have hzc : z = .int .i64 0 := by
   have := infoBound0
   rw [hi] at this
   simp only [Option.map_some, Option.some.injEq, Prod.mk.injEq] at this
   exact Option.some.inj (hz.symm.trans this.1)
  subst hzc
  apply List.ext_getElem?
  intro j
  rcases Nat.lt_or_ge j N with h | h
  ·simp [madeCells, h, Value.cells, Nat.mod_one]
  ·simp [madeCells, Nat.not_lt.2 h]
 have hr0 : RowAt TB w2 w1.heap.size (madeP L F N 0) := by rw [madeP_zero]; exact row_zeros hown hcells
 have hgw : w.heap.size ≤ w1.heap.size := h1.below.size
 have hgr : ∀ b, b ∈ [b1, b2, b3] → b ≠ w1.heap.size := by
  intro b hb e
  simp only [List.mem_cons, List.not_mem_nil, or_false] at hb
  have := hr0.lt
  rcases hb with rfl | rfl | rfl
  ·have := h1.lt b (by simp); omega
  ·have := h1.lt b (by simp); omega
  ·omega
 have hsz1 : w1.heap.size < w2.heap.size := hr0.lt
 generalize w1.heap.size = g at *
 refine LoopI.invC (α := Nat × World) (fun y => [(19, .val (.int .i64 y.1))]) (fun y => y.2) (fun y => y.1 ≤ N ∧ Below w.heap.size w y.2 ∧ RowAt TB y.2 g (madeP L F N y.1)) (fun y => N - y.1) ?_ ?_
 ·intro w5 h5
  exact ⟨(0, w5), Cov.au rfl rfl rfl rfl rfl, rfl, Nat.zero_le _, h5.below, hr0.at h5 (fun e => hgr b3 (by simp) (List.mem_singleton.1 e).symm)⟩
 rintro ⟨k, W⟩ ⟨hk, hW, hRk⟩
 refine Branch.mk (fun hb => ?_) (fun hb => ?_)
 ·have hlt : k < N := by simpa using hb
  have hkl : ∀ i, k < (madeP L F N i).length := fun i => by rw [madeP_len]; exact hlt
  refine IdxI.mk ⟨_, ⟨rfl, by omega, by omega⟩, ?_⟩
  refine StoreI.mk fun w5 h5 => ?_
  have r5 := hRk.below h5.go hRk.lt
  rw [show ((⟨g, 0, none⟩ : Addr).add ((k : Int).toNat * 1)) = ⟨g, k, none⟩ by simp [addr_addL]]
  refine ⟨⟨⟨_, r5.cell (j := k) (hkl k)⟩, r5.frozen _⟩, keep_set hgw hgr, ?_⟩
  have r6 : RowAt TB (w5.setCell ⟨g, k, none⟩ (.int .i64 9223372036854775807)) g ((madeP L F N k).set k 9223372036854775807) := r5.set (hkl k) _
  have B6 : Below w.heap.size w (w5.setCell ⟨g, k, none⟩ (.int .i64 9223372036854775807)) := h5.below.setCell (p := ⟨g, k, none⟩) hgw _
  generalize w5.setCell ⟨g, k, none⟩ (.int .i64 9223372036854775807) = w6 at r6 B6
  refine DrawI.go (.tk 0 (.tk 1 (.tk 2 (.tk 3 (.tk 4 (.tk 5 (.tk 6 (.ev 7 (.tk 8 .done))))))))) (by kernel_rfl) fun w7 h7 => ?_
  have r7 := r6.below h7.go r6.lt
  have hdm : inK .i64 ((k : Int).tdiv m) := by
   rw [Int.tdiv_eq_ediv_of_nonneg (by omega)]
   have h0 : 0 ≤ (k : Int) / m := Int.ediv_nonneg (by omega) (by omega)
   have h1 : (k : Int) / m ≤ k := Int.ediv_le_self _ (by omega)
   show _ ∧ _; omega
  refine Need.mk ⟨by omega, hdm⟩ ?_
  refine Need.mk (by omega) ?_
  refine Need.mk en ?_
  apply CallI.use1
  ·exact fun w8 h8 => hcall k w8 hlt h8.below
  intro w8 w9 h8 hB9
  have k9 := h8.step2 hB9
  have r9 := r7.below k9 r7.lt
  have B9 : Below w.heap.size w w9 := h8.below.trans (hB9.mono h8.below.size)
  refine Branch.mk (fun hc => ?_) (fun hc => ?_)
  ·have hc0 : 0 ≤ F k := by simpa using hc
   refine DrawI.wr (.tk 0 (.tk 1 (.tk 2 (.tk 3 (.tk 4 (.tk 5 (.tk 6 (.tk 7 (.tk 8 (.ev 9 .done)))))))))) [] [g] (by kernel_rfl) rfl (fun b hb h => hgr b hb (by simpa using h)) fun w10 h10 => ?_
   have r10 := r9.below h10.go r9.lt
   have hFl := hF k hlt
   obtain ⟨f, hf⟩ : ∃ f : Nat, F k = f := ⟨(F k).toNat, by omega⟩
   have hfl : f < L.length := by omega
   rw [hf]
   refine hS.idx (List.getElem?_eq_getElem hfl) fun ad had => ?_
   refine hS.ld1 (List.getElem?_eq_getElem hfl) had h10.below (by intro b hb; simp at hb; subst hb; exact hgw) ?_
   refine IdxI.mk ⟨_, ⟨rfl, by omega, by omega⟩, ?_⟩
   refine StoreI.mk fun w11 h11 => ?_
   rw [show ((⟨g, 0, none⟩ : Addr).add ((k : Int).toNat * 1)) = ⟨g, k, none⟩ by simp [addr_addL]]
   have r11 := r10.below h11.go r10.lt
   have hkl' : k < ((madeP L F N k).set k 9223372036854775807).length := by simpa using hkl k
   refine ⟨⟨⟨_, r11.cell hkl'⟩, r11.frozen _⟩, kpD_set hgw hgr (by simp [locs]), ?_⟩
   refine Need.mk (by show _ ∧ _; omega) (EndI.mk fun w12 h12 => ⟨(k + 1, w12), Cov.au rfl rfl rfl rfl rfl, rfl, ⟨hlt, h12.below, ?_⟩, by simp only; omega⟩)
   have e1 : ((madeP L F N k).set k 9223372036854775807).set k (L[f]'hfl) = madeP L F N (k + 1) := by
    rw [List.set_set]
    exact madeP_set L F hlt _ (by rw [if_pos hc0, hf, Int.toNat_natCast, List.getElem?_eq_getElem hfl]; rfl)
   rw [← e1]
   exact (r11.set hkl' _).below h12.go (by have := r11.lt; simpa [World.setCell] using this)
  ·have hc0 : ¬ 0 ≤ F k := by simpa using hc
   refine Need.mk (by show _ ∧ _; omega) (EndI.mk fun w12 h12 => ⟨(k + 1, w12), Cov.au rfl rfl rfl rfl rfl, rfl, ⟨hlt, h12.below, ?_⟩, by simp only; omega⟩)
   have e1 : (madeP L F N k).set k 9223372036854775807 = madeP L F N (k + 1) := madeP_set L F hlt _ (by rw [if_neg hc0])
   rw [← e1]
   exact r9.below h12.go r9.lt
 ·have hge : k = N := by have : ¬ k < N := by simpa using hb
                         omega
  rw [hge, madeP_all] at hRk
  refine EndI.mk fun w5 h5 => ?_
  have hll := madeL_len L F N
  rw [hll]
  refine ⟨_, _, rfl, .inr ⟨g, N, by rw [hll], by omega, by unfold maxLen; omega, hgw, ?_⟩⟩
  exact hRk.at h5 (fun e => hgr b2 (by simp) (List.mem_singleton.1 e).symm)
namespace Proj
def sk (k j : Nat) : Nat := if j < k then j else j + 1
def dropAt (N k idx : Nat) : Nat := sk k (idx / (N - 1)) * N + sk k (idx % (N - 1))
def dropL (N k : Nat) (c : List Int) : List Int := (List.range ((N - 1) * (N - 1))).map fun idx => c[dropAt N k idx]?.getD 0
def drop (n : Int) (L : List Int) (k : Int) : Int × List Int × Int :=
 if Dbm.chk n L = 0 then (if k < 1 ∨ n ≤ k then (0, [], 2) else (match Dbm.closeL n.toNat L with | some c => (n - 1, dropL n.toNat k.toNat c, 0) | none => (0, [], 6))) else (0, [], 8)
end Proj
theorem drop1_any (i j : Nat) (p q : Nat) (a : Option Addr) (cap : Nat) (l : List Int) (n x y : Int) (hx : l[i]? = some x) (hy : l[j]? = some y) (hr : inK .i64 (x * n) ∧ inK .i64 (x * n + y)) (w : World) (hp : w.cell? ⟨p, 0, none⟩ = some (.slice a l.length cap)) (hS : Sl w.heap.size w (.slice a l.length cap) l) (hq : w.cell? ⟨q, 0, none⟩ = some (.int .i64 n)) :
 Calls Tryz.prog 192 #[.int .i64 i, .int .i64 j, .pointer (some ⟨p, 0, none⟩), .pointer (some ⟨q, 0, none⟩)] w fun e w' => e = .returned (.int .i64 (x * n + y)) ∧ Below w.heap.size w w' := by
 refine fun_eq 0 w Tryz.func192 (args := [.val (.int .i64 i), .val (.int .i64 j), .val (.pointer (some ⟨p, 0, none⟩)), .val (.pointer (some ⟨q, 0, none⟩))]) rfl rfl ?_
 refine DrawI.go (.tk 0 (.tk 1 (.tk 2 (.tk 3 (.tk 4 (.tk 5 (.tk 6 (.tk 7 (.tk 8 (.tk 9 (.tk 10 (.tk 11 (.tk 12 .done))))))))))))) (by kernel_rfl) fun w1 h1 => ?_
 have hb := h1.go
 refine LoadI.mk ⟨_, ⟨(hb.cell (p := ⟨p, 0, none⟩) (World.block_lt_of_cell? _ _ hp)).trans hp, by simp⟩, ?_⟩
 refine hS.idx hx fun ad had => ?_
 refine hS.ld1 hx had hb (by simp) ?_
 refine LoadI.mk ⟨_, ⟨(hb.cell (p := ⟨q, 0, none⟩) (World.block_lt_of_cell? _ _ hq)).trans hq, by simp⟩, ?_⟩
 refine Need.mk hr.1 ?_
 refine LoadI.mk ⟨_, ⟨(hb.cell (p := ⟨p, 0, none⟩) (World.block_lt_of_cell? _ _ hp)).trans hp, by simp⟩, ?_⟩
 refine hS.idx hy fun ad had => ?_
 refine hS.ld1 hy had hb (by simp) ?_
 refine Need.mk hr.2 ?_
 exact EndI.mk fun w2 h2 => rfl
abbrev TI : TypeId := 3
def upto (N : Nat) : List Int := (List.range N).map (Int.ofNat)
theorem upto_succ (N : Nat) : upto (N + 1) = upto N ++ [(N : Int)] := by simp [upto, List.range_succ]
theorem upto_len (N : Nat) : (upto N).length = N := by simp [upto]
def leftL (N K : Nat) : List Int := (upto N).take K ++ (upto N).drop (K + 1)
theorem leftL_len {N K : Nat} (h : K < N) : (leftL N K).length = K + (N - (K + 1)) := by simp [leftL, upto_len]; omega
theorem leftL_get {N K j : Nat} (h : K < N) (hj : j < N - 1) : (leftL N K)[j]? = some (Proj.sk K j : Int) := by
 unfold leftL Proj.sk upto
 rw [List.getElem?_append]
 have hl : (List.take K (List.map Int.ofNat (List.range N))).length = K := by simp; omega
 rw [hl]
 split
 ·rename_i h1
  rw [List.getElem?_take, if_pos h1, List.getElem?_map, List.getElem?_range (by omega)]; rfl
 ·rename_i h1
  rw [List.getElem?_drop, List.getElem?_map, List.getElem?_range (by omega)]
  simp only [Option.map_some]
  rw [show K + 1 + (j - K) = j + 1 by omega]; rfl
theorem dropAt_lt {N k idx : Nat} (hN : 2 ≤ N) (hk : k < N) (h : idx < (N - 1) * (N - 1)) : Proj.dropAt N k idx < N * N := by
 have h1 : idx / (N - 1) < N - 1 := Nat.div_lt_of_lt_mul h
 have h2 : idx % (N - 1) < N - 1 := Nat.mod_lt _ (by omega)
 have h3 : Proj.sk k (idx / (N - 1)) < N := by unfold Proj.sk; split <;> omega
 have h4 : Proj.sk k (idx % (N - 1)) < N := by unfold Proj.sk; split <;> omega
 unfold Proj.dropAt
 calc _ < Proj.sk k (idx / (N - 1)) * N + N := by omega
  _ = (Proj.sk k (idx / (N - 1)) + 1) * N := by rw [Nat.succ_mul]
  _ ≤ N * N := Nat.mul_le_mul_right _ h3
theorem drop_any (n : Int) (a : Option Addr) (cap : Nat) (L : List Int) (k : Int) (w : World) (hS : Sl w.heap.size w (.slice a L.length cap) L) :
 Calls Tryz.prog 160 #[.agg #[.int .i64 n, .slice a L.length cap], .int .i64 k] w (Ret w fun v w' => ∃ a' cap', v = .tuple #[.agg #[.int .i64 (Proj.drop n L k).1, .slice a' (Proj.drop n L k).2.1.length cap'], .int .i64 (Proj.drop n L k).2.2] ∧ Fresh TB w.heap.size w' (.slice a' (Proj.drop n L k).2.1.length cap') (Proj.drop n L k).2.1) := by
 refine fun_ret 0 w Tryz.func160 (args := [.agg [.val (.int .i64 n), .val (.slice a L.length cap)], .val (.int .i64 k)]) rfl rfl ?_
 refine NewI.mk fun b1 hb1 => ?_
 refine NewI.mk fun b2 hb2 => ?_
 (first
   | (apply CallI.use1; (focus (exact fun w1 h1 => dcheck_any n a cap L w1 (Sl.at h1 hS))); intro w1 w2 h1 hB)
   | (refine Branch.yes rfl ?_)
   | (refine Branch.no rfl ?_)
   | (refine Branch.mk (fun hb => ?_) (fun hb => ?_))
   | (refine NewI.mk fun nb hnb => ?_)
   | (refine Need.mk (by show _ ∧ _; omega) ?_)
   | (refine Need.mk (by omega) ?_)
   | (refine Need.mk ?_ ?_)
   | (refine EndI.mk fun w1 h1 => ?_))
 -- an error
 have err : ∀ (e : Int) (w' : World), Proj.drop n L k = (0, [], e) → ∃ a' cap', Value.tuple #[.agg #[.int .i64 0, .slice none 0 0], .int .i64 e] = .tuple #[.agg #[.int .i64 (Proj.drop n L k).1, .slice a' (Proj.drop n L k).2.1.length cap'], .int .i64 (Proj.drop n L k).2.2] ∧ Fresh TB w.heap.size w' (.slice a' (Proj.drop n L k).2.1.length cap') (Proj.drop n L k).2.1 := fun e w' he => by
  rw [he]; exact ⟨_, _, rfl, .inl ⟨rfl, rfl⟩⟩
 refine Branch.mk (fun hc => ?_) (fun hc => ?_)
 ·exact EndI.mk fun w3 h3 => err 8 w3 (by rw [Proj.drop, if_neg (by simpa using hc)])
 have hc0 : Dbm.chk n L = 0 := by simpa using hc
 refine Branch.mk (fun hk1 => ?_) (fun hk1 => ?_)
 ·exact EndI.mk fun w3 h3 => err 2 w3 (by rw [Proj.drop, if_pos hc0, if_pos (.inl (by simpa using hk1))])
 refine Branch.mk (fun hk2 => ?_) (fun hk2 => ?_)
 ·exact EndI.mk fun w3 h3 => err 2 w3 (by rw [Proj.drop, if_pos hc0, if_pos (.inr (by simpa using hk2))])
 have hk1' : 1 ≤ k := by simp at hk1; omega
 have hk2' : k < n := by simpa using hk2
 have hcon := fun (w3 : World) (h : Sl w3.heap.size w3 (.slice a L.length cap) L) => close_any n a cap L w3 h
 rcases Dbm.close_cases hc0 with ⟨h1, h2⟩ | ⟨C, hC, hcl, hCl⟩
 ·simp only [h2] at hcon
  apply CallI.use
  ·exact fun w3 h3 => hcon w3 (Sl.at h3 hS)
  rintro v w3 w4 h3 hB4 ⟨ac, capc, rfl, hF⟩
  refine NewI.mk fun b3 hb3 => ?_
  refine Branch.yes rfl ?_
  exact EndI.mk fun w5 h5 => err 6 w5 (by rw [Proj.drop, if_pos hc0, if_neg (by omega), h1])
 simp only [hcl] at hcon
 apply CallI.use
 ·exact fun w3 h3 => hcon w3 (Sl.at h3 hS)
 rintro v w3 w4 h3 hB4 ⟨ac, capc, rfl, hF⟩
 refine NewI.mk fun b3 hb3 => ?_
 refine Branch.no rfl ?_
 refine NewI.mk fun b4 hb4 => ?_
 obtain ⟨N, rfl⟩ : ∃ N : Nat, n = N := ⟨n.toNat, by omega⟩
 obtain ⟨K, rfl⟩ : ∃ K : Nat, k = K := ⟨k.toNat, by omega⟩
 obtain ⟨c1, c2, c3, c4⟩ := Dbm.chk_iff.1 hc0
 have hlen : C.length = N * N := by rw [hCl]; exact_mod_cast c3
 have hN4 : N ≤ 4 := by omega
 have hK1 : 1 ≤ K := by omega
 have hKN : K < N := by omega
 have hN2 : 2 ≤ N := by omega
 have hw4b : Below w.heap.size w w4 := h3.below.trans (hB4.mono h3.below.size)
 have hw4 : ∀ b, b ∈ [b1, b2] → b < w4.heap.size := fun b hb => Nat.lt_of_lt_of_le (h3.lt b hb) hB4.size
 obtain ⟨X, hX3, hX4, hXw, hXm⟩ : ∃ X, b3 < X ∧ b4 < X ∧ w4.heap.size ≤ X ∧ ∀ n, b3 < n → b4 < n → w4.heap.size ≤ n → X ≤ n := ⟨max (max b3 b4 + 1) w4.heap.size, by omega, by omega, by omega, fun n h1 h2 h3 => by omega⟩
 refine LoopI.inv (α := Nat × World × Value) (fun y => [(36, .val (.int .i64 y.1))]) (fun y => [⟨[.val (.int .i64 N), .val (.slice a L.length cap)], 81⟩, ⟨[.val (.int .i64 0), .val (.slice none 0 0)], 81⟩, ⟨[.val (.int .i64 N), .val (.slice ac C.length capc)], 81⟩, ⟨[.val y.2.2], 48⟩]) (fun y => y.2.1)
  (fun y => y.1 ≤ N ∧ Below w4.heap.size w4 y.2.1 ∧ X ≤ y.2.1.heap.size ∧ Own TI X y.2.1 y.2.2 (upto y.1)) (fun y => N - y.1) ?_ ?_
 ·intro w5 h5
  exact ⟨(0, w5, .slice none 0 0), Cov.au rfl rfl rfl rfl rfl, rfl, Nat.zero_le _, h5.from hw4b (Below.refl _ _) (by intro b hb; simp at hb; subst hb; exact hb3), hXm _ (h5.lt b3 (by simp)) (h5.lt b4 (by simp)) h5.size, Own.nil⟩
 rintro ⟨i, W, sv⟩ ⟨hi, hBW, hXW, hO⟩
 refine Branch.mk (fun hb => ?_) (fun hb => ?_)
 ·have hlt : i < N := by simpa using hb
  refine NewI.mk fun b5 hb5 => ?_
  have hb5' : W.heap.size ≤ b5 := hb5
  have hXW' : X ≤ W.heap.size := hXW
  have hO1 : Own TI X W sv (upto i) := hO
  have hBW' : Below w4.heap.size w4 W := hBW
  have hr : ∀ g, sv.ownBlock = some g → w.heap.size ≤ g ∧ g ∉ [b1, b2, b3, b4, b5] := fun g hg => by
   have := hO1.lt g hg
   refine ⟨Nat.le_trans (Nat.le_trans (Nat.le_trans h3.below.size hB4.size) hXw) this.1, fun hm => ?_⟩
   simp only [List.mem_cons, List.not_mem_nil, or_false] at hm
   rcases hm with rfl | rfl | rfl | rfl | rfl
   ·have := hw4 g (by simp); omega
   ·have := hw4 g (by simp); omega
   ·omega
   ·omega
   ·omega
  refine GenN.app (α := Int) elDI (upto i) [(i : Int)] X (fun w5 h5 => hO1.below h5.go) (fun w5 h5 => src_own h5 4 rfl rfl rfl rfl) (by rw [upto_len]; unfold maxLen; simp; omega) (by rw [upto_len]; simp; omega) (fun w5 h5 => Nat.le_trans hXW' h5.size)
   (fun w5 w6 h5 hg => keep_grown h5 hg hr) fun sv' w5 w6 h5 hg hO' => ?_
  obtain ⟨a', c', rfl⟩ := hO'.form
  rw [← upto_succ] at hO'
  have hB6 : Below w4.heap.size w4 w6 := ⟨hg.os.trans h5.go.os |>.trans hBW'.os, hg.tape.trans h5.go.tape |>.trans hBW'.tape, hg.output.trans h5.go.output |>.trans hBW'.output, Nat.le_trans hBW'.size (Nat.le_trans h5.size hg.size), fun k hk => by
   have hkW : k < W.heap.size := Nat.lt_of_lt_of_le hk hBW'.size
   refine (hg.block k (Nat.lt_of_lt_of_le hkW h5.size) (fun e => ?_)).trans ((h5.go.block k hkW).trans (hBW'.block k hk))
   have := hO1.lt k e.symm
   omega⟩
  refine Need.mk (by show _ ∧ _; omega) (EndI.mk fun w7 h7 => ⟨(i + 1, w7, .slice a' (upto i ++ [(i : Int)]).length c'), Cov.au rfl rfl rfl rfl rfl, rfl, ⟨hlt, ?_, ?_, ?_⟩, by simp only; omega⟩)
  ·exact h7.from hw4b hB6 (by intro b hb; simp at hb; subst hb; exact hb4)
  ·exact Nat.le_trans hXW' (Nat.le_trans h5.size (Nat.le_trans hg.size h7.size))
  ·rw [← upto_succ]
   exact hO'.at h7 (by intro b hb; simp at hb; subst hb; exact hX4)
 ·have hge : i = N := by have : ¬ i < N := by simpa using hb
                         omega
  have hO1 : Own TI X W sv (upto N) := by rw [← hge]; exact hO
  have hBW' : Below w4.heap.size w4 W := hBW
  have hXW' : X ≤ W.heap.size := hXW
  clear hO hBW hXW hi hb hge
  obtain ⟨g, cg, rfl⟩ : ∃ g c, sv = .slice (some ⟨g, 0, none⟩) (upto N).length c := by
   obtain ⟨_, ⟨rfl, h0⟩ | ⟨g, c, cur, rfl, _⟩⟩ := id hO1
   ·rw [upto_len] at h0; omega
   ·exact ⟨g, c, rfl⟩
  obtain ⟨_, hXg, hgW, _⟩ := hO1.at0
  have hgw : w.heap.size ≤ g := Nat.le_trans hw4b.size (Nat.le_trans hXw hXg)
  have hgr : ∀ b, b ∈ [b1, b2, b3, b4] → b ≠ g := by
   intro b hb e
   simp only [List.mem_cons, List.not_mem_nil, or_false] at hb
   rcases hb with rfl | rfl | rfl | rfl
   ·have := hw4 b (by simp); omega
   ·have := hw4 b (by simp); omega
   ·omega
   ·omega
  refine Need.mk (by show _ ∧ _; omega) ?_
  apply CallI.mk
  intro w5 h5
  refine (deleteI_any (upto N) g cg X K (K + 1) TI rfl (by omega) (by rw [upto_len]; omega) w.heap.size w5 h5.below.size hgw (hO1.below h5.go) (by rw [upto_len]; omega)).mono ?_
  rintro e w6 ⟨v, rfl, hB6, rfl, hO6, hg6⟩
  refine ⟨⟨hB6, fun b hb => hg6.block b (h5.lt b hb) (fun e => hgr b hb (by injection e))⟩, _, rfl, ?_⟩
  have B46 : Below w4.heap.size w4 w6 := ⟨hg6.os.trans (h5.go.os.trans hBW'.os), hg6.tape.trans (h5.go.tape.trans hBW'.tape), hg6.output.trans (h5.go.output.trans hBW'.output), Nat.le_trans hBW'.size (Nat.le_trans h5.size hg6.size), fun k hk => by
   have hkW : k < W.heap.size := Nat.lt_of_lt_of_le hk hBW'.size
   refine (hg6.block k (Nat.lt_of_lt_of_le hkW h5.size) (fun e => ?_)).trans ((h5.go.block k hkW).trans (hBW'.block k hk))
   injection e with e; omega⟩
  have hm : K + ((upto N).length - (K + 1)) = N - 1 := by rw [upto_len]; omega
  rw [hm] at hO6 ⊢
  have hll : (leftL N K).length = N - 1 := by rw [leftL_len hKN]; omega
  have hO6' : Own TI X w6 (.slice (some ⟨g, 0, none⟩) (leftL N K).length cg) (leftL N K) := by rw [hll]; exact hO6
  apply CallI.use
  ·intro w7 h7
   have B47 : Below w4.heap.size w4 w7 := h7.from hw4b B46 (by intro b hb; simp at hb; subst hb; exact hb4)
   refine pmade_any N C ac capc (N - 1) (by omega) (by omega) 192 #[.pointer (some ⟨b4, 0, none⟩), .pointer (some ⟨b3, 0, none⟩)] Tryz.call192 (fun idx => (Proj.dropAt N K idx : Int)) w7 ((hF.sl.below B47).upto B47.size) (fun k hk => by
    rw [hlen]; exact Int.ofNat_lt.2 (dropAt_lt hN2 hKN hk)) (fun k W' hk hW' => ?_)
   have h1 : k / (N - 1) < N - 1 := Nat.div_lt_of_lt_mul hk
   have h2 : k % (N - 1) < N - 1 := Nat.mod_lt _ (by omega)
   have hs : Sl w7.heap.size w7 (.slice (some ⟨g, 0, none⟩) (leftL N K).length cg) (leftL N K) := (hO6'.at h7 (by intro b hb; simp at hb; subst hb; exact hX4)).sl
   have hb4' := h7.lt b4 (by simp)
   have hb3' := h7.lt b3 (by simp)
   have sk1 : Proj.sk K (k / (N - 1)) < N := by unfold Proj.sk; split <;> omega
   have sk2 : Proj.sk K (k % (N - 1)) < N := by unfold Proj.sk; split <;> omega
   have hmul : Proj.sk K (k / (N - 1)) * N ≤ 4 * 4 := Nat.mul_le_mul (by omega) hN4
   have emul : (Proj.sk K (k / (N - 1)) : Int) * (N : Int) = ((Proj.sk K (k / (N - 1)) * N : Nat) : Int) := rfl
   refine drop1_any (k / (N - 1)) (k % (N - 1)) b4 b3 (some ⟨g, 0, none⟩) cg (leftL N K) N _ _ (leftL_get hKN h1) (leftL_get hKN h2) (by rw [emul]; constructor <;> (show _ ∧ _; omega)) W' ?_ (hs.go hW' hW'.size) ?_
   ·refine (hW'.cell (p := ⟨b4, 0, none⟩) hb4').trans ?_
    rw [hll]; exact h7.own (i := 3) (o := 0) rfl rfl rfl
   ·refine (hW'.cell (p := ⟨b3, 0, none⟩) hb3').trans ?_
    exact h7.own (i := 2) (o := 0) rfl rfl rfl
  rintro v w7 w8 h7 hB8 ⟨ad, cd, rfl, hFd⟩
  refine EndI.mk fun w9 h9 => ?_
  have hdl : madeL C (fun idx => (Proj.dropAt N K idx : Int)) ((N - 1) * (N - 1)) = Proj.dropL N K C := by
   unfold madeL Proj.dropL
   refine List.map_congr_left fun j hj => ?_
   show (if 0 ≤ ((Proj.dropAt N K j : Nat) : Int) then _ else _) = _
   rw [if_pos (Int.natCast_nonneg _), Int.toNat_natCast]
  have hdr : Proj.drop N L K = ((N : Int) - 1, Proj.dropL N K C, 0) := by
   rw [Proj.drop, if_pos hc0, if_neg (by omega), hC]; rfl
  rw [hdr]
  rw [hdl] at hFd ⊢
  have en : ((N - 1 : Nat) : Int) = (N : Int) - 1 := by omega
  rw [en]
  refine ⟨_, _, rfl, ?_⟩
  exact (hFd.at h9 (fun b hb => by have := h7.lt b2 (by simp); rw [List.mem_singleton.1 hb]; exact this)).lower h7.below.size
theorem cell_twoM {W : World} {B : Nat} {u v : Value} {t : TypeId} (h : W.heap[B]? = some (.cells #[u, v] t (0, 0))) : ∀ (j : Nat) (c : Value), [u, v][j]? = some c → W.cell? ((⟨B, 0, none⟩ : Addr).add j) = some c
 | 0, c, e => by injection e with e; subst e; simp [Addr.add, World.cell?, h]
 | 1, c, e => by injection e with e; subst e; simp [Addr.add, World.cell?, h]
 | j + 2, c, e => by simp at e
namespace Cmp
def mat (a b : Zn) : List Int := put 0 2 3 (Zo.matL b) (put 0 1 2 (Zo.matL a) (Dbm.topL 4) 9) 9
theorem mat_len (a b : Zn) : (mat a b).length = 16 := by unfold mat; rw [put_len, put_len]; rfl
def comp (a b : Zn) : Zn × Int :=
 if Zo.chk a = 0 ∧ Zo.chk b = 0 then (if (Proj.drop 4 (mat a b) 2).2.2 = 0 then Zo.of (Proj.drop 4 (mat a b) 2).1 (Proj.drop 4 (mat a b) 2).2.1 else (Zo.nought, (Proj.drop 4 (mat a b) 2).2.2)) else (Zo.nought, 8)
theorem top4 : Dbm.top 4 = (4, Dbm.topL 4, 0) := rfl
end Cmp
theorem ccomp_any (a b : Zn) (w : World) :
 Calls Tryz.prog 108 #[.agg #[.int .i64 a.a, .int .i64 a.b, .int .i64 a.c, .int .i64 a.d, .int .i64 a.e, .int .i64 a.f], .agg #[.int .i64 b.a, .int .i64 b.b, .int .i64 b.c, .int .i64 b.d, .int .i64 b.e, .int .i64 b.f]] w fun e w' => e = .returned (.tuple #[.agg #[.int .i64 (Cmp.comp a b).1.a, .int .i64 (Cmp.comp a b).1.b, .int .i64 (Cmp.comp a b).1.c, .int .i64 (Cmp.comp a b).1.d, .int .i64 (Cmp.comp a b).1.e, .int .i64 (Cmp.comp a b).1.f], .int .i64 (Cmp.comp a b).2]) ∧ Below w.heap.size w w' := by
 refine fun_eq 0 w Tryz.func108 (args := [.agg [.val (.int .i64 a.a), .val (.int .i64 a.b), .val (.int .i64 a.c), .val (.int .i64 a.d), .val (.int .i64 a.e), .val (.int .i64 a.f)], .agg [.val (.int .i64 b.a), .val (.int .i64 b.b), .val (.int .i64 b.c), .val (.int .i64 b.d), .val (.int .i64 b.e), .val (.int .i64 b.f)]]) rfl rfl ?_
 have st := Stay.first (w := w)
 refine NewI.mk fun b1 hb1 => ?_
 refine NewI.mk fun b2 hb2 => ?_
 refine NewI.mk fun b3 hb3 => ?_
 unfold Cmp.comp
 apply CallI.use1
 focus (exact fun w1 h1 => zcheck_any a w1)
 intro w1 v1 h1 hB1
 have st := st.nx h1 hB1
 refine Branch.mk (fun hc => ?_) (fun hc => ?_)
 ·have h0 : ¬ Zo.chk a = 0 := by simpa using hc
  rw [if_neg (fun h => h0 h.1)]
  exact EndI.mk fun w9 h9 => rfl
 have h0a : Zo.chk a = 0 := by simpa using hc
 apply CallI.use1
 focus (exact fun w2 h2 => zcheck_any b w2)
 intro w2 v2 h2 hB2
 have st := st.nx h2 hB2
 refine Branch.mk (fun hc2 => ?_) (fun hc2 => ?_)
 ·have h0 : ¬ Zo.chk b = 0 := by simpa using hc2
  rw [if_neg (fun h => h0 h.2)]
  exact EndI.mk fun w9 h9 => rfl
 have h0b : Zo.chk b = 0 := by simpa using hc2
 rw [if_pos ⟨h0a, h0b⟩]
 have htp := fun w => top_any 4 w
 rw [Cmp.top4] at htp
 apply CallI.use
 focus (exact fun w3 h3 => htp w3)
 rintro v w3 v3 h3 hB3 ⟨at_, ct, rfl, hOt⟩
 have st := st.nx h3 hB3
 refine NewI.frn fun w4 h4 => ?_
 have hlb : ∀ x, x ∈ [b1, b2, b3] → x < w3.heap.size := fun x hx => h3.lt x hx
 have hw34 : w3.heap.size ≤ w4.heap.size := Nat.le_trans hB3.size h4.size
 have hww : w.heap.size ≤ w3.heap.size := h3.below.size
 have hOt4 := hOt.st (st.at h4)
 obtain ⟨g, rfl, hgb, hrow4⟩ := hOt4.row (by show 0 < 16; omega)
 have hg4 := hrow4.lt
 have hw4 := h4.below
 refine Need.mk rfl ?_
 refine StoreA.mk fun w5 h5 => ?_
 have hbox0 : (w4.alloc (.cells #[.int .i64 0, .slice none 0 0] 81)).heap[w4.heap.size]? = some (.cells #[.int .i64 0, .slice none 0 0] 81 (0, 0)) := World.alloc_heap_new w4 _
 have g5 := at_belowM h5 (by simp)
 have hbox5 := (g5.block _ (lt_cellsM hbox0)).trans hbox0
 have hrow5 : RowAt TB w5 g (Dbm.topL 4) := (rowAt_alloc hrow4 _).below g5 (by simp; omega)
 refine ⟨w4.heap.size, 0, #[.int .i64 0, .slice none 0 0], _, rfl, hbox5, by show 2 ≤ 2; omega, keep_grown h5 (grown_setRow _ _ _) (fun k hk => by injection hk with hk; subst hk; exact ⟨hw4.size, fun hm => by have := hlb _ hm; omega⟩), ?_⟩
 generalize hX : World.setRow w5 w4.heap.size _ = w6
 have hgr5 : w5.grownBy w6 (some w4.heap.size) := by rw [← hX]; exact grown_setRow _ _ _
 have hbox6 : w6.heap[w4.heap.size]? = some (.cells #[.int .i64 4, .slice (some ⟨g, 0, none⟩) 16 ct] 81 (0, 0)) := by
  rw [← hX]; exact setRow_heap w5 _ _ _ _ _ hbox5
 clear hX
 have hrow6 : RowAt TB w6 g (Dbm.topL 4) := hrow5.kept (hgr5.block g hrow5.lt (fun e => by injection e with e; omega))
 have hw6 := grown_belowM (h5.below) hgr5 (fun k hk => by injection hk with hk; subst hk; exact hw4.size) h5.below.size
 have hs6 := hgr5.size
 have hs5 := h5.size
 generalize w4.heap.size = B at *
 have hB6 := lt_cellsM hbox6
 refine CallI.mk fun w7 h7 => ?_
 have g7 := at_belowM h7 (by simp)
 have hgB : g ≠ B := by omega
 refine (cput_any a h0a 0 1 2 (by omega) (by omega) (by omega) w3.heap.size B g ct hgB hgb (Dbm.topL 4) rfl w7 (by have := g7.size; omega) ((g7.block B (lt_cellsM hbox6)).trans hbox6) (hrow6.below g7 hrow6.lt)).mono ?_
 rintro e w8 ⟨u, rfl, hB8, rfl, hbox8, hrow8⟩
 have hw7 := h7.below
 have hs7 := g7.size
 have hs8 := hB8.size
 refine ⟨⟨hB8.mono hww, fun b hb => hB8.block b (hlb b hb)⟩, _, rfl, ?_⟩
 refine CallI.mk fun w9 h9 => ?_
 have g9 := at_belowM h9 (by simp)
 refine (cput_any b h0b 0 2 3 (by omega) (by omega) (by omega) w3.heap.size B g ct hgB hgb _ (by rw [Cmp.put_len]; rfl) w9 (by have := g9.size; omega) ((g9.block B (lt_cellsM hbox8)).trans hbox8) (hrow8.below g9 hrow8.lt)).mono ?_
 rintro e w10 ⟨u, rfl, hB10, rfl, hbox10, hrow10⟩
 have hw9 := h9.below
 have hs9 := g9.size
 have hs10 := hB10.size
 refine ⟨⟨hB10.mono hww, fun b hb => hB10.block b (hlb b hb)⟩, _, rfl, ?_⟩
 change RowAt TB w10 g (Cmp.mat a b) at hrow10
 have hml := Cmp.mat_len a b
 have hw10 : Below w.heap.size w w10 := hw9.trans (hB10.mono hww)
 refine LoadA.mk ⟨[.int .i64 4, .slice (some ⟨g, 0, none⟩) 16 ct], ⟨rfl, by decide, by simp, cell_twoM hbox10⟩, ?_⟩
 have hcap : 16 ≤ ct ∧ ct ≤ maxLen := by
  obtain ⟨_, _, e, x1, x2, _⟩ := hOt.sl.form
  injection e with _ _ e
  subst e
  exact ⟨x1, x2⟩
 have hdr := fun w h => drop_any 4 (some ⟨g, 0, none⟩) ct (Cmp.mat a b) 2 w h
 rw [hml] at hdr
 apply CallI.use
 focus (exact fun w11 h11 => hdr w11 (by
  have := (hrow10.below (at_belowM h11 (by simp)) hrow10.lt).sl (cap := ct) (by omega) hcap.2
  rw [hml] at this; exact this))
 rintro v w11 v11 h11 hB11 ⟨a11, c11, rfl, hF11⟩
 refine NewI.mk fun b9 hb9 => ?_
 generalize Proj.drop 4 (Cmp.mat a b) 2 = X at *
 obtain ⟨n, D, e⟩ := X
 simp only at hF11 ⊢
 refine Branch.mk (fun hc3 => ?_) (fun hc3 => ?_)
 ·have h9 : e ≠ 0 := by simpa using hc3
  rw [if_neg h9]
  exact EndI.mk fun w9 h9 => rfl
 ·have h9 : e = 0 := by simpa using hc3
  rw [if_pos h9]
  apply CallI.use1
  focus (exact fun w12 h12 => zof_any n a11 c11 D w12 ((hF11.sl).go (at_belowM h12 (by simp <;> omega)) h12.size))
  intro w12 v12 h12 hB12
  exact EndI.mk fun w9 h9 => rfl
namespace Zs
def pairGo (f : Zn → Zn → Zn × Int) (b : List Zn) : List Zn → List Zn → List Zn × Int
 | out, [] => (out, 0)
 | out, x :: a => if (come (f x) out b).2 = 0 then pairGo f b (come (f x) out b).1 a else ([], (come (f x) out b).2)
theorem pairGo_cons (f : Zn → Zn → Zn × Int) (b out a : List Zn) (x : Zn) : pairGo f b out (x :: a) = if (come (f x) out b).2 = 0 then pairGo f b (come (f x) out b).1 a else ([], (come (f x) out b).2) := rfl
def paired (f : Zn → Zn → Zn × Int) (a b : List Zn) : List Zn × Int := if Cv.checked [a, b] = 0 then pairGo f b [] a else ([], Cv.checked [a, b])
def or (a b : List Zn) : List Zn × Int := if Cv.checked [a, b] = 0 then Cv.prune (a ++ b) else ([], Cv.checked [a, b])
def and (a b : List Zn) : List Zn × Int := paired Zo.meet a b
def comp (a b : List Zn) : List Zn × Int := paired Cmp.comp a b
theorem checked_len {l m : List Zn} (h0 : Cv.checked [l, m] = 0) : l.length ≤ 4096 ∧ m.length ≤ 4096 := by
 unfold Cv.checked at h0
 split at h0
 ·cases h0
 ·rename_i hn
  rw [List.any_eq_true] at hn
  constructor
  ·apply Classical.byContradiction; intro hh; exact hn ⟨l, by simp, decide_eq_true (by omega)⟩
  ·apply Classical.byContradiction; intro hh; exact hn ⟨m, by simp, decide_eq_true (by omega)⟩
theorem come_len (f : Zn → Zn × Int) : ∀ (l out : List Zn), (come f out l).2 = 0 → (come f out l).1.length ≤ 4096
 | [], out, h => by
   have h := h
   change (Cv.prune out).2 = 0 at h
   have hw := Cv.prune_ok h
   exact Nat.le_trans hw.mlen hw.len
 | x :: l, out, h => by
   rw [come_cons] at h ⊢
   split at h
   ·rename_i h0; rw [if_pos h0]; exact come_len f l _ h
   ·rename_i h0
    rw [if_neg h0]
    split at h
    ·rename_i h1; rw [if_pos h1]; exact come_len f l _ h
    ·rename_i h1; rw [if_neg h1]; exact Nat.zero_le _
end Zs
theorem cell_nM {W : World} {B : Nat} {vs : List Value} {t : TypeId} (h : W.heap[B]? = some (.cells vs.toArray t (0, 0))) (j : Nat) (c : Value) (hj : vs[j]? = some c) : W.cell? ((⟨B, 0, none⟩ : Addr).add j) = some c := by
 rw [addr_addL]
 simp [World.cell?, h, hj]
theorem storeA_new {w0 : Base} {hp : List LB} {r L : List Nat} {w : World} {K : World → Prop} {B : Nat} {vs : List Value} {cs : Array Value} {ty : TypeId} (hb : w0.B ≤ B) (hr : B ∉ r) (hl : vs.length = cs.size)
 (hbox : ∀ w1, At w0 hp r L w w1 → w1.heap[B]? = some (.cells cs ty (0, 0)))
 (hk : ∀ X w1, At w0 hp r L w w1 → w1.grownBy X (some B) → X.heap[B]? = some (.cells vs.toArray ty (0, 0)) → K X) : StoreA w0 (Keep w0) ⟨B, 0, none⟩ vs hp r L w K :=
 StoreA.mk fun w1 h1 => by
  have he : (cs.toList.take 0 ++ vs ++ cs.toList.drop (0 + vs.length)).toArray = vs.toArray := by
   rw [List.drop_of_length_le (by simp; omega)]; simp
  refine ⟨B, 0, cs, ty, rfl, hbox w1 h1, by omega, keep_grown h1 (grown_setRow _ _ _) (fun k hk => by injection hk with hk; subst hk; exact ⟨hb, hr⟩), ?_⟩
  rw [he]
  exact hk _ w1 h1 (grown_setRow _ _ _) (setRow_heap w1 B _ _ _ _ (hbox w1 h1))
theorem pairer_any (f : Zn → Zn → Zn × Int) (fid : FuncId) (en : Enters Tryz.prog fid) (x y : Zn) (Bf Bx : Nat) (w : World)
 (hf : w.heap[Bf]? = some (.cells #[.func (.func fid) #[] #[]] 152 (0, 0)))
 (hx : w.heap[Bx]? = some (.cells #[.int .i64 x.a, .int .i64 x.b, .int .i64 x.c, .int .i64 x.d, .int .i64 x.e, .int .i64 x.f] 86 (0, 0)))
 (hcall : ∀ W, Calls Tryz.prog fid #[.agg #[.int .i64 x.a, .int .i64 x.b, .int .i64 x.c, .int .i64 x.d, .int .i64 x.e, .int .i64 x.f], .agg #[.int .i64 y.a, .int .i64 y.b, .int .i64 y.c, .int .i64 y.d, .int .i64 y.e, .int .i64 y.f]] W fun e W' => e = .returned (.tuple #[.agg #[.int .i64 (f x y).1.a, .int .i64 (f x y).1.b, .int .i64 (f x y).1.c, .int .i64 (f x y).1.d, .int .i64 (f x y).1.e, .int .i64 (f x y).1.f], .int .i64 (f x y).2]) ∧ Below W.heap.size W W') :
 Calls Tryz.prog 155 #[.agg #[.int .i64 y.a, .int .i64 y.b, .int .i64 y.c, .int .i64 y.d, .int .i64 y.e, .int .i64 y.f], .pointer (some ⟨Bf, 0, none⟩), .pointer (some ⟨Bx, 0, none⟩)] w fun e w' => e = .returned (.tuple #[.agg #[.int .i64 (f x y).1.a, .int .i64 (f x y).1.b, .int .i64 (f x y).1.c, .int .i64 (f x y).1.d, .int .i64 (f x y).1.e, .int .i64 (f x y).1.f], .int .i64 (f x y).2]) ∧ Below w.heap.size w w' := by
 refine fun_eq 0 w Tryz.func155 (args := [.agg [.val (.int .i64 y.a), .val (.int .i64 y.b), .val (.int .i64 y.c), .val (.int .i64 y.d), .val (.int .i64 y.e), .val (.int .i64 y.f)], .val (.pointer (some ⟨Bf, 0, none⟩)), .val (.pointer (some ⟨Bx, 0, none⟩))]) rfl rfl ?_
 refine NewI.mk fun b1 hb1 => ?_
 refine NewI.mk fun b2 hb2 => ?_
 refine LoadI.mk ⟨_, ⟨cell_oneM hf, by simp⟩, ?_⟩
 refine LoadA.mk ⟨[.int .i64 x.a, .int .i64 x.b, .int .i64 x.c, .int .i64 x.d, .int .i64 x.e, .int .i64 x.f], ⟨rfl, by decide, by simp, cell_nM hx⟩, ?_⟩
 refine Need.mk en ?_
 apply CallI.use1
 focus (exact fun w2 h2 => hcall w2)
 intro w2 v2 h2 hB2
 exact EndI.mk fun w9 h9 => rfl
theorem paired_any (f : Zn → Zn → Zn × Int) (fid : FuncId) (en : Enters Tryz.prog fid) (hcall : ∀ x y W, Calls Tryz.prog fid #[.agg #[.int .i64 x.a, .int .i64 x.b, .int .i64 x.c, .int .i64 x.d, .int .i64 x.e, .int .i64 x.f], .agg #[.int .i64 y.a, .int .i64 y.b, .int .i64 y.c, .int .i64 y.d, .int .i64 y.e, .int .i64 y.f]] W fun e W' => e = .returned (.tuple #[.agg #[.int .i64 (f x y).1.a, .int .i64 (f x y).1.b, .int .i64 (f x y).1.c, .int .i64 (f x y).1.d, .int .i64 (f x y).1.e, .int .i64 (f x y).1.f], .int .i64 (f x y).2]) ∧ Below W.heap.size W W')
 (l m : List Zn) (a b : Option Addr) (ca cb : Nat) (w : World) (hS : Sl w.heap.size w (.slice a l.length ca) l) (hT : Sl w.heap.size w (.slice b m.length cb) m) :
 Calls Tryz.prog 106 #[.slice a l.length ca, .slice b m.length cb, .func (.func fid) #[] #[]] w (Ret w fun v w' => ∃ a' c', v = .tuple #[.slice a' (Zs.paired f l m).1.length c', .int .i64 (Zs.paired f l m).2] ∧ Own TZ w.heap.size w' (.slice a' (Zs.paired f l m).1.length c') (Zs.paired f l m).1) := by
 refine fun_ret 0 w Tryz.func106 (args := [.val (.slice a l.length ca), .val (.slice b m.length cb), .val (.func (.func fid) #[] #[])]) rfl rfl ?_
 refine NewI.frn fun w1 h1 => ?_
 have hbox : (w1.alloc (.cells #[.func (.func fid) #[] #[]] 152)).heap[w1.heap.size]? = some (.cells #[.func (.func fid) #[] #[]] 152 (0, 0)) := World.alloc_heap_new w1 _
 have hw1 : Below w.heap.size w (w1.alloc (.cells #[.func (.func fid) #[] #[]] 152)) := h1.below.alloc h1.below.size _
 have hBl : w1.heap.size < (w1.alloc (.cells #[.func (.func fid) #[] #[]] 152)).heap.size := lt_cellsM hbox
 have hwB : w.heap.size ≤ w1.heap.size := h1.below.size
 generalize w1.alloc (.cells #[.func (.func fid) #[] #[]] 152) = w2 at *
 generalize w1.heap.size = Bf at *
 refine NewI.mk fun b2 hb2 => ?_
 have hb2' : w2.heap.size ≤ b2 := hb2
 apply CallI.use1
 ·exact fun w3 h3 => zschecked_any [⟨a, l.length, ca⟩, ⟨b, m.length, cb⟩] [l, m] (by simp) _ _ w3 (shown_two (hS.go h3.below h3.below.size) rfl (hT.go h3.below h3.below.size) rfl) (Sl.own (l := [(⟨a, l.length, ca⟩ : Svl), ⟨b, m.length, cb⟩]) h3 0 rfl rfl rfl (Nat.le_refl _) (by simp [maxLen]))
 intro w3 v3 h3 hB3
 have g3 := at_belowM h3 (by simp)
 have hbox3 : v3.heap[Bf]? = some (.cells #[.func (.func fid) #[] #[]] 152 (0, 0)) := (hB3.block Bf (Nat.lt_of_lt_of_le hBl g3.size)).trans ((g3.block Bf hBl).trans hbox)
 have hb2v : b2 < v3.heap.size := Nat.lt_of_lt_of_le (h3.lt b2 (by simp)) hB3.size
 unfold Zs.paired
 refine Branch.mk (fun hc => ?_) (fun hc => ?_)
 ·have h0 : Cv.checked [l, m] ≠ 0 := by simpa using hc
  rw [if_neg h0]
  exact EndI.mk fun w9 h9 => ⟨_, _, rfl, Own.nil⟩
 have h0 : Cv.checked [l, m] = 0 := by simpa using hc
 rw [if_pos h0]
 obtain ⟨hl4, hm4⟩ := Zs.checked_len h0
 have hv3 : Below w.heap.size w v3 := h3.below.trans (hB3.mono h3.below.size)
 generalize hB2 : v3.heap.size = B2 at *
 have hBf2 : Bf < B2 := by rw [← hB2]; exact lt_cellsM hbox3
 have hb2B : b2 < B2 := by omega
 refine LoopI.invC (α := Nat × World × Value × List Zn) (fun y => [(19, .val (.int .i64 y.1)), (6, .val y.2.2.1)]) (fun y => y.2.1)
  (fun y => y.1 ≤ l.length ∧ Below w.heap.size w y.2.1 ∧ B2 ≤ y.2.1.heap.size ∧ y.2.1.heap[Bf]? = some (.cells #[.func (.func fid) #[] #[]] 152 (0, 0)) ∧ Own TZ B2 y.2.1 y.2.2.1 y.2.2.2 ∧ y.2.2.2.length ≤ 4096 ∧ Zs.pairGo f m [] l = Zs.pairGo f m y.2.2.2 (l.drop y.1)) (fun y => l.length - y.1) ?_ ?_
 ·intro w4 h4
  have g4 := at_belowM h4 (by simp)
  exact ⟨(0, w4, .slice none 0 0, []), Cov.au rfl rfl rfl rfl rfl, rfl, Nat.zero_le _, h4.below, by rw [← hB2]; exact g4.size, (g4.block Bf (lt_cellsM hbox3)).trans hbox3, Own.nil, by simp, rfl⟩
 rintro ⟨k, U, tv, ou⟩ ⟨hk, hU, hUB, hbU, hOU, hlen, heq⟩
 simp only at hk hU hUB hbU hOU hlen heq
 refine Branch.mk (fun hc => ?_) (fun hc => ?_)
 ·have hlt : k < l.length := by simpa using hc
  have hg := List.getElem?_eq_getElem (l := l) (i := k) hlt
  have hdr : l.drop k = l[k]'hlt :: l.drop (k + 1) := List.drop_eq_getElem_cons hlt
  generalize l[k]'hlt = x at hg hdr
  rw [hdr, Zs.pairGo_cons] at heq
  have hSU := hS.go hU hU.size
  refine hSU.idx hg fun ad had => ?_
  refine hSU.ld hg had (Below.refl _ _) (by simp) ?_
  refine NewI.frn fun w4 h4 => ?_
  have g4 : Below U.heap.size U w4 := at_belowM h4 (by simp)
  have hw4 := h4.below
  have hbox4 : (w4.alloc (.cells #[.int .i64 0, .int .i64 0, .int .i64 0, .int .i64 0, .int .i64 0, .int .i64 0] 86)).heap[w4.heap.size]? = some (.cells #[.int .i64 0, .int .i64 0, .int .i64 0, .int .i64 0, .int .i64 0, .int .i64 0] 86 (0, 0)) := World.alloc_heap_new w4 _
  have hrow : ∀ g, tv.ownBlock = some g → B2 ≤ g ∧ g < U.heap.size := fun g hg => hOU.lt g hg
  have hs4 := g4.size
  refine Need.mk rfl ?_
  refine storeA_new (B := w4.heap.size) (cs := #[.int .i64 0, .int .i64 0, .int .i64 0, .int .i64 0, .int .i64 0, .int .i64 0]) (ty := 86) hw4.size (fun hm => by have := List.mem_singleton.1 hm; omega) rfl (fun w5 h5 => by have g := at_belowM h5 (by simp); exact (g.block _ (lt_cellsM hbox4)).trans hbox4) fun w6 w5 h5 hg5 hbx6 => ?_
  have g5 := at_belowM h5 (by simp)
  have hs5 := g5.size
  have hBx4 := lt_cellsM hbox4
  have hal : Below w4.heap.size w4 (w4.alloc (.cells #[.int .i64 0, .int .i64 0, .int .i64 0, .int .i64 0, .int .i64 0, .int .i64 0] 86)) := (Below.refl _ _).alloc (Nat.le_refl _) _
  have g45 : Below w4.heap.size w4 w5 := hal.trans (g5.mono hal.size)
  have g46 := grown_belowM g45 hg5 (fun k hk => by injection hk with hk; subst hk; exact Nat.le_refl _) g45.size
  have gU6 : Below U.heap.size U w6 := g4.trans (g46.mono hs4)
  have hw6 := hU.trans (gU6.mono hU.size)
  have hO6 := hOU.below gU6
  have hbf6 := (gU6.block Bf (lt_cellsM hbU)).trans hbU
  have hs6 := g46.size
  generalize w4.heap.size = Bx at *
  clear g46 g45 hal hbox4 hBx4 hg5 g5 hs5 h5
  obtain ⟨ao, co, rfl⟩ := hOU.form
  refine CallI.mk fun w7 h7 => ?_
  have g7 := at_belowM h7 (by simp)
  have hO7 := hO6.below g7
  have hbf7 := (g7.block Bf (lt_cellsM hbf6)).trans hbf6
  have hbx7 := (g7.block Bx (lt_cellsM hbx6)).trans hbx6
  have hw7 := h7.below
  have hs7 := g7.size
  refine (come_any (f x) 155 #[.pointer (some ⟨Bf, 0, none⟩), .pointer (some ⟨Bx, 0, none⟩)] Tryz.call155 ou m (.slice ao ou.length co) b cb w.heap.size hlen hm4 w7 hw7.size (hO7.lower (by omega)) (hT.below hw7) (fun y W hy hK => ?_)).mono ?_
  ·refine pairer_any f fid en x y Bf Bx W ((hK.2 Bf (lt_cellsM hbf7) (fun e => by have := hrow Bf e.symm; omega)).trans hbf7) ((hK.2 Bx (lt_cellsM hbx7) (fun e => by have := hrow Bx e.symm; omega)).trans hbx7) (fun W => hcall x y W)
  rintro e w8 ⟨v, rfl, hB8, hK8, a8, c8, rfl, hO8⟩
  have hK8s := hK8.1
  refine ⟨⟨hB8, fun b hb => hK8.2 b (h7.lt b hb) (fun e => by simp at hb; subst hb; have := hrow b e.symm; omega)⟩, _, rfl, ?_⟩
  have hbf8 := (hK8.2 Bf (lt_cellsM hbf7) (fun e => by have := hrow Bf e.symm; omega)).trans hbf7
  have hcl := Zs.come_len (f x) m ou
  generalize Zs.come (f x) ou m = R at *
  obtain ⟨ro, re⟩ := R
  simp only at heq hcl hO8
  refine Branch.mk (fun hc2 => ?_) (fun hc2 => ?_)
  ·have h9 : re ≠ 0 := by simpa using hc2
   rw [if_neg h9] at heq
   rw [heq]
   exact EndI.mk fun w9 h9 => ⟨_, _, rfl, Own.nil⟩
  ·have h9 : re = 0 := by simpa using hc2
   rw [if_pos h9] at heq
   have hw8 : Below w.heap.size w w8 := hw7.trans hB8
   refine Need.mk (by simp only [inK]; omega) (EndI.mk fun w9 h10 => ?_)
   have g9 := at_belowM h10 (by simp)
   exact ⟨(k + 1, w9, .slice a8 ro.length c8, ro), Cov.au rfl rfl rfl rfl rfl, rfl, ⟨hlt, h10.below, by have := g9.size; simp only; omega, (g9.block Bf (lt_cellsM hbf8)).trans hbf8, (hO8.lower (by omega)).below g9, hcl h9, heq⟩, by simp only; omega⟩
 ·have hge : k = l.length := by have : ¬ k < l.length := by simpa using hc
                                omega
  subst hge
  rw [List.drop_length] at heq
  change Zs.pairGo f m [] l = (ou, 0) at heq
  rw [heq]
  obtain ⟨at_, ct, rfl⟩ := hOU.form
  exact EndI.mk fun w9 h9 => ⟨_, _, rfl, (hOU.below (at_belowM h9 (by simp))).lower (by have := hv3.size; omega)⟩
theorem zsand_any (l m : List Zn) (a b : Option Addr) (ca cb : Nat) (w : World) (hS : Sl w.heap.size w (.slice a l.length ca) l) (hT : Sl w.heap.size w (.slice b m.length cb) m) :
 Calls Tryz.prog 65 #[.slice a l.length ca, .slice b m.length cb] w (Ret w fun v w' => ∃ a' c', v = .tuple #[.slice a' (Zs.and l m).1.length c', .int .i64 (Zs.and l m).2] ∧ Own TZ w.heap.size w' (.slice a' (Zs.and l m).1.length c') (Zs.and l m).1) := by
 refine fun_ret 0 w Tryz.func65 (args := [.val (.slice a l.length ca), .val (.slice b m.length cb)]) rfl rfl ?_
 apply CallI.use
 focus (exact fun w2 h2 => paired_any Zo.meet 107 Tryz.call107 (fun x y W => zmeet_any x y W) l m a b ca cb w2 (hS.go h2.below h2.below.size) (hT.go h2.below h2.below.size))
 rintro v w2 v2 h2 hB2 ⟨a2, c2, rfl, hO2⟩
 exact EndI.mk fun w9 h9 => ⟨a2, c2, rfl, (hO2.lower h2.below.size).below (at_belowM h9 (by simp))⟩
theorem zscomp_any (l m : List Zn) (a b : Option Addr) (ca cb : Nat) (w : World) (hS : Sl w.heap.size w (.slice a l.length ca) l) (hT : Sl w.heap.size w (.slice b m.length cb) m) :
 Calls Tryz.prog 67 #[.slice a l.length ca, .slice b m.length cb] w (Ret w fun v w' => ∃ a' c', v = .tuple #[.slice a' (Zs.comp l m).1.length c', .int .i64 (Zs.comp l m).2] ∧ Own TZ w.heap.size w' (.slice a' (Zs.comp l m).1.length c') (Zs.comp l m).1) := by
 refine fun_ret 0 w Tryz.func67 (args := [.val (.slice a l.length ca), .val (.slice b m.length cb)]) rfl rfl ?_
 apply CallI.use
 focus (exact fun w2 h2 => paired_any Cmp.comp 108 Tryz.call108 (fun x y W => ccomp_any x y W) l m a b ca cb w2 (hS.go h2.below h2.below.size) (hT.go h2.below h2.below.size))
 rintro v w2 v2 h2 hB2 ⟨a2, c2, rfl, hO2⟩
 exact EndI.mk fun w9 h9 => ⟨a2, c2, rfl, (hO2.lower h2.below.size).below (at_belowM h9 (by simp))⟩
theorem zsor_any (l m : List Zn) (a b : Option Addr) (ca cb : Nat) (w : World) (hS : Sl w.heap.size w (.slice a l.length ca) l) (hT : Sl w.heap.size w (.slice b m.length cb) m) :
 Calls Tryz.prog 43 #[.slice a l.length ca, .slice b m.length cb] w (Ret w fun v w' => ∃ a' c', v = .tuple #[.slice a' (Zs.or l m).1.length c', .int .i64 (Zs.or l m).2] ∧ Own TZ w.heap.size w' (.slice a' (Zs.or l m).1.length c') (Zs.or l m).1) := by
 refine fun_ret 0 w Tryz.func43 (args := [.val (.slice a l.length ca), .val (.slice b m.length cb)]) rfl rfl ?_
 refine NewI.mk fun b1 hb1 => ?_
 apply CallI.use1
 ·exact fun w3 h3 => zschecked_any [⟨a, l.length, ca⟩, ⟨b, m.length, cb⟩] [l, m] (by simp) _ _ w3 (shown_two (hS.go h3.below h3.below.size) rfl (hT.go h3.below h3.below.size) rfl) (Sl.own (l := [(⟨a, l.length, ca⟩ : Svl), ⟨b, m.length, cb⟩]) h3 0 rfl rfl rfl (Nat.le_refl _) (by simp [maxLen]))
 intro w3 v3 h3 hB3
 unfold Zs.or
 refine Branch.mk (fun hc => ?_) (fun hc => ?_)
 ·have h0 : Cv.checked [l, m] ≠ 0 := by simpa using hc
  rw [if_neg h0]
  exact EndI.mk fun w9 h9 => ⟨_, _, rfl, Own.nil⟩
 have h0 : Cv.checked [l, m] = 0 := by simpa using hc
 rw [if_pos h0]
 obtain ⟨hl4, hm4⟩ := Zs.checked_len h0
 refine NewI.mk fun b2 hb2 => ?_
 have hfl : ([l, m] : List (List Zn)).flatten = l ++ m := by simp
 have hcc := fun (w : World) (a' : Option Addr) (c' : Nat) h1 h2 => concat_any [⟨a, l.length, ca⟩, ⟨b, m.length, cb⟩] [l, m] (by rw [hfl, List.length_append]; omega) a' c' w h1 h2
 rw [hfl] at hcc
 apply CallI.use
 ·exact fun w4 h4 => hcc w4 _ _ (shown_two (hS.go h4.below h4.below.size) rfl (hT.go h4.below h4.below.size) rfl) (Sl.own (l := [(⟨a, l.length, ca⟩ : Svl), ⟨b, m.length, cb⟩]) h4 1 rfl rfl rfl (Nat.le_refl _) (by simp [maxLen]))
 rintro v w4 v4 h4 hB4 ⟨a4, c4, rfl, hO4⟩
 apply CallI.use
 focus (exact fun w5 h5 => zsof_any (l ++ m) a4 c4 w5 (hO4.below (at_belowM h5 (by simp <;> omega))).sl)
 rintro v w5 v5 h5 hB5 ⟨a5, c5, rfl, hO5⟩
 exact EndI.mk fun w9 h9 => ⟨a5, c5, rfl, (hO5.lower h5.below.size).below (at_belowM h9 (by simp <;> omega))⟩
namespace Wn
def less (z : Zn) (i : Nat) (x : Int) : Zn := Zo.set z i (min (Zo.get z i) x)
def with2 (z : Zn) (i : Nat) (x : Int) (j : Nat) (y : Int) : Zn × Int :=
 if (Zo.mat (less (less z i x) j y)).2.2 = 0 then Zo.of (Zo.mat (less (less z i x) j y)).1 (Zo.mat (less (less z i x) j y)).2.1 else (Zo.nought, (Zo.mat (less (less z i x) j y)).2.2)
end Wn
theorem wwith45_any (z : Zn) (x y : Int) (la : Option Addr) (lc : Nat) (w : World) (hS : Sl w.heap.size w (.slice la 2 lc) [(⟨4, x⟩ : Rt), ⟨5, y⟩]) :
 Calls Tryz.prog 161 #[.agg #[.int .i64 z.a, .int .i64 z.b, .int .i64 z.c, .int .i64 z.d, .int .i64 z.e, .int .i64 z.f], .slice la 2 lc] w fun e w' => e = .returned (.tuple #[.agg #[.int .i64 (Wn.with2 z 4 x 5 y).1.a, .int .i64 (Wn.with2 z 4 x 5 y).1.b, .int .i64 (Wn.with2 z 4 x 5 y).1.c, .int .i64 (Wn.with2 z 4 x 5 y).1.d, .int .i64 (Wn.with2 z 4 x 5 y).1.e, .int .i64 (Wn.with2 z 4 x 5 y).1.f], .int .i64 (Wn.with2 z 4 x 5 y).2]) ∧ Below w.heap.size w w' := by
 refine fun_eq 0 w Tryz.func161 (args := [.agg [.val (.int .i64 z.a), .val (.int .i64 z.b), .val (.int .i64 z.c), .val (.int .i64 z.d), .val (.int .i64 z.e), .val (.int .i64 z.f)], .val (.slice la 2 lc)]) rfl rfl ?_
 obtain ⟨a, b, c, d, e, f⟩ := z
 refine NewI.mk fun b1 hb1 => ?_
 refine NewI.mk fun b2 hb2 => ?_
 refine LoopI.rounds 3 ?_
 refine Branch.yes rfl ?_
 refine hS.idx (k := 0) rfl fun ad had => ?_
 refine hS.ld (k := 0) rfl had (Below.refl _ _) (by simp <;> omega) ?_
 refine NewI.mk fun b3 hb3 => ?_
 refine DrawI.wr (.tk 0 (.tk 1 (.tk 2 (.tk 3 (.tk 4 (.tk 6 (.tk 7 (.ev 5 (.tk 8 (.tk 9 (.ev 10 .done))))))))))) [0] [] (by kernel_rfl) rfl (by simp) fun w3 h3 => ?_
 refine Need.mk (by simp only; omega) ?_
 refine Need.mk (by simp only; omega) ?_
 refine Need.mk (by simp only [inK]; omega) ?_
 refine Branch.yes rfl ?_
 refine hS.idx (k := 1) rfl fun ad2 had2 => ?_
 have hb1' : w.heap.size ≤ b1 := hb1
 have hb3' : w.heap.size ≤ b3 := hb3
 refine hS.ld (k := 1) rfl had2 h3.below (fun b hb => by simp at hb; omega) ?_
 refine NewI.mk fun b4 hb4 => ?_
 refine DrawI.wr (.tk 0 (.tk 1 (.tk 2 (.tk 3 (.tk 4 (.tk 6 (.tk 7 (.ev 5 (.tk 8 (.tk 9 (.ev 10 .done))))))))))) [0] [] (by kernel_rfl) rfl (by simp) fun w4 h4 => ?_
 refine Need.mk (by simp only; omega) ?_
 refine Need.mk (by simp only; omega) ?_
 refine Need.mk (by simp only [inK]; omega) ?_
 refine Branch.no rfl ?_
 conv => whnf
 simp only
 rw [show ∀ p q : Int, minL p [q] = min p q from fun p q => by simp [minL]; omega, show ∀ p q : Int, minL p [q] = min p q from fun p q => by simp [minL]; omega]
 apply CallI.use
 focus (exact fun w5 h5 => zMatrixF_any (⟨a, b, c, d, min e x, min f y⟩ : Zn) w5)
 rintro v w5 v5 h5 hB5 ⟨a5, q5, rfl, hF5⟩
 refine NewI.mk fun b5 hb5 => ?_
 have hwl : Wn.less (Wn.less ⟨a, b, c, d, e, f⟩ 4 x) 5 y = (⟨a, b, c, d, min e x, min f y⟩ : Zn) := rfl
 unfold Wn.with2
 rw [hwl]
 generalize Zo.mat (⟨a, b, c, d, min e x, min f y⟩ : Zn) = X at *
 obtain ⟨n, D, er⟩ := X
 simp only at hF5 ⊢
 refine Branch.mk (fun hc3 => ?_) (fun hc3 => ?_)
 ·have h9 : er ≠ 0 := by simpa using hc3
  rw [if_neg h9]
  exact EndI.mk fun w9 h9 => rfl
 ·have h9 : er = 0 := by simpa using hc3
  rw [if_pos h9]
  apply CallI.use1
  focus (exact fun w12 h12 => zof_any n a5 q5 D w12 ((hF5.sl).go (at_belowM h12 (by simp <;> omega)) h12.size))
  intro w12 v12 h12 hB12
  exact EndI.mk fun w9 h9 => rfl
namespace Wn
def fits (n : Int) : Bool := decide (-288230376151711744 ≤ n) && decide (n ≤ 288230376151711744)
def within (z : Zn) (s : Sp) : Zn × Int :=
 if Zo.chk z = 0 then (if (Zo.btw s).2.2 = 0 then with2 z 4 ((Zo.btw s).2.1[2]?.getD 0) 5 ((Zo.btw s).2.1[1]?.getD 0) else (Zo.nought, (Zo.btw s).2.2)) else (Zo.nought, Zo.chk z)
end Wn
theorem wwithin_any (z : Zn) (s : Sp) (hs : s.ins) (w : World) :
 Calls Tryz.prog 111 #[.agg #[.int .i64 z.a, .int .i64 z.b, .int .i64 z.c, .int .i64 z.d, .int .i64 z.e, .int .i64 z.f], .agg #[.int .i64 s.lo, .bool s.ls, .int .i64 s.hi, .bool s.hs, .bool s.op]] w fun e w' => e = .returned (.tuple #[.agg #[.int .i64 (Wn.within z s).1.a, .int .i64 (Wn.within z s).1.b, .int .i64 (Wn.within z s).1.c, .int .i64 (Wn.within z s).1.d, .int .i64 (Wn.within z s).1.e, .int .i64 (Wn.within z s).1.f], .int .i64 (Wn.within z s).2]) ∧ Below w.heap.size w w' := by
 refine fun_eq 0 w Tryz.func111 (args := [.agg [.val (.int .i64 z.a), .val (.int .i64 z.b), .val (.int .i64 z.c), .val (.int .i64 z.d), .val (.int .i64 z.e), .val (.int .i64 z.f)], .agg [.val (.int .i64 s.lo), .val (.bool s.ls), .val (.int .i64 s.hi), .val (.bool s.hs), .val (.bool s.op)]]) rfl rfl ?_
 have st := Stay.first (w := w)
 refine NewI.mk fun b1 hb1 => ?_
 refine NewI.mk fun b2 hb2 => ?_
 refine NewI.mk fun b3 hb3 => ?_
 unfold Wn.within
 apply CallI.use1
 focus (exact fun w1 h1 => zcheck_any z w1)
 intro w1 v1 h1 hB1
 have st := st.nx h1 hB1
 refine Branch.mk (fun hc => ?_) (fun hc => ?_)
 ·have h0 : ¬ Zo.chk z = 0 := by simpa using hc
  rw [if_neg h0]
  exact EndI.mk fun w9 h9 => rfl
 have h0 : Zo.chk z = 0 := by simpa using hc
 rw [if_pos h0]
 have htop2 := fun w => top_any 2 w
 rw [Zo.top2] at htop2
 apply CallI.use
 focus (exact fun w2 h2 => htop2 w2)
 rintro v w2 v2 h2 hB2 ⟨a2, q2, rfl, hO2⟩
 have st := st.nx h2 hB2
 refine NewI.mk fun b4 hb4 => ?_
 apply CallI.use
 focus (exact fun w3 h3 => btw_any s hs a2 q2 w3 ((hO2.st (st.at h3)).sl))
 rintro v w3 v3 h3 hB3 ⟨a3, q3, rfl, hF3⟩
 have st := st.nx h3 hB3
 have hcases := Zo.btw_cases s
 generalize Zo.btw s = X at *
 obtain ⟨n, D, er⟩ := X
 simp only at hF3 hcases ⊢
 refine NewI.mk fun b5 hb5 => ?_
 refine Branch.mk (fun hc3 => ?_) (fun hc3 => ?_)
 ·have h9 : er ≠ 0 := by simpa using hc3
  rw [if_neg h9]
  exact EndI.mk fun w9 h9 => rfl
 have h9 : er = 0 := by simpa using hc3
 rw [if_pos h9]
 have hD4 : D.length = 4 := by omega
 obtain ⟨g3, rfl, hq1, hq2, hg3, hR3⟩ := hF3.row4 hD4
 have adk : ∀ j : Nat, (⟨g3, 0, none⟩ : Addr).add ((j : Int).toNat * 1) = ⟨g3, j, none⟩ := fun j => by simp [addr_addL]
 have hg3l := hR3.lt
 have hb3w : b3 < w3.heap.size := h3.lt b3 (by simp)
 have hb5' : v3.heap.size ≤ b5 := hb5
 refine DrawI.wr (.tk 0 (.tk 1 (.tk 2 (.tk 3 (.tk 4 (.tk 5 (.tk 6 (.tk 7 (.tk 8 (.tk 9 (.tk 10 (.ev 11 (.ev 12 (.tk 13 (.tk 14 (.ev 15 (.tk 16 .done))))))))))))))))) [2] [] (by kernel_rfl) rfl (by simp) fun w6 h6 => ?_
 have hR6 := hR3.at h6 (by simp <;> omega)
 refine IdxI.mk ⟨_, ⟨rfl, by omega, by omega⟩, ?_⟩
 refine LoadI.mk ⟨_, ⟨hR6.cell (j := 2) (by omega), by simp [locs, Addr.add]; omega⟩, ?_⟩
 refine IdxI.mk ⟨_, ⟨rfl, by omega, by omega⟩, ?_⟩
 refine LoadI.mk ⟨_, ⟨hR6.cell (j := 1) (by omega), by simp [locs, Addr.add]; omega⟩, ?_⟩
 refine NewI.mk fun b7 hb7 => ?_
 apply CallI.use1
 focus (exact fun w8 h8 => wwith45_any z (D[2]?.getD 0) (D[1]?.getD 0) _ _ w8 (Sl.own (l := [(⟨4, D[2]?.getD 0⟩ : Rt), ⟨5, D[1]?.getD 0⟩]) h8 5 rfl rfl rfl (Nat.le_refl _) (by simp [maxLen])))
 intro w8 v8 h8 hB8
 exact EndI.mk fun w9 h9 => rfl
end Go.Proofs.YtanhnllkccldhaaGreat
namespace Go.Proofs.YtanhnllkccldhaaGreat
set_option linter.unusedVariables false
set_option linter.unusedSimpArgs false
open Go.RowKit Go.Proofs.YtanhnllkccldhaaGreat.Eng Enc
namespace Cv
open Mi Zo
def misses (b : List Zn) (z : Zn) : Bool := decide ((in_ z b).2 ≠ 0) || !(in_ z b).1
def allGo (b : List Zn) : List Zn → Bool × Int
 | [] => (true, 0)
 | z :: a => if misses b z = true then (false, (in_ z b).2) else allGo b a
def all_ (a b : List Zn) : Bool × Int := if checked [a, b] ≠ 0 then (false, checked [a, b]) else allGo b a
def told (b l : List Zn) : Nat → Int
 | 0 => 0
 | k + 1 => match l[k]? with | some z => (in_ z b).2 | none => 0
theorem allGo_eq (b : List Zn) : ∀ l, allGo b l = (!(l.any (misses b)), told b l (cntF (misses b) l))
 | [] => rfl
 | z :: a => by
   rw [allGo, List.any_cons, cntF]
   by_cases hm : misses b z = true
   ·rw [if_pos hm, if_pos hm, hm]; rfl
   ·rw [if_neg hm, if_neg hm, allGo_eq b a]
    have hm' : misses b z = false := by simpa using hm
    rw [hm', Bool.false_or]
    congr 1
    have he : (in_ z b).2 = 0 := by unfold misses at hm'; simp at hm'; exact hm'.1
    cases hc : cntF (misses b) a with
    | zero => simp [told, he]
    | succ k => simp [told]
theorem has_err {z : Zn} {p : Pt} (h : (Zo.has z p).2 = 0) : Zo.chk z = 0 ∧ p.t.ok = true ∧ p.u.ok = true := by
 unfold Zo.has at h
 by_cases h1 : Zo.chk z = 0 ∧ p.t.ok = true ∧ p.u.ok = true
 ·exact h1
 ·rw [if_neg h1] at h; cases h
structure PrunesLaw (l : List Zn) (p : Pt) : Prop where
 among : (Cv.among l p).2 = true → (Cv.among (prune l).1 p).2 = true → (Cv.among l p).1 = (Cv.among (prune l).1 p).1
 order : ∀ i x y, (prune l).1[i]? = some x → (prune l).1[i + 1]? = some y → Zo.cmp x y < 0
 bare : ∀ i z, (prune l).1[i]? = some z → (in_ z ((prune l).1.take i ++ (prune l).1.drop (i + 1))).2 = 0 → (in_ z ((prune l).1.take i ++ (prune l).1.drop (i + 1))).1 = false
 all : (all_ l (prune l).1).2 = 0 → (all_ l (prune l).1).1 = true
 again : (prune (prune l).1).2 = 0 → (prune (prune l).1).1 = (prune l).1
end Cv
end Go.Proofs.YtanhnllkccldhaaGreat
namespace Go.Proofs.YtanhnllkccldhaaGreat
set_option linter.unusedVariables false
set_option linter.unusedSimpArgs false
set_option maxRecDepth 100000
open Go.RowKit Go.Proofs.YtanhnllkccldhaaGreat.Eng Enc
structure Cv.AllAt (Bb Be : Nat) (sv : Value) (b : List Zn) (e : Int) (W : World) : Prop where
 hb : W.heap[Bb]? = some (.cells #[sv] 22 (0, 0))
 he : W.heap[Be]? = some (.cells #[.int .i64 e] 28 (0, 0))
 sl : Sl W.heap.size W sv b
theorem cell_one {W : World} {B : Nat} {v : Value} {t : TypeId} (h : W.heap[B]? = some (.cells #[v] t (0, 0))) : W.cell? ⟨B, 0, none⟩ = some v := by simp [World.cell?, h]
theorem lt_of_cells {W : World} {B : Nat} {o : Obj} (h : W.heap[B]? = some o) : B < W.heap.size := (Array.getElem?_eq_some_iff.1 h).1
theorem setCell_one {W : World} {B : Nat} {v u : Value} {t : TypeId} (h : W.heap[B]? = some (.cells #[v] t (0, 0))) : (W.setCell ⟨B, 0, none⟩ u).heap[B]? = some (.cells #[u] t (0, 0)) := by
 simp [World.setCell, Array.getElem?_modify, h, Go.Sort.onCells]
theorem setCell_ne {W : World} {B k : Nat} {u : Value} (h : k ≠ B) : (W.setCell ⟨B, 0, none⟩ u).heap[k]? = W.heap[k]? := Below.heap_setCell _ _ _ _ (by simpa using h)
theorem below_setCell' {n : Nat} {W X : World} {B : Nat} {u : Value} (h : Below n W X) (hB : n ≤ B) : Below n W (X.setCell ⟨B, 0, none⟩ u) :=
 ⟨h.os, h.tape, h.output, by simpa [World.setCell] using h.size, fun k hk => (setCell_ne (by omega)).trans (h.block k hk)⟩
section
variable {Bb Be : Nat} {sv : Value} {b : List Zn} {e : Int} {W X : World}
theorem Cv.AllAt.go (h : Cv.AllAt Bb Be sv b e W) (hB : Below W.heap.size W X) : Cv.AllAt Bb Be sv b e X :=
 ⟨(hB.block _ (lt_of_cells h.hb)).trans h.hb, (hB.block _ (lt_of_cells h.he)).trans h.he, h.sl.go hB hB.size⟩
end
theorem misses_any (z : Zn) (b : List Zn) (a : Option Addr) (cap : Nat) (e : Int) (Bb Be B : Nat) (hne : Bb ≠ Be) (w : World) (hB : B ≤ w.heap.size) (hBe : B ≤ Be) (h : Cv.AllAt Bb Be (.slice a b.length cap) b e w) (hsl : Sl B w (.slice a b.length cap) b) :
 Calls Tryz.prog 178 #[.agg #[.int .i64 z.a, .int .i64 z.b, .int .i64 z.c, .int .i64 z.d, .int .i64 z.e, .int .i64 z.f], .pointer (some ⟨Bb, 0, none⟩), .pointer (some ⟨Be, 0, none⟩)] w fun x w' => ∃ v, x = .returned v ∧ Below B w w' ∧ v = .bool (Cv.misses b z) ∧ Cv.AllAt Bb Be (.slice a b.length cap) b (Cv.in_ z b).2 w' := by
 refine fun_at 0 B w hB Tryz.func178 (args := [.agg [.val (.int .i64 z.a), .val (.int .i64 z.b), .val (.int .i64 z.c), .val (.int .i64 z.d), .val (.int .i64 z.e), .val (.int .i64 z.f)], .val (.pointer (some ⟨Bb, 0, none⟩)), .val (.pointer (some ⟨Be, 0, none⟩))]) rfl rfl ?_
 refine NewI.mk fun b1 hb1 => ?_
 refine ⟨⟨_, ⟨cell_one h.hb, by simp⟩, ?_⟩⟩
 apply CallI.use1
 focus (exact fun w1 h1 => cin_any z b a cap w1 (h.go (at_below h1 (by simp))).sl)
 intro w1 v1 h1 hB1
 have g1 := (h.go (at_below h1 (by simp))).go hB1
 have b1' : Below B w v1 := h1.below.trans (hB1.mono (Nat.le_trans hB h1.below.size))
 have hlt := h1.lt b1 (by simp)
 have hbe : Be < w.heap.size := lt_of_cells h.he
 refine ⟨fun w2 h2 => ?_⟩
 have g2 := g1.go (at_below h2 (by simp))
 have b2 : Below B w w2 := b1'.trans ((at_below h2 (by simp)).mono (Nat.le_trans hB (Nat.le_trans h1.size hB1.size)))
 refine ⟨⟨⟨_, cell_one g2.he⟩, by simp [World.frozen?, g2.he]⟩, ⟨below_setCell' (Below.refl _ _) hBe, fun k hk => setCell_ne (by have hb1' : w.heap.size ≤ b1 := hb1; simp at hk; omega)⟩, ?_⟩
 have b3 : Below B w (w2.setCell ⟨Be, 0, none⟩ (.int .i64 (Cv.in_ z b).2)) := below_setCell' b2 hBe
 have g3 : Cv.AllAt Bb Be (.slice a b.length cap) b (Cv.in_ z b).2 (w2.setCell ⟨Be, 0, none⟩ (.int .i64 (Cv.in_ z b).2)) := ⟨(setCell_ne hne).trans g2.hb, setCell_one g2.he, hsl.go b3 (Nat.le_trans hB b3.size)⟩
 have end_ : ∀ w9, At ⟨w, B, hB⟩ [⟨[.val (.int .i64 z.a), .val (.int .i64 z.b), .val (.int .i64 z.c), .val (.int .i64 z.d), .val (.int .i64 z.e), .val (.int .i64 z.f)], 86⟩] [b1] [] (w2.setCell ⟨Be, 0, none⟩ (.int .i64 (Cv.in_ z b).2)) w9 → Cv.AllAt Bb Be (.slice a b.length cap) b (Cv.in_ z b).2 w9 := fun w9 h9 => g3.go (at_below h9 (by simp))
 unfold Cv.misses
 refine Branch.mk (fun hc => ?_) (fun hc => ?_)
 ·refine EndI.mk fun w9 h9 => ⟨?_, end_ w9 h9⟩
  rw [hc]; rfl
 ·refine EndI.mk fun w9 h9 => ⟨?_, end_ w9 h9⟩
  rw [hc]; rfl
theorem all_any (l b : List Zn) (a : Option Addr) (cap : Nat) (c : Option Addr) (cc : Nat) (w : World) (hS : Sl w.heap.size w (.slice a l.length cap) l) (hT : Sl w.heap.size w (.slice c b.length cc) b) :
 Calls Tryz.prog 135 #[.slice a l.length cap, .slice c b.length cc] w fun e w' => e = .returned (.tuple #[.bool (Cv.all_ l b).1, .int .i64 (Cv.all_ l b).2]) ∧ Below w.heap.size w w' := by
 refine fun_eq 0 w Tryz.func135 (args := [.val (.slice a l.length cap), .val (.slice c b.length cc)]) rfl rfl ?_
 refine NewI.frn fun w1 h1 => ?_
 have hbox : (w1.alloc (.cells #[.slice c b.length cc] 22)).heap[w1.heap.size]? = some (.cells #[.slice c b.length cc] 22 (0, 0)) := World.alloc_heap_new w1 _
 have hw1 : Below w.heap.size w (w1.alloc (.cells #[.slice c b.length cc] 22)) := h1.below.alloc h1.below.size _
 have hwB : w.heap.size ≤ w1.heap.size := h1.below.size
 generalize hgB : w1.heap.size = Bb at hbox hwB
 generalize w1.alloc (.cells #[.slice c b.length cc] 22) = w2 at hbox hw1
 refine ⟨⟨_, ⟨cell_one hbox, by simp⟩, ?_⟩⟩
 refine NewI.mk fun b2 hb2 => ?_
 have hBb2 : Bb < w2.heap.size := lt_of_cells hbox
 have hb2' : w2.heap.size ≤ b2 := hb2
 apply CallI.use1
 ·exact fun w3 h3 => checked_any [⟨a, l.length, cap⟩, ⟨c, b.length, cc⟩] [l, b] _ _ w3 (shown_two (hS.go h3.below h3.below.size) rfl (hT.go h3.below h3.below.size) rfl) (Sl.own (l := [(⟨a, l.length, cap⟩ : Svl), ⟨c, b.length, cc⟩]) h3 0 rfl rfl rfl (Nat.le_refl _) (by simp [maxLen]))
 intro w3 v3 h3 hB3
 have hv3 : Below w.heap.size w v3 := h3.below.trans (hB3.mono h3.below.size)
 have hbox3 : v3.heap[Bb]? = some (.cells #[.slice c b.length cc] 22 (0, 0)) := (hB3.block _ (Nat.lt_of_lt_of_le hBb2 h3.size)).trans (((at_below h3 (by simp)).block _ hBb2).trans hbox)
 have hlt2 := h3.lt b2 (by simp)
 unfold Cv.all_
 refine Branch.mk (fun hc => ?_) (fun hc => ?_)
 ·have h0 : Cv.checked [l, b] ≠ 0 := by simpa using hc
  rw [if_pos h0]
  exact EndI.mk fun w9 h9 => rfl
 have h0 : Cv.checked [l, b] = 0 := by simpa using hc
 rw [if_neg (by simp [h0]), Cv.allGo_eq]
 refine NewI.frn fun w4 h4 => ?_
 have g4 : Below v3.heap.size v3 w4 := at_below h4 (by simp)
 have hw4 : Below w.heap.size w w4 := h4.below
 have hboxe : (w4.alloc (.cells #[.int .i64 0] 28)).heap[w4.heap.size]? = some (.cells #[.int .i64 0] 28 (0, 0)) := World.alloc_heap_new w4 _
 have hw5 : Below w.heap.size w (w4.alloc (.cells #[.int .i64 0] 28)) := hw4.alloc hw4.size _
 have hbox5 : (w4.alloc (.cells #[.int .i64 0] 28)).heap[Bb]? = some (.cells #[.slice c b.length cc] 22 (0, 0)) :=
  (Below.heap_alloc w4 _ _ (Nat.lt_of_lt_of_le (lt_of_cells hbox3) g4.size)).trans ((g4.block _ (lt_of_cells hbox3)).trans hbox3)
 have hne : Bb ≠ w4.heap.size := by have := lt_of_cells hbox3; have := g4.size; omega
 have hwe : w.heap.size ≤ w4.heap.size := hw4.size
 have hb2e : b2 < w4.heap.size := h4.lt b2 (by simp)
 generalize w4.alloc (.cells #[.int .i64 0] 28) = w5 at hboxe hw5 hbox5
 generalize w4.heap.size = Be at hboxe hne hwe hb2e
 have all5 : Cv.AllAt Bb Be (.slice c b.length cc) b 0 w5 := ⟨hbox5, hboxe, hT.go hw5 hw5.size⟩
 refine CallI.mk fun w6 h6 => ?_
 have g6 : Below w5.heap.size w5 w6 := at_below h6 (by simp)
 have hw6 := hw5.trans (g6.mono hw5.size)
 refine (containsZ_any l (Cv.misses b) a cap 178 #[.pointer (some ⟨Bb, 0, none⟩), .pointer (some ⟨Be, 0, none⟩)] Be w6 (Nat.le_trans (Nat.le_of_lt (lt_of_cells hboxe)) g6.size) ((hS.below hw6).upto hwe) (fun k W => Cv.AllAt Bb Be (.slice c b.length cc) b (Cv.told b l k) W) (all5.go g6) (fun k W W' h hb => h.go hb) Tryz.call178 (fun k x W hx hW h => ?_)).mono ?_
 ·refine (misses_any x b c cc (Cv.told b l k) Bb Be Be hne W (Nat.le_trans (Nat.le_trans (Nat.le_of_lt (lt_of_cells hboxe)) g6.size) hW.size) (Nat.le_refl _) h ((hT.below (hw6.trans (hW.mono hwe))).upto hwe)).mono ?_
  rintro e W' ⟨v, rfl, hB', rfl, h'⟩
  refine ⟨rfl, hB', ?_⟩
  have : Cv.told b l (k + 1) = (Cv.in_ x b).2 := by simp [Cv.told, hx]
  rw [this]; exact h'
 rintro e w7 ⟨v, rfl, hB7, rfl, h7⟩
 refine ⟨⟨hB7.mono hwe, fun k hk => hB7.block k (by simp at hk; omega)⟩, _, rfl, ?_⟩
 refine DrawI.go (.tk 0 (.tk 1 (.tk 2 (.tk 3 .done)))) (by kernel_rfl) fun w8 h8 => ?_
 have g8 := h7.go (at_below h8 (by simp))
 refine ⟨⟨_, ⟨cell_one g8.he, by simp⟩, ?_⟩⟩
 exact EndI.mk fun w9 h9 => rfl
namespace Zs
def free : Zn := ⟨9223372036854775807, 9223372036854775807, 9223372036854775807, 9223372036854775807, 9223372036854775807, 9223372036854775807⟩
theorem free_of : Zo.of 3 (Dbm.topL 3) = (free, 0) := by decide +kernel
def each (f : Zn → Zn × Int) (l : List Zn) : List Zn × Int :=
 if Cv.checked [l] = 0 then (if (f free).2 ≠ 0 ∧ (f free).2 ≠ 6 then ([], (f free).2) else come f [] l) else ([], Cv.checked [l])
def within (l : List Zn) (s : Sp) : List Zn × Int := each (fun z => Wn.within z s) l
theorem checked_len1 {l : List Zn} (h0 : Cv.checked [l] = 0) : l.length ≤ 4096 := (Cv.checked_one.1 h0).1
def same (a b : List Zn) : Bool × Int := if (Cv.all_ a b).2 = 0 ∧ (Cv.all_ a b).1 = true then Cv.all_ b a else (false, (Cv.all_ a b).2)
end Zs
theorem KeptBut.ofBelow {w W : World} (h : Below w.heap.size w W) (row : Option Nat) : KeptBut row w W := ⟨h.size, fun k hk _ => h.block k hk⟩
theorem KeptBut.none_trans {row : Option Nat} {w W X : World} (h : KeptBut none w W) (k : KeptBut none W X) : KeptBut row w X :=
 ⟨Nat.le_trans h.1 k.1, fun i hi _ => (k.2 i (Nat.lt_of_lt_of_le hi h.1) (by simp)).trans (h.2 i hi (by simp))⟩
theorem each_any (f : Zn → Zn × Int) (fid : FuncId) (caps : Array Value) (en : Enters Tryz.prog fid) (l : List Zn) (a : Option Addr) (cap : Nat) (w : World) (hS : Sl w.heap.size w (.slice a l.length cap) l)
 (hcall : ∀ x W, KeptBut none w W → Calls Tryz.prog fid (val x :: caps.toList).toArray W fun e W' => e = .returned (.tuple #[.agg #[.int .i64 (f x).1.a, .int .i64 (f x).1.b, .int .i64 (f x).1.c, .int .i64 (f x).1.d, .int .i64 (f x).1.e, .int .i64 (f x).1.f], .int .i64 (f x).2]) ∧ Below W.heap.size W W') :
 Calls Tryz.prog 109 #[.slice a l.length cap, .func (.func fid) #[] caps] w (Ret w fun v w' => ∃ a' c', v = .tuple #[.slice a' (Zs.each f l).1.length c', .int .i64 (Zs.each f l).2] ∧ Own TZ w.heap.size w' (.slice a' (Zs.each f l).1.length c') (Zs.each f l).1) := by
 refine fun_ret 0 w Tryz.func109 (args := [.val (.slice a l.length cap), .val (.func (.func fid) #[] caps)]) rfl rfl ?_
 have st := Stay.first (w := w)
 refine NewI.mk fun b1 hb1 => ?_
 apply CallI.use1
 focus (exact fun w1 h1 => zschecked_any [⟨a, l.length, cap⟩] [l] (by simp) _ _ w1 (shown_one (hS.st (st.at h1)) rfl) (Sl.own (l := [(⟨a, l.length, cap⟩ : Svl)]) h1 0 rfl rfl rfl (Nat.le_refl _) (by simp [maxLen])))
 intro w1 v1 h1 hB1
 have st := st.nx h1 hB1
 unfold Zs.each
 refine Branch.mk (fun hc => ?_) (fun hc => ?_)
 ·have h0 : Cv.checked [l] ≠ 0 := by simpa using hc
  rw [if_neg h0]
  exact EndI.mk fun w9 h9 => ⟨_, _, rfl, Own.nil⟩
 have h0 : Cv.checked [l] = 0 := by simpa using hc
 rw [if_pos h0]
 have htop := fun w => top_any 3 w
 rw [Zo.top3] at htop
 have hof := fun (w : World) a c h => zof_any 3 a c (Dbm.topL 3) w h
 rw [Zs.free_of] at hof
 apply CallI.use
 focus (exact fun w2 h2 => htop w2)
 rintro v w2 v2 h2 hB2 ⟨a2, c2, rfl, hO2⟩
 have st := st.nx h2 hB2
 refine NewI.mk fun b2 hb2 => ?_
 apply CallI.use1
 focus (exact fun w3 h3 => hof w3 a2 c2 ((hO2.st (st.at h3)).sl))
 intro w3 v3 h3 hB3
 have st := st.nx h3 hB3
 refine NewI.mk fun b3 hb3 => ?_
 refine Need.mk en ?_
 apply CallI.use1
 focus (exact fun w4 h4 => hcall Zs.free w4 (KeptBut.ofBelow h4.below none))
 intro w4 v4 h4 hB4
 refine NewI.mk fun b4 hb4 => ?_
 have hcm := fun (w7 : World) (hw7 : Below w.heap.size w w7) => come_any f fid caps en [] l (.slice none 0 0) a cap w.heap.size (by simp) (Zs.checked_len1 h0) w7 hw7.size Own.nil (hS.below hw7) (fun x W hx hK => hcall x W ((KeptBut.ofBelow hw7 none).none_trans hK))
 have fin : ∀ w7 : World, ∀ (hw7 : Below w.heap.size w w7), Calls Tryz.prog 154 #[.slice none 0 0, .slice a l.length cap, .func (.func fid) #[] caps] w7 (Ret w7 fun v w' => ∃ a' c', v = .tuple #[.slice a' (Zs.come f [] l).1.length c', .int .i64 (Zs.come f [] l).2] ∧ Own TZ w7.heap.size w' (.slice a' (Zs.come f [] l).1.length c') (Zs.come f [] l).1) := fun w7 hw7 =>
  (hcm w7 hw7).mono fun e w8 ⟨v, he, hB, hK, a8, c8, hv, hO⟩ => ⟨v, he, ⟨hB.os.trans rfl, hB.tape, hB.output, hB.size, fun k hk => hK.2 k hk (by simp [Value.ownBlock])⟩, a8, c8, hv, hO⟩
 refine Branch.mk (fun hc2 => ?_) (fun hc2 => ?_)
 ·have h1 : (f Zs.free).2 ≠ 0 := of_decide_eq_true hc2
  refine Branch.mk (fun hc3 => ?_) (fun hc3 => ?_)
  ·have h6 : (f Zs.free).2 ≠ 6 := by simpa using hc3
   rw [if_pos ⟨h1, h6⟩]
   exact EndI.mk fun w9 h9 => ⟨_, _, rfl, Own.nil⟩
  ·have h6 : (f Zs.free).2 = 6 := by simpa using hc3
   rw [if_neg (fun h => h.2 h6)]
   apply CallI.use
   focus (exact fun w7 h7 => fin w7 h7.below)
   rintro v w7 v7 h7 hB7 ⟨a8, c8, rfl, hO8⟩
   exact EndI.mk fun w9 h9 => ⟨a8, c8, rfl, (hO8.lower h7.below.size).below (at_belowM h9 (by simp <;> omega))⟩
 ·have h1 : (f Zs.free).2 = 0 := by simpa using hc2
  rw [if_neg (fun h => h.1 h1)]
  apply CallI.use
  focus (exact fun w7 h7 => fin w7 h7.below)
  rintro v w7 v7 h7 hB7 ⟨a8, c8, rfl, hO8⟩
  exact EndI.mk fun w9 h9 => ⟨a8, c8, rfl, (hO8.lower h7.below.size).below (at_belowM h9 (by simp <;> omega))⟩
theorem within1_any (z : Zn) (s : Sp) (hs : s.ins) (B : Nat) (w : World) (hbox : w.heap[B]? = some (.cells #[.int .i64 s.lo, .bool s.ls, .int .i64 s.hi, .bool s.hs, .bool s.op] 32 (0, 0))) :
 Calls Tryz.prog 110 #[.agg #[.int .i64 z.a, .int .i64 z.b, .int .i64 z.c, .int .i64 z.d, .int .i64 z.e, .int .i64 z.f], .pointer (some ⟨B, 0, none⟩)] w fun e w' => e = .returned (.tuple #[.agg #[.int .i64 (Wn.within z s).1.a, .int .i64 (Wn.within z s).1.b, .int .i64 (Wn.within z s).1.c, .int .i64 (Wn.within z s).1.d, .int .i64 (Wn.within z s).1.e, .int .i64 (Wn.within z s).1.f], .int .i64 (Wn.within z s).2]) ∧ Below w.heap.size w w' := by
 refine fun_eq 0 w Tryz.func110 (args := [.agg [.val (.int .i64 z.a), .val (.int .i64 z.b), .val (.int .i64 z.c), .val (.int .i64 z.d), .val (.int .i64 z.e), .val (.int .i64 z.f)], .val (.pointer (some ⟨B, 0, none⟩))]) rfl rfl ?_
 refine NewI.mk fun b1 hb1 => ?_
 refine NewI.mk fun b2 hb2 => ?_
 refine LoadA.mk ⟨[.int .i64 s.lo, .bool s.ls, .int .i64 s.hi, .bool s.hs, .bool s.op], ⟨rfl, by decide, by simp, cell_nM hbox⟩, ?_⟩
 apply CallI.use1
 focus (exact fun w2 h2 => wwithin_any z s hs w2)
 intro w2 v2 h2 hB2
 exact EndI.mk fun w9 h9 => rfl
theorem zswithin_any (l : List Zn) (s : Sp) (hs : s.ins) (a : Option Addr) (cap : Nat) (w : World) (hS : Sl w.heap.size w (.slice a l.length cap) l) :
 Calls Tryz.prog 69 #[.slice a l.length cap, .agg #[.int .i64 s.lo, .bool s.ls, .int .i64 s.hi, .bool s.hs, .bool s.op]] w (Ret w fun v w' => ∃ a' c', v = .tuple #[.slice a' (Zs.within l s).1.length c', .int .i64 (Zs.within l s).2] ∧ Own TZ w.heap.size w' (.slice a' (Zs.within l s).1.length c') (Zs.within l s).1) := by
 refine fun_ret 0 w Tryz.func69 (args := [.val (.slice a l.length cap), .agg [.val (.int .i64 s.lo), .val (.bool s.ls), .val (.int .i64 s.hi), .val (.bool s.hs), .val (.bool s.op)]]) rfl rfl ?_
 refine NewI.frn fun w1 h1 => ?_
 have hbox : (w1.alloc (.cells #[.int .i64 s.lo, .bool s.ls, .int .i64 s.hi, .bool s.hs, .bool s.op] 32)).heap[w1.heap.size]? = some (.cells #[.int .i64 s.lo, .bool s.ls, .int .i64 s.hi, .bool s.hs, .bool s.op] 32 (0, 0)) := World.alloc_heap_new w1 _
 apply CallI.use
 focus (exact fun w2 h2 => each_any (fun z => Wn.within z s) 110 #[.pointer (some ⟨w1.heap.size, 0, none⟩)] Tryz.call110 l a cap w2 (hS.go h2.below h2.below.size) (fun x W hK => within1_any x s hs w1.heap.size W ((hK.2 _ (Nat.lt_of_lt_of_le (lt_cellsM hbox) (at_belowM h2 (by simp)).size) (by simp)).trans (((at_belowM h2 (by simp)).block _ (lt_cellsM hbox)).trans hbox))))
 rintro v w2 v2 h2 hB2 ⟨a2, c2, rfl, hO2⟩
 exact EndI.mk fun w9 h9 => ⟨a2, c2, rfl, (hO2.lower h2.below.size).below (at_belowM h9 (by simp))⟩
theorem zsin_any (l m : List Zn) (a b : Option Addr) (ca cb : Nat) (w : World) (hS : Sl w.heap.size w (.slice a l.length ca) l) (hT : Sl w.heap.size w (.slice b m.length cb) m) :
 Calls Tryz.prog 93 #[.slice a l.length ca, .slice b m.length cb] w fun e w' => e = .returned (.tuple #[.bool (Cv.all_ l m).1, .int .i64 (Cv.all_ l m).2]) ∧ Below w.heap.size w w' := by
 refine fun_eq 0 w Tryz.func93 (args := [.val (.slice a l.length ca), .val (.slice b m.length cb)]) rfl rfl ?_
 apply CallI.use1
 focus (exact fun w2 h2 => all_any l m a ca b cb w2 (hS.go h2.below h2.below.size) (hT.go h2.below h2.below.size))
 intro w2 v2 h2 hB2
 exact EndI.mk fun w9 h9 => rfl
theorem equalZ_any (l m : List Zn) (a : Option Addr) (cap : Nat) (b : Option Addr) (cb : Nat) (w : World) (hS : Sl w.heap.size w (.slice a l.length cap) l) (hT : Sl w.heap.size w (.slice b m.length cb) m) :
 Calls Tryz.prog 133 #[.slice a l.length cap, .slice b m.length cb] w fun e w' => e = .returned (.bool (decide (l = m))) ∧ Below w.heap.size w w' := by
 refine fun_eq 0 w Tryz.func133 (args := [.val (.slice a l.length cap), .val (.slice b m.length cb)]) rfl rfl ?_
 obtain ⟨_, _, hfe, hcap1, hcap2, _⟩ := hS.form
 injection hfe with _ _ hfe
 subst hfe
 unfold maxLen at hcap2
 refine Branch.mk (fun hc => ?_) (fun hc => ?_)
 ·have hne : l.length ≠ m.length := by have := of_decide_eq_true hc; omega
  refine EndI.mk fun w9 h9 => ?_
  rw [decide_eq_false (fun e => hne (by rw [e]))]
 have hlm : l.length = m.length := by have := of_decide_eq_false hc; omega
 refine LoopI.invC (α := Nat × World) (fun y => [(13, .val (.int .i64 y.1))]) (fun y => y.2) (fun y => y.1 ≤ l.length ∧ Below w.heap.size w y.2 ∧ l.take y.1 = m.take y.1) (fun y => l.length - y.1) ?_ ?_
 ·intro w1 h1
  exact ⟨(0, w1), Cov.au rfl rfl rfl rfl rfl, rfl, Nat.zero_le _, h1.below, rfl⟩
 rintro ⟨k, V⟩ ⟨hk, hV, hall⟩
 simp only at hk hV hall
 refine Branch.mk (fun hc2 => ?_) (fun hc2 => ?_)
 ·have hlt : k < l.length := by have := of_decide_eq_true hc2; simp only at this; omega
  have hx := List.getElem?_eq_getElem (l := l) (i := k) hlt
  have hy := List.getElem?_eq_getElem (l := m) (i := k) (by omega)
  generalize l[k] = x at hx
  generalize m[k]'(by omega) = y at hy
  refine DrawI.go (.tk 0 (.tk 1 (.tk 2 (.tk 3 (.tk 4 (.tk 5 (.tk 6 (.tk 7 (.ev 8 .done))))))))) (by kernel_rfl) fun w4 h4 => ?_
  have hg4 : Below V.heap.size V w4 := h4.go
  have hw4 := hV.trans (hg4.mono hV.size)
  have hS4 := hS.go hw4 hw4.size
  have hT4 := hT.go hw4 hw4.size
  refine hS4.idx hx fun ad had => ?_
  refine hS4.ld hx had (Below.refl _ _) (by simp) ?_
  refine hT4.idx hy fun ad2 had2 => ?_
  refine hT4.ld hy had2 (Below.refl _ _) (by simp) ?_
  refine GenV.to (x := .bool (decide (x ≠ y))) (fun w => run_neq_znG _ _ x y w) fun w5 h5 => ?_
  refine Branch.mk (fun hc3 => ?_) (fun hc3 => ?_)
  ·have hne : x ≠ y := by simpa using hc3
   refine EndI.mk fun w9 h9 => ?_
   rw [decide_eq_false (fun e => hne (by rw [e, hy] at hx; injection hx with hx; exact hx.symm))]
  ·have he : x = y := by simpa using hc3
   refine Need.mk (by simp only [inK]; omega) (EndI.mk fun w9 h9 => ⟨(k + 1, w9), Cov.au rfl rfl rfl rfl rfl, rfl, ⟨hlt, h9.below, ?_⟩, by simp only; omega⟩)
   simp only
   rw [List.take_add_one, List.take_add_one, hall, hx, hy, he]
 ·have hge : k = l.length := by have := of_decide_eq_false hc2; simp only at this; omega
  subst hge
  rw [List.take_length, hlm, List.take_length] at hall
  refine EndI.mk fun w9 h9 => ?_
  rw [decide_eq_true hall]
namespace Zs
def check (l : List Zn) : Int := if (Cv.prune l).2 = 0 ∧ (Cv.prune l).1 = l then 0 else 8
def has (l : List Zn) (p : Pt) : Bool × Int :=
 if Cv.checked [l] = 0 then (if (Zo.has free p).2 = 0 then (l.any (fun z => decide ((Zo.has z p).2 = 0) && (Zo.has z p).1), 0) else (false, (Zo.has free p).2)) else (false, Cv.checked [l])
end Zs
theorem zscheck_any (l : List Zn) (a : Option Addr) (cap : Nat) (w : World) (hS : Sl w.heap.size w (.slice a l.length cap) l) :
 Calls Tryz.prog 89 #[.slice a l.length cap] w fun e w' => e = .returned (.int .i64 (Zs.check l)) ∧ Below w.heap.size w w' := by
 refine fun_eq 0 w Tryz.func89 (args := [.val (.slice a l.length cap)]) rfl rfl ?_
 apply CallI.use
 focus (exact fun w2 h2 => zsof_any l a cap w2 (hS.go h2.below h2.below.size))
 rintro v w2 v2 h2 hB2 ⟨a2, c2, rfl, hO2⟩
 unfold Zs.check
 generalize Cv.prune l = X at *
 obtain ⟨m, e⟩ := X
 simp only at hO2 ⊢
 refine Branch.mk (fun hc => ?_) (fun hc => ?_)
 ·have h1 : e ≠ 0 := by simpa using hc
  rw [if_neg (fun h => h1 h.1)]
  exact EndI.mk fun w9 h9 => rfl
 have h1 : e = 0 := by simpa using hc
 apply CallI.use1
 focus (exact fun w3 h3 => equalZ_any l m a cap a2 c2 w3 (hS.go h3.below h3.below.size) (hO2.below (at_belowM h3 (by simp))).sl)
 intro w3 v3 h3 hB3
 refine Branch.mk (fun hc2 => ?_) (fun hc2 => ?_)
 ·have h2 : ¬ l = m := by simpa using hc2
  rw [if_neg (fun h => h2 h.2.symm)]
  exact EndI.mk fun w9 h9 => rfl
 ·have h2 : l = m := by simpa using hc2
  rw [if_pos ⟨h1, h2.symm⟩]
  exact EndI.mk fun w9 h9 => rfl
theorem has1_any (z : Zn) (p : Pt) (hp : p.ins) (B : Nat) (w : World) (hbox : w.heap[B]? = some (.cells #[.int .i64 p.t.num, .int .i64 p.t.den, .int .i64 p.u.num, .int .i64 p.u.den] 38 (0, 0))) :
 Calls Tryz.prog 40 #[.agg #[.int .i64 z.a, .int .i64 z.b, .int .i64 z.c, .int .i64 z.d, .int .i64 z.e, .int .i64 z.f], .pointer (some ⟨B, 0, none⟩)] w fun e w' => e = .returned (.bool (decide ((Zo.has z p).2 = 0) && (Zo.has z p).1)) ∧ Below w.heap.size w w' := by
 refine fun_eq 0 w Tryz.func40 (args := [.agg [.val (.int .i64 z.a), .val (.int .i64 z.b), .val (.int .i64 z.c), .val (.int .i64 z.d), .val (.int .i64 z.e), .val (.int .i64 z.f)], .val (.pointer (some ⟨B, 0, none⟩))]) rfl rfl ?_
 refine NewI.mk fun b1 hb1 => ?_
 refine LoadA.mk ⟨[.int .i64 p.t.num, .int .i64 p.t.den, .int .i64 p.u.num, .int .i64 p.u.den], ⟨rfl, by decide, by simp, cell_nM hbox⟩, ?_⟩
 apply CallI.use
 focus (exact fun w2 h2 => zhas_any z p hp w2)
 rintro v w2 v2 h2 hB2 rfl
 generalize Zo.has z p = X at *
 obtain ⟨x, e⟩ := X
 refine Branch.mk (fun hc => ?_) (fun hc => ?_)
 ·have h1 : e = 0 := by simpa using hc
  exact EndI.mk fun w9 h9 => by simp [h1]
 ·have h1 : ¬ e = 0 := by simpa using hc
  exact EndI.mk fun w9 h9 => by simp [h1]
theorem zshas_any (l : List Zn) (p : Pt) (hp : p.ins) (a : Option Addr) (cap : Nat) (w : World) (hS : Sl w.heap.size w (.slice a l.length cap) l) :
 Calls Tryz.prog 12 #[.slice a l.length cap, .agg #[.int .i64 p.t.num, .int .i64 p.t.den, .int .i64 p.u.num, .int .i64 p.u.den]] w fun e w' => e = .returned (.tuple #[.bool (Zs.has l p).1, .int .i64 (Zs.has l p).2]) ∧ Below w.heap.size w w' := by
 refine fun_eq 0 w Tryz.func12 (args := [.val (.slice a l.length cap), .agg [.val (.int .i64 p.t.num), .val (.int .i64 p.t.den), .val (.int .i64 p.u.num), .val (.int .i64 p.u.den)]]) rfl rfl ?_
 refine NewI.frn fun w1 h1 => ?_
 have hbox : (w1.alloc (.cells #[.int .i64 p.t.num, .int .i64 p.t.den, .int .i64 p.u.num, .int .i64 p.u.den] 38)).heap[w1.heap.size]? = some (.cells #[.int .i64 p.t.num, .int .i64 p.t.den, .int .i64 p.u.num, .int .i64 p.u.den] 38 (0, 0)) := World.alloc_heap_new w1 _
 have hw2 : Below w.heap.size w (w1.alloc (.cells #[.int .i64 p.t.num, .int .i64 p.t.den, .int .i64 p.u.num, .int .i64 p.u.den] 38)) := h1.below.alloc h1.below.size _
 generalize w1.alloc (.cells #[.int .i64 p.t.num, .int .i64 p.t.den, .int .i64 p.u.num, .int .i64 p.u.den] 38) = w2 at *
 generalize w1.heap.size = B at *
 refine NewI.mk fun b1 hb1 => ?_
 apply CallI.use1
 focus (exact fun w3 h3 => zschecked_any [⟨a, l.length, cap⟩] [l] (by simp) _ _ w3 (shown_one (hS.go h3.below h3.below.size) rfl) (Sl.own (l := [(⟨a, l.length, cap⟩ : Svl)]) h3 0 rfl rfl rfl (Nat.le_refl _) (by simp [maxLen])))
 intro w3 v3 h3 hB3
 have g3 := at_belowM h3 (by simp)
 have hbox3 := (hB3.block B (Nat.lt_of_lt_of_le (lt_cellsM hbox) g3.size)).trans ((g3.block B (lt_cellsM hbox)).trans hbox)
 unfold Zs.has
 refine Branch.mk (fun hc => ?_) (fun hc => ?_)
 ·have h0 : Cv.checked [l] ≠ 0 := by simpa using hc
  rw [if_neg h0]
  exact EndI.mk fun w9 h9 => rfl
 have h0 : Cv.checked [l] = 0 := by simpa using hc
 rw [if_pos h0]
 have htop := fun w => top_any 3 w
 rw [Zo.top3] at htop
 have hof := fun (w : World) a c h => zof_any 3 a c (Dbm.topL 3) w h
 rw [Zs.free_of] at hof
 apply CallI.use
 focus (exact fun w4 h4 => htop w4)
 rintro v w4 v4 h4 hB4 ⟨a2, c2, rfl, hO2⟩
 have g4 := at_belowM h4 (by simp)
 have hbox4 := (hB4.block B (Nat.lt_of_lt_of_le (lt_cellsM hbox3) g4.size)).trans ((g4.block B (lt_cellsM hbox3)).trans hbox3)
 refine NewI.mk fun b2 hb2 => ?_
 apply CallI.use1
 focus (exact fun w5 h5 => hof w5 a2 c2 (hO2.below (at_belowM h5 (by simp <;> omega))).sl)
 intro w5 v5 h5 hB5
 have g5 : Below v4.heap.size v4 w5 := at_belowM h5 (by simp <;> omega)
 have hbox5 := (hB5.block B (Nat.lt_of_lt_of_le (lt_cellsM hbox4) g5.size)).trans ((g5.block B (lt_cellsM hbox4)).trans hbox4)
 have hBv4 := lt_cellsM hbox4
 refine NewI.mk fun b3 hb3 => ?_
 have hb3' : v5.heap.size ≤ b3 := hb3
 have hBv5 := lt_cellsM hbox5
 refine LoadA.mk ⟨[.int .i64 p.t.num, .int .i64 p.t.den, .int .i64 p.u.num, .int .i64 p.u.den], ⟨rfl, by decide, by simp; omega, cell_nM hbox5⟩, ?_⟩
 apply CallI.use
 focus (exact fun w6 h6 => zhas_any Zs.free p hp w6)
 rintro v w6 v6 h6 hB6 rfl
 have g6 : Below v5.heap.size v5 w6 := at_belowM h6 (by simp <;> omega)
 have hbox6 := (hB6.block B (Nat.lt_of_lt_of_le hBv5 g6.size)).trans ((g6.block B hBv5).trans hbox5)
 generalize Zo.has Zs.free p = X at *
 obtain ⟨x, e⟩ := X
 refine Branch.mk (fun hc2 => ?_) (fun hc2 => ?_)
 ·have h1 : e ≠ 0 := by simpa using hc2
  rw [if_neg (by exact h1)]
  exact EndI.mk fun w9 h9 => rfl
 have h1 : e = 0 := by simpa using hc2
 rw [if_pos (by exact h1)]
 have hBv6 := lt_cellsM hbox6
 apply CallI.use1
 focus (exact fun w7 h7 => containsZ_pure l (fun z => decide ((Zo.has z p).2 = 0) && (Zo.has z p).1) a cap 40 #[.pointer (some ⟨B, 0, none⟩)] w7 (hS.go h7.below h7.below.size) Tryz.call40 (fun x W hx hW => has1_any x p hp B W ((hW.block B (Nat.lt_of_lt_of_le hBv6 (at_belowM h7 (by simp <;> omega)).size)).trans (((at_belowM h7 (by simp <;> omega)).block B hBv6).trans hbox6))))
 intro w7 v7 h7 hB7
 exact EndI.mk fun w9 h9 => rfl
namespace Cl
def oddZ (z : Zn) : Bool := decide (1 < z.b) || decide (0 < z.f)
def odd (l : List Zn) : Bool := l.any oddZ
def chk (old part : List Zn) (cz cr : Int) : Int :=
 if ¬ (1 ≤ cz ∧ cz ≤ 4096) ∨ ¬ (1 ≤ cr ∧ cr ≤ 4096) then 2 else if Zs.check old ≠ 0 ∨ Zs.check part ≠ 0 ∨ odd old = true ∨ odd part = true then 8 else 0
def longer (l by_ part : List Zn) (cz : Int) : List Zn × List Zn × Int :=
 if (Zs.comp by_ part).2 ≠ 0 ∨ cz < ((Zs.comp by_ part).1.length : Int) then ([], [], 300)
 else if (Zs.or l (Zs.comp by_ part).1).2 ≠ 0 ∨ cz < ((Zs.or l (Zs.comp by_ part).1).1.length : Int) then ([], [], 300)
 else ((Zs.or l (Zs.comp by_ part).1).1, (Zs.comp by_ part).1, 0)
end Cl
end Go.Proofs.YtanhnllkccldhaaGreat
namespace Go.Proofs.YtanhnllkccldhaaGreat
set_option linter.unusedVariables false
set_option linter.unusedSimpArgs false
namespace Dbm
def inS (S k : Nat) : Bool := decide (S / 2 ^ k % 2 = 1)
structure POk (N : Nat) (L : List Int) (i j S f : Nat) (v : Int) : Prop where
 lim : Dbm.lim 1152921504606846976 v
 wit : ∀ u, ob v = some u → ∃ mid : List Nat, mid.Nodup ∧ i ∉ mid ∧ j ∉ mid ∧ (∀ a, a ∈ mid → a < N ∧ inS S a = true) ∧ way (mx N L) (i :: (mid ++ [j])) = some u
 low : ∀ mid : List Nat, mid.Nodup → i ∉ mid → j ∉ mid → (∀ a, a ∈ mid → a < N ∧ inS S a = true) → mid.length ≤ f → ole (ob v) (way (mx N L) (i :: (mid ++ [j])))
section
variable {N : Nat} {L : List Int}
end
end Dbm
namespace Dbm
end Dbm
namespace Dbm
section
variable {N : Nat} {L : List Int}
end
end Dbm
end Go.Proofs.YtanhnllkccldhaaGreat
namespace Go.Proofs.YtanhnllkccldhaaGreat
set_option linter.unusedVariables false
open Go.RowKit
theorem tmod2_even {b : Int} (h : b % 2 = 0) : b.tmod 2 = 0 := Int.tmod_eq_zero_of_dvd (Int.dvd_of_emod_eq_zero h)
theorem tmod2_odd {b : Int} (h : ¬ b % 2 = 0) : (b.tmod 2 == 0) = false := by
 simp only [beq_eq_false_iff_ne, ne_eq]
 intro e
 exact h (Int.emod_eq_zero_of_dvd (Int.dvd_of_tmod_eq_zero e))
theorem tdiv2_even {b : Int} (h : b % 2 = 0) : b.tdiv 2 = b / 2 := by
 obtain ⟨k, rfl⟩ := Int.dvd_of_emod_eq_zero h
 rw [Int.mul_tdiv_cancel_left _ (by decide), Int.mul_ediv_cancel_left _ (by decide)]
theorem rnumber_any (b : Int) (hlo : -9223372036854775808 ≤ b) (hhi : b ≤ 9223372036854775807) (w : World) :
 Calls Tryz.prog 42 #[.int .i64 b] w fun e w' => e = .returned (.int .i64 (b / 2)) ∧ w = w' := by
 by_cases h : b % 2 = 0
 ·have h1 := tmod2_even h
  have h2 := Lib.hid (tdiv2_even h)
  clear h
  go_enter Tryz.func42, Tryz.ntmps42
  go_wp2
  go_ret
  exact ⟨ret_int h2.out, rfl⟩
 ·have h1 := tmod2_odd h
  have h3 : (b.tmod 2 != 0) = true := by simp only [bne, h1]; rfl
  have h2 := Lib.hid (show (b - 1).tdiv 2 = b / 2 by rw [tdiv2_even (by omega)]; omega)
  have h4 : -9223372036854775808 ≤ b - 1 := by omega
  clear h
  go_enter Tryz.func42, Tryz.ntmps42
  go_wp2
  go_ret
  exact ⟨ret_int h2.out, rfl⟩
def Bd.sum (a b : Int) : Int × Bool :=
 if a = 9223372036854775807 ∨ b = 9223372036854775807 then (9223372036854775807, true) else if Num.okB (a / 2 + b / 2) then (Bd.mk (a / 2 + b / 2) (Bd.st a || Bd.st b), true) else (0, false)
end Go.Proofs.YtanhnllkccldhaaGreat
namespace Go.Proofs.YtanhnllkccldhaaGreat
set_option linter.unusedVariables false
set_option linter.unusedSimpArgs false
set_option maxRecDepth 100000
open Go.RowKit Go.Proofs.YtanhnllkccldhaaGreat.Eng Enc
namespace Dbm
def int64 (b : Int) : Prop := -9223372036854775808 ≤ b ∧ b ≤ 9223372036854775807
end Dbm
section
variable {N : Nat} {L : List Int}
end
namespace Dbm
end Dbm
section
variable {N : Nat} {L : List Int}
end
namespace Zo
def i64 (z : Zn) : Prop := ∀ b, b ∈ matL z → Dbm.int64 b
end Zo
end Go.Proofs.YtanhnllkccldhaaGreat
namespace Go.Proofs.YtanhnllkccldhaaGreat
set_option linter.unusedVariables false
open Go.RowKit
end Go.Proofs.YtanhnllkccldhaaGreat
namespace Go.Proofs.YtanhnllkccldhaaGreat
set_option linter.unusedVariables false
set_option linter.unusedSimpArgs false
set_option maxRecDepth 100000
open Go.RowKit Go.Proofs.YtanhnllkccldhaaGreat.Eng Enc
namespace Mi
open Dbm
end Mi
end Go.Proofs.YtanhnllkccldhaaGreat
namespace Go.Proofs.YtanhnllkccldhaaGreat
set_option linter.unusedVariables false
set_option linter.unusedSimpArgs false
open Go.RowKit Go.Proofs.YtanhnllkccldhaaGreat.Eng Enc
namespace Zo
open Mi Dbm
theorem mayC_min {x y : Int} (hx : mayC x = true) (hy : mayC y = true) : mayC (min x y) = true := by
 by_cases h : x ≤ y
 ·rw [Int.min_eq_left h]; exact hx
 ·rw [Int.min_eq_right (by omega)]; exact hy
theorem chk_lessr {n : Int} {L M : List Int} (h1 : Dbm.chk n L = 0) (h2 : Dbm.chk n M = 0) : Dbm.chk n (lessr L M) = 0 := by
 obtain ⟨a1, a2, a3, a4⟩ := chk_iff.1 h1
 obtain ⟨b1, b2, b3, b4⟩ := chk_iff.1 h2
 refine chk_iff.2 ⟨a1, a2, by rw [lessr_len]; exact a3, ?_⟩
 rw [List.any_eq_false] at a4 b4 ⊢
 intro z hz
 unfold lessr at hz
 obtain ⟨q, hq, rfl⟩ := List.mem_map.1 hz
 have hq := List.mem_range.1 hq
 have e1 := List.getElem?_eq_getElem (l := L) (i := q) hq
 have e2 := List.getElem?_eq_getElem (l := M) (i := q) (by omega)
 have k1 := a4 _ (List.getElem_mem hq)
 have k2 := b4 _ (List.getElem_mem (by omega : q < M.length))
 rw [e1, e2]
 simp only [Option.getD_some, Bool.not_eq_true', Bool.not_eq_true, Bool.not_eq_false] at k1 k2 ⊢
 exact mayC_min k1 k2
theorem fits_lessr {N : Nat} {L M : List Int} (h1 : Dbm.chk N L = 0) (h2 : Dbm.chk N M = 0) (t : Nat → Rat) : Fits N (mx N (lessr L M)) t ↔ Fits N (mx N L) t ∧ Fits N (mx N M) t := by
 have l1 := chk_lenK h1
 have l2 := chk_lenK h2
 have key : ∀ i j, i < N → j < N → (satO (t i - t j) (mx N (lessr L M) i j) ↔ satO (t i - t j) (mx N L i j) ∧ satO (t i - t j) (mx N M i j)) := fun i j hi hj => by
  have hp := place_lt hi hj
  have e : (lessr L M)[i * N + j]?.getD 0 = min (L[i * N + j]?.getD 0) (M[i * N + j]?.getD 0) := by
   unfold lessr
   rw [List.getElem?_map, List.getElem?_range (by omega)]; rfl
  unfold mx
  rw [e]
  exact satO_min _ _ _ (lim_lt (chk_limK h1 i j hi hj) (by decide)) (lim_lt (chk_limK h2 i j hi hj) (by decide))
 constructor
 ·exact fun h => ⟨fun i j hi hj => ((key i j hi hj).1 (h i j hi hj)).1, fun i j hi hj => ((key i j hi hj).1 (h i j hi hj)).2⟩
 ·exact fun h i j hi hj => (key i j hi hj).2 ⟨h.1 i j hi hj, h.2 i j hi hj⟩
theorem meet_of {a b : Zn} (ha : chk a = 0) (hb : chk b = 0) : meet a b = of 3 (lessr (matL a) (matL b)) := by
 have h1 := (clo ha).1
 have h2 := (clo hb).1
 have e : Tg.meet 3 (matL a) 3 (matL b) = Dbm.close 3 (lessr (matL a) (matL b)) := by
  unfold Tg.meet
  rw [if_neg (by rintro (h | h); exact h h1; exact h h2), if_neg (by decide)]
 have c3 : Dbm.chk 3 (lessr (matL a) (matL b)) = 0 := chk_lessr h1 h2
 unfold meet of
 rw [if_pos (checks_two.2 ⟨ha, hb⟩), if_pos c3, if_pos rfl, e]
theorem meet_ok {a b : Zn} (ha : chk a = 0) (hb : chk b = 0) (h : (meet a b).2 = 0) : chk (meet a b).1 = 0 ∧ ∀ t, Fz (meet a b).1 t ↔ Fz a t ∧ Fz b t := by
 rw [meet_of ha hb] at h ⊢
 obtain ⟨h1, h2⟩ := of_ok h
 exact ⟨h1, fun t => (h2 t).trans (fits_lessr (N := 3) (clo ha).1 (clo hb).1 t)⟩
theorem meet_none {a b : Zn} (ha : chk a = 0) (hb : chk b = 0) (h : (meet a b).2 = 6) (t : Nat → Rat) : ¬ (Fz a t ∧ Fz b t) := by
 rw [meet_of ha hb] at h
 intro hf
 exact of_none h t ((fits_lessr (N := 3) (clo ha).1 (clo hb).1 t).2 hf)
end Zo
namespace Zs
open Mi Dbm
def Pts (l : List Zn) (t : Nat → Rat) : Prop := ∃ z, z ∈ l ∧ Fz z t
theorem checked_ok {ls : List (List Zn)} : Cv.checked ls = 0 ↔ ∀ l, l ∈ ls → l.length ≤ 4096 ∧ ∀ z, z ∈ l → Zo.chk z = 0 := by
 unfold Cv.checked
 constructor
 ·intro h l hl
  split at h
  ·cases h
  ·rename_i h1
   split at h
   ·cases h
   ·rename_i h2
    rw [List.any_eq_true] at h1 h2
    refine ⟨?_, fun z hz => ?_⟩
    ·apply Classical.byContradiction; intro hh; exact h1 ⟨l, hl, decide_eq_true (by omega)⟩
    ·apply Classical.byContradiction; intro hh; exact h2 ⟨l, hl, List.any_eq_true.2 ⟨z, hz, by simpa [Cv.odd] using hh⟩⟩
 ·intro h
  rw [if_neg, if_neg]
  ·rw [List.any_eq_true]
   rintro ⟨l, hl, k⟩
   obtain ⟨z, hz, k⟩ := List.any_eq_true.1 k
   have := (h l hl).2 z hz
   simp [Cv.odd, this] at k
  ·rw [List.any_eq_true]
   rintro ⟨l, hl, k⟩
   have := (h l hl).1
   simp at k; omega
theorem pts_prune {l : List Zn} (h : (Cv.prune l).2 = 0) (t : Nat → Rat) : Pts (Cv.prune l).1 t ↔ Pts l t := ((Cv.prune_ok h).pts t).symm
theorem come_ok (f : Zn → Zn × Int) : ∀ (l out : List Zn), (come f out l).2 = 0 →
 (∃ m, (Cv.prune m).2 = 0 ∧ come f out l = Cv.prune m) ∧ (∀ x, x ∈ l → (f x).2 = 0 ∨ (f x).2 = 6) ∧ ∀ t, Pts (come f out l).1 t ↔ Pts out t ∨ ∃ x, x ∈ l ∧ (f x).2 = 0 ∧ Fz (f x).1 t
 | [], out, h => by
   change (Cv.prune out).2 = 0 at h
   refine ⟨⟨out, h, rfl⟩, (fun x hx => (nomatch hx)), fun t => ?_⟩
   show Pts (Cv.prune out).1 t ↔ _
   rw [pts_prune h t]
   exact ⟨.inl, fun k => k.elim id fun ⟨x, hx, _⟩ => (nomatch hx)⟩
 | x :: l, out, h => by
   rw [come_cons] at h ⊢
   by_cases h0 : (f x).2 = 0
   ·rw [if_pos h0] at h ⊢
    obtain ⟨k1, k2, k3⟩ := come_ok f l _ h
    refine ⟨k1, fun y hy => (List.mem_cons.1 hy).elim (fun e => e ▸ .inl h0) (k2 y), fun t => (k3 t).trans ?_⟩
    constructor
    ·rintro (⟨z, hz, hf⟩ | ⟨y, hy, hf⟩)
     ·rcases List.mem_append.1 hz with hz | hz
      ·exact .inl ⟨z, hz, hf⟩
      ·rw [List.mem_singleton.1 hz] at hf; exact .inr ⟨x, by simp, h0, hf⟩
     ·exact .inr ⟨y, List.mem_cons_of_mem _ hy, hf⟩
    ·rintro (⟨z, hz, hf⟩ | ⟨y, hy, h1, hf⟩)
     ·exact .inl ⟨z, List.mem_append_left _ hz, hf⟩
     ·rcases List.mem_cons.1 hy with rfl | hy
      ·exact .inl ⟨_, List.mem_append_right _ (by simp), hf⟩
      ·exact .inr ⟨y, hy, h1, hf⟩
   ·rw [if_neg h0] at h ⊢
    by_cases h6 : (f x).2 = 6
    ·rw [if_pos h6] at h ⊢
     obtain ⟨k1, k2, k3⟩ := come_ok f l _ h
     refine ⟨k1, fun y hy => (List.mem_cons.1 hy).elim (fun e => e ▸ .inr h6) (k2 y), fun t => (k3 t).trans ?_⟩
     constructor
     ·rintro (hf | ⟨y, hy, hf⟩)
      ·exact .inl hf
      ·exact .inr ⟨y, List.mem_cons_of_mem _ hy, hf⟩
     ·rintro (hf | ⟨y, hy, h1, hf⟩)
      ·exact .inl hf
      ·rcases List.mem_cons.1 hy with rfl | hy
       ·exact absurd h1 h0
       ·exact .inr ⟨y, hy, h1, hf⟩
    ·rw [if_neg h6] at h
     exact absurd h h0
theorem pairGo_ok (f : Zn → Zn → Zn × Int) (b : List Zn) : ∀ (a out : List Zn), (pairGo f b out a).2 = 0 →
 ((a = [] ∧ (pairGo f b out a).1 = out) ∨ ∃ m, (Cv.prune m).2 = 0 ∧ (pairGo f b out a).1 = (Cv.prune m).1) ∧ (∀ x y, x ∈ a → y ∈ b → (f x y).2 = 0 ∨ (f x y).2 = 6) ∧ ∀ t, Pts (pairGo f b out a).1 t ↔ Pts out t ∨ ∃ x y, x ∈ a ∧ y ∈ b ∧ (f x y).2 = 0 ∧ Fz (f x y).1 t
 | [], out, h => ⟨.inl ⟨rfl, rfl⟩, (fun x y hx => (nomatch hx)), fun t => ⟨.inl, fun k => k.elim id fun ⟨x, y, hx, _⟩ => (nomatch hx)⟩⟩
 | x :: a, out, h => by
   rw [pairGo_cons] at h ⊢
   by_cases h0 : (come (f x) out b).2 = 0
   ·rw [if_pos h0] at h ⊢
    obtain ⟨⟨m, hm1, hm2⟩, c2, c3⟩ := come_ok (f x) b out h0
    obtain ⟨k1, k2, k3⟩ := pairGo_ok f b a _ h
    refine ⟨.inr ?_, fun y z hy hz => (List.mem_cons.1 hy).elim (fun e => e ▸ c2 z hz) fun hy => k2 y z hy hz, fun t => (k3 t).trans ?_⟩
    ·rcases k1 with ⟨_, e⟩ | k
     ·exact ⟨m, hm1, by rw [e, hm2]⟩
     ·exact k
    ·rw [c3 t]
     constructor
     ·rintro ((hf | ⟨y, hy, h1, hf⟩) | ⟨z, y, hz, hy, h1, hf⟩)
      ·exact .inl hf
      ·exact .inr ⟨x, y, by simp, hy, h1, hf⟩
      ·exact .inr ⟨z, y, List.mem_cons_of_mem _ hz, hy, h1, hf⟩
     ·rintro (hf | ⟨z, y, hz, hy, h1, hf⟩)
      ·exact .inl (.inl hf)
      ·rcases List.mem_cons.1 hz with rfl | hz
       ·exact .inl (.inr ⟨y, hy, h1, hf⟩)
       ·exact .inr ⟨z, y, hz, hy, h1, hf⟩
   ·rw [if_neg h0] at h
    exact absurd h h0
def Fine (m : List Zn) : Prop := m.length ≤ 4096 ∧ (∀ z, z ∈ m → Zo.chk z = 0) ∧ ((Cv.prune m).2 = 0 → (Cv.prune m).1 = m)
theorem fine_nil : Fine [] := ⟨by simp, fun z hz => (nomatch hz), fun h => List.eq_nil_iff_forall_not_mem.2 fun x hx => nomatch (Cv.prune_ok h).mem x hx⟩
theorem fine_prune {l : List Zn} (h : (Cv.prune l).2 = 0) : Fine (Cv.prune l).1 := by
 have hw := Cv.prune_ok h
 exact ⟨Nat.le_trans hw.mlen hw.len, fun z hz => hw.chk z (hw.mem z hz), fun h2 => hw.again h2⟩
theorem paired_ok {f : Zn → Zn → Zn × Int} {a b : List Zn} (h : (paired f a b).2 = 0) : Cv.checked [a, b] = 0 ∧ Fine (paired f a b).1 ∧ (∀ x y, x ∈ a → y ∈ b → (f x y).2 = 0 ∨ (f x y).2 = 6) ∧ ∀ t, Pts (paired f a b).1 t ↔ ∃ x y, x ∈ a ∧ y ∈ b ∧ (f x y).2 = 0 ∧ Fz (f x y).1 t := by
 unfold paired at h ⊢
 by_cases h0 : Cv.checked [a, b] = 0
 ·rw [if_pos h0] at h ⊢
  obtain ⟨k1, k2, k3⟩ := pairGo_ok f b a [] h
  refine ⟨h0, ?_, k2, fun t => (k3 t).trans ⟨fun k => k.elim (fun ⟨z, hz, _⟩ => (nomatch hz)) id, .inr⟩⟩
  rcases k1 with ⟨_, e⟩ | ⟨m, hm, e⟩
  ·rw [e]; exact fine_nil
  ·rw [e]; exact fine_prune hm
 ·rw [if_neg h0] at h
  exact absurd h h0
theorem or_ok {a b : List Zn} (h : (or a b).2 = 0) : Cv.checked [a, b] = 0 ∧ Fine (or a b).1 ∧ ∀ t, Pts (or a b).1 t ↔ Pts a t ∨ Pts b t := by
 unfold or at h ⊢
 by_cases h0 : Cv.checked [a, b] = 0
 ·rw [if_pos h0] at h ⊢
  refine ⟨h0, fine_prune h, fun t => (pts_prune h t).trans ?_⟩
  constructor
  ·rintro ⟨z, hz, hf⟩
   exact (List.mem_append.1 hz).elim (fun hz => .inl ⟨z, hz, hf⟩) fun hz => .inr ⟨z, hz, hf⟩
  ·rintro (⟨z, hz, hf⟩ | ⟨z, hz, hf⟩)
   ·exact ⟨z, List.mem_append_left _ hz, hf⟩
   ·exact ⟨z, List.mem_append_right _ hz, hf⟩
 ·rw [if_neg h0] at h
  exact absurd h h0
theorem checked2 {a b : List Zn} (h : Cv.checked [a, b] = 0) : (∀ z, z ∈ a → Zo.chk z = 0) ∧ ∀ z, z ∈ b → Zo.chk z = 0 := ⟨(checked_ok.1 h a (by simp)).2, (checked_ok.1 h b (by simp)).2⟩
theorem and_ok {a b : List Zn} (h : (and a b).2 = 0) : Cv.checked [a, b] = 0 ∧ Fine (and a b).1 ∧ ∀ t, Pts (and a b).1 t ↔ Pts a t ∧ Pts b t := by
 obtain ⟨h0, h1, h2, h3⟩ := paired_ok h
 obtain ⟨ca, cb⟩ := checked2 h0
 refine ⟨h0, h1, fun t => (h3 t).trans ?_⟩
 constructor
 ·rintro ⟨x, y, hx, hy, he, hf⟩
  have := ((Zo.meet_ok (ca x hx) (cb y hy) he).2 t).1 hf
  exact ⟨⟨x, hx, this.1⟩, y, hy, this.2⟩
 ·rintro ⟨⟨x, hx, h1⟩, y, hy, hf⟩
  rcases h2 x y hx hy with he | he
  ·exact ⟨x, y, hx, hy, he, ((Zo.meet_ok (ca x hx) (cb y hy) he).2 t).2 ⟨h1, hf⟩⟩
  ·exact absurd ⟨h1, hf⟩ (Zo.meet_none (ca x hx) (cb y hy) he t)
theorem free_chk : Zo.chk free = 0 := by decide +kernel
theorem has_ok {l : List Zn} {p : Pt} (h : (has l p).2 = 0) : Cv.checked [l] = 0 ∧ p.t.ok = true ∧ p.u.ok = true ∧ ((has l p).1 = true ↔ Pts l (tvs [p.t, p.u])) := by
 unfold has at h ⊢
 by_cases h0 : Cv.checked [l] = 0
 case neg => rw [if_neg h0] at h; exact absurd h h0
 rw [if_pos h0] at h ⊢
 by_cases h1 : (Zo.has free p).2 = 0
 case neg => rw [if_neg h1] at h; exact absurd h h1
 rw [if_pos h1]
 obtain ⟨_, ht, hu⟩ := Cv.has_err h1
 refine ⟨h0, ht, hu, ?_⟩
 simp only [List.any_eq_true, Bool.and_eq_true, decide_eq_true_eq]
 have hc := (checked_ok.1 h0 l (by simp)).2
 constructor
 ·rintro ⟨z, hz, _, hf⟩
  exact ⟨z, hz, (Zo.has_ok (hc z hz) ht hu).2.1 hf⟩
 ·rintro ⟨z, hz, hf⟩
  obtain ⟨k1, k2⟩ := Zo.has_ok (hc z hz) ht hu
  exact ⟨z, hz, k1, k2.2 hf⟩
theorem has_err0 {m : List Zn} {p : Pt} (hm : Fine m) (ht : p.t.ok = true) (hu : p.u.ok = true) : (has m p).2 = 0 := by
 unfold has
 rw [if_pos (checked_ok.2 fun l hl => by rw [List.mem_singleton.1 hl]; exact ⟨hm.1, hm.2.1⟩), if_pos (Zo.has_ok free_chk ht hu).1]
end Zs
end Go.Proofs.YtanhnllkccldhaaGreat
namespace Go.Proofs.YtanhnllkccldhaaGreat
set_option linter.unusedVariables false
set_option linter.unusedSimpArgs false
set_option maxRecDepth 100000
open Go.RowKit Go.Proofs.YtanhnllkccldhaaGreat.Eng Enc
namespace Zo
open Dbm
end Zo
end Go.Proofs.YtanhnllkccldhaaGreat
namespace Go.Proofs.YtanhnllkccldhaaGreat
set_option linter.unusedVariables false
set_option linter.unusedSimpArgs false
open Go.RowKit Go.Proofs.YtanhnllkccldhaaGreat.Eng Enc
namespace Dbm
def LoQ (a : Rat × Bool) (s : Rat) : Prop := if a.2 = true then a.1 < s else a.1 ≤ s
def HiQ (a : Rat × Bool) (s : Rat) : Prop := if a.2 = true then s < a.1 else s ≤ a.1
theorem LoQ.mono {a b : Rat × Bool} {s : Rat} (h : LoQ a s) (hb : b.1 < a.1 ∨ (b.1 = a.1 ∧ (b.2 = true → a.2 = true))) : LoQ b s := by
 unfold LoQ at *
 split <;> split at h <;> rcases hb with hb | ⟨hb, hc⟩ <;> first | grind | (rename_i k1 k2; exact absurd (hc k1) k2)
theorem HiQ.mono {a b : Rat × Bool} {s : Rat} (h : HiQ a s) (hb : a.1 < b.1 ∨ (b.1 = a.1 ∧ (b.2 = true → a.2 = true))) : HiQ b s := by
 unfold HiQ at *
 split <;> split at h <;> rcases hb with hb | ⟨hb, hc⟩ <;> first | grind | (rename_i k1 k2; exact absurd (hc k1) k2)
end Dbm
end Go.Proofs.YtanhnllkccldhaaGreat
namespace Go.Proofs.YtanhnllkccldhaaGreat.Proj
set_option linter.unusedVariables false
open Go.Proofs.YtanhnllkccldhaaGreat.Dbm
theorem sk_lt {N k j : Nat} (hj : j < N - 1) : sk k j < N := by unfold sk; split <;> omega
theorem dropL_len (N k : Nat) (C : List Int) : (dropL N k C).length = (N - 1) * (N - 1) := by simp [dropL]
theorem dropL_get {N k : Nat} (C : List Int) {i j : Nat} (hi : i < N - 1) (hj : j < N - 1) : (dropL N k C)[i * (N - 1) + j]?.getD 0 = C[sk k i * N + sk k j]?.getD 0 := by
 unfold dropL
 rw [List.getElem?_map, List.getElem?_range (place_lt hi hj)]
 simp only [Option.map_some, Option.getD_some]
 unfold dropAt
 rw [place_div hj, place_mod hj]
theorem clo_drop {N k : Nat} {C : List Int} (h : Clo N C) : Clo (N - 1) (dropL N k C) := by
 have hm : ∀ i j, i < N - 1 → j < N - 1 → mx (N - 1) (dropL N k C) i j = mx N C (sk k i) (sk k j) := fun i j hi hj => by
  unfold mx; rw [dropL_get C hi hj]
 refine ⟨dropL_len _ _ _, fun i hi => ?_, fun i j a hi hj ha => ?_, fun i j hi hj => ?_⟩
 ·rw [dropL_get C hi hi]; exact h.diag _ (sk_lt hi)
 ·rw [hm i j hi hj, hm i a hi ha, hm a j ha hj]
  exact h.tri _ _ _ (sk_lt hi) (sk_lt hj) (sk_lt ha)
 ·rw [dropL_get C hi hj]; exact h.lim _ _ (sk_lt hi) (sk_lt hj)
theorem ext_get {A B : List Int} {n : Nat} (ha : A.length = n) (hb : B.length = n) (h : ∀ q, q < n → A[q]?.getD 0 = B[q]?.getD 0) : A = B := by
 apply List.ext_getElem?
 intro q
 rcases Nat.lt_or_ge q n with hq | hq
 ·have := h q hq
  rw [List.getElem?_eq_getElem (by omega), List.getElem?_eq_getElem (by omega)] at this ⊢
  exact congrArg some this
 ·rw [List.getElem?_eq_none (by omega), List.getElem?_eq_none (by omega)]
theorem sk_sk {j k i : Nat} (hjk : j < k) : sk j (sk (k - 1) i) = sk k (sk j i) := by
 unfold sk
 by_cases h1 : i < k - 1 <;> by_cases h2 : i < j <;> simp only [h1, h2, if_true, if_false] <;> (repeat' split) <;> omega
theorem dropL_dropL {N j k : Nat} (C : List Int) (hjk : j < k) : dropL (N - 1) (k - 1) (dropL N j C) = dropL (N - 1) j (dropL N k C) := by
 refine ext_get (dropL_len _ _ _) (dropL_len _ _ _) fun q hq => ?_
 have h1 := div_lt hq
 have h2 := mod_lt hq
 rw [← div_mod (p := q) (N := N - 1 - 1)]
 rw [dropL_get _ h1 h2, dropL_get _ h1 h2, dropL_get _ (sk_lt h1) (sk_lt h2), dropL_get _ (sk_lt h1) (sk_lt h2), sk_sk hjk, sk_sk hjk]
theorem drop_ok {n : Int} {L : List Int} {k : Int} (h : (drop n L k).2.2 = 0) : chk n L = 0 ∧ 1 ≤ k ∧ k < n ∧ ∃ C, closeL n.toNat L = some C ∧ drop n L k = (n - 1, dropL n.toNat k.toNat C, 0) := by
 unfold drop at h ⊢
 split at h
 ·rename_i h0
  split at h
  ·cases h
  ·rename_i h1
   split at h
   ·rename_i C hC
    refine ⟨h0, by omega, by omega, C, hC, ?_⟩
    rw [if_pos h0, if_neg h1]
   ·cases h
 ·cases h
theorem drop_closed {N K : Nat} {A : List Int} (h0 : chk N A = 0) (hA : Clo N A) (h1 : 1 ≤ K) (h2 : K < N) : drop N A K = ((N : Int) - 1, dropL N K A, 0) := by
 unfold drop
 rw [if_pos h0, if_neg (by omega), Int.toNat_natCast, Int.toNat_natCast, hA.close]
theorem two {n : Int} {L : List Int} {j k : Int} (hjk : j < k) (ha : (drop n L j).2.2 = 0) (hb : (drop n L k).2.2 = 0) (ca : chk (drop n L j).1 (drop n L j).2.1 = 0) (cb : chk (drop n L k).1 (drop n L k).2.1 = 0) :
 drop (drop n L j).1 (drop n L j).2.1 (k - 1) = drop (drop n L k).1 (drop n L k).2.1 j := by
 obtain ⟨h0, j1, j2, C, hC, ea⟩ := drop_ok ha
 obtain ⟨_, k1, k2, C', hC', eb⟩ := drop_ok hb
 rw [hC] at hC'; injection hC' with hC'; subst hC'
 obtain ⟨N, rfl⟩ : ∃ N : Nat, n = N := ⟨n.toNat, by omega⟩
 obtain ⟨J, rfl⟩ : ∃ J : Nat, j = J := ⟨j.toNat, by omega⟩
 obtain ⟨K, rfl⟩ : ∃ K : Nat, k = K := ⟨k.toNat, by omega⟩
 rw [Int.toNat_natCast] at hC
 have hclo := close_clo h0 hC
 rw [ea] at ca ⊢
 rw [eb] at cb ⊢
 simp only [Int.toNat_natCast] at ca cb ⊢
 have en : (N : Int) - 1 = ((N - 1 : Nat) : Int) := by omega
 have ek : (K : Int) - 1 = ((K - 1 : Nat) : Int) := by omega
 rw [en] at ca cb ⊢
 rw [ek, drop_closed ca (clo_drop hclo) (by omega) (by omega), drop_closed cb (clo_drop hclo) (by omega) (by omega), dropL_dropL C (by omega)]
end Go.Proofs.YtanhnllkccldhaaGreat.Proj
namespace Go.Proofs.YtanhnllkccldhaaGreat
set_option linter.unusedVariables false
set_option linter.unusedSimpArgs false
open Go.RowKit Go.Proofs.YtanhnllkccldhaaGreat.Eng Enc
namespace Dbm
end Dbm
namespace Cmp
open Dbm Mi
def t3 (x y z : Rat) (i : Nat) : Rat := if i = 0 then x else if i = 1 then y else z
def Thru (P Q : (Nat → Rat) → Prop) (t : Nat → Rat) : Prop := ∃ s, P (t3 (t 0) (t 1) s) ∧ Q (t3 (t 0) s (t 2))
end Cmp
namespace Zs
open Mi Dbm Cmp
end Zs
end Go.Proofs.YtanhnllkccldhaaGreat
namespace Go.Proofs.YtanhnllkccldhaaGreat
set_option linter.unusedVariables false
set_option linter.unusedSimpArgs false
set_option maxRecDepth 100000
open Go.RowKit Go.Proofs.YtanhnllkccldhaaGreat.Eng Enc
namespace Cmp
open Dbm
end Cmp
end Go.Proofs.YtanhnllkccldhaaGreat
namespace Go.Proofs.YtanhnllkccldhaaGreat
set_option linter.unusedVariables false
set_option linter.unusedSimpArgs false
open Go.RowKit Go.Proofs.YtanhnllkccldhaaGreat.Eng Enc
namespace Cmp
open Dbm
end Cmp
end Go.Proofs.YtanhnllkccldhaaGreat
namespace Go.Proofs.YtanhnllkccldhaaGreat
set_option linter.unusedVariables false
set_option linter.unusedSimpArgs false
set_option maxRecDepth 100000
open Go.RowKit Go.Proofs.YtanhnllkccldhaaGreat.Eng Enc
namespace Mi
open Dbm
structure LSit (w w2 V : World) (Bb : Nat) (b : Zn) (sv : Value) (out : List Zn) (X : World) : Prop where
 below : Below w.heap.size w X
 size : w2.heap.size ≤ X.heap.size
 size0 : V.heap.size ≤ X.heap.size
 ha : Holds X Bb b
 own : Own 86 w2.heap.size X sv out
section
variable {w w2 V X Y : World} {Bb : Nat} {b : Zn} {sv : Value} {out : List Zn}
theorem LSit.at {hp : List LB} {r L : List Nat} (s : LSit w w2 V Bb b sv out X) (h : At ⟨w, w.heap.size, Nat.le_refl _⟩ hp r L X Y) (hL : ∀ x, x ∈ L → X.heap.size ≤ x ∨ x ≠ Bb ∧ sv.ownBlock ≠ some x) : LSit w w2 V Bb b sv out Y := by
 refine ⟨h.below, Nat.le_trans s.size h.size, Nat.le_trans s.size0 h.size, s.ha.same (h.step Bb s.ha.lt fun hm => ?_), ?_⟩
 ·rcases hL _ hm with h1 | h1
  ·have := s.ha.lt; omega
  ·exact h1.1 rfl
 ·obtain ⟨hl, h0 | ⟨g, cap, cur, e1, e2, e3, e4⟩⟩ := s.own
  ·exact ⟨hl, .inl h0⟩
  ·have hg := (Array.getElem?_eq_some_iff.1 e3).1
   refine ⟨hl, .inr ⟨g, cap, cur, e1, e2, (h.step g hg (fun e => ?_)).trans e3, e4⟩⟩
   rcases hL g e with h1 | h1
   ·omega
   ·exact h1.2 (by rw [e1]; rfl)
theorem LSit.go (s : LSit w w2 V Bb b sv out X) (hw : w.heap.size ≤ w2.heap.size) (hB : Below X.heap.size X Y) : LSit w w2 V Bb b sv out Y :=
 ⟨s.below.trans (hB.mono s.below.size), Nat.le_trans s.size hB.size, Nat.le_trans s.size0 hB.size, s.ha.below hB, s.own.below hB⟩
end
end Mi
namespace Cv
theorem checked_two {a b : List Zn} : (a.length ≤ 4096 ∧ b.length ≤ 4096 ∧ (∀ z, z ∈ a → Zo.chk z = 0) ∧ (∀ z, z ∈ b → Zo.chk z = 0) → checked [a, b] = 0) ∧ (4096 < a.length ∨ 4096 < b.length → checked [a, b] = 4) ∧ (a.length ≤ 4096 → b.length ≤ 4096 → ((∃ z, z ∈ a ∧ Zo.chk z ≠ 0) ∨ ∃ z, z ∈ b ∧ Zo.chk z ≠ 0) → checked [a, b] = 8) := by
 unfold checked
 simp only [List.any_cons, List.any_nil, Bool.or_false, Bool.or_eq_true, decide_eq_true_eq]
 have ho : ∀ l : List Zn, l.any odd = true ↔ ∃ z, z ∈ l ∧ Zo.chk z ≠ 0 := fun l => by
  rw [List.any_eq_true]
  simp [odd]
 simp only [ho]
 refine ⟨fun ⟨h1, h2, h3, h4⟩ => ?_, fun h => ?_, fun h1 h2 h3 => ?_⟩
 ·rw [if_neg (by omega), if_neg]
  rintro (⟨z, hz, hc⟩ | ⟨z, hz, hc⟩)
  ·exact hc (h3 z hz)
  ·exact hc (h4 z hz)
 ·rw [if_pos h]
 ·rw [if_neg (by omega), if_pos h3]
end Cv
end Go.Proofs.YtanhnllkccldhaaGreat
namespace Go.Proofs.YtanhnllkccldhaaGreat
set_option linter.unusedVariables false
set_option linter.unusedSimpArgs false
open Go.RowKit
namespace Cv
open Zo
def Nx (out : List Zn) (x : Zn) : Prop := ∀ y, out.getLast? = some y → Lt y x
def Sc (l out : List Zn) (i : Nat) (b : Int) : Prop :=
 (b = -1 ∧ ∀ k x, k < i → l[k]? = some x → ¬ Nx out x) ∨
 (∃ j y, b = (j : Nat) ∧ j < i ∧ l[j]? = some y ∧ Nx out y ∧ ∀ k x, k < i → l[k]? = some x → Nx out x → ¬ Lt x y)
theorem Sc.first {l out : List Zn} {i : Nat} {x : Zn} (h : Sc l out i (-1)) (hx : l[i]? = some x) (hn : Nx out x) : Sc l out (i + 1) (i : Nat) := by
 rcases h with ⟨_, h⟩ | ⟨j, y, e, _⟩
 ·refine .inr ⟨i, x, rfl, by omega, hx, hn, fun k x' hk hx' hn' => ?_⟩
  by_cases e : k = i
  ·subst e; rw [hx] at hx'; cases hx'; exact Lt.irrefl _
  ·exact absurd hn' (h k x' (by omega) hx')
 ·omega
theorem Sc.keep {l out : List Zn} {i j : Nat} {x y : Zn} (h : Sc l out i (j : Nat)) (hx : l[i]? = some x) (hy : l[j]? = some y) (hn : ¬ Lt x y) : Sc l out (i + 1) (j : Nat) := by
 rcases h with ⟨e, _⟩ | ⟨j', y', e, hj, hy', hn2, h⟩
 ·omega
 ·have : j' = j := by omega
  subst this
  rw [hy] at hy'; cases hy'
  refine .inr ⟨j', y, rfl, by omega, hy, hn2, fun k x' hk hx' hn' => ?_⟩
  by_cases e : k = i
  ·subst e; rw [hx] at hx'; cases hx'; exact hn
  ·exact h k x' (by omega) hx' hn'
theorem Sc.less {l out : List Zn} {i j : Nat} {x y : Zn} (h : Sc l out i (j : Nat)) (hx : l[i]? = some x) (hy : l[j]? = some y) (hN : Nx out x) (hn : Lt x y) : Sc l out (i + 1) (i : Nat) := by
 rcases h with ⟨e, _⟩ | ⟨j', y', e, hj, hy', hn2, h⟩
 ·omega
 ·have : j' = j := by omega
  subst this
  rw [hy] at hy'; cases hy'
  refine .inr ⟨i, x, rfl, by omega, hx, hN, fun k x' hk hx' hn' hlt => ?_⟩
  by_cases e : k = i
  ·subst e; rw [hx] at hx'; cases hx'; exact Lt.irrefl _ hlt
  ·exact h k x' (by omega) hx' hn' (Lt.trans hlt hn)
theorem last_take {S : List Zn} {p : Nat} (hp : p ≤ S.length) : (S.take p).getLast? = if p = 0 then none else S[p - 1]? := by
 rw [List.getLast?_eq_getElem?, List.length_take, Nat.min_eq_left hp]
 by_cases h : p = 0
 ·subst h; simp
 ·rw [if_neg h, List.getElem?_take, if_pos (by omega)]
theorem strict_at {S : List Zn} (h : S.Pairwise Lt) {i j : Nat} {x y : Zn} (hx : S[i]? = some x) (hy : S[j]? = some y) (hij : i < j) : Lt x y := by
 obtain ⟨h1, rfl⟩ := List.getElem?_eq_some_iff.1 hx
 obtain ⟨h2, rfl⟩ := List.getElem?_eq_some_iff.1 hy
 exact List.pairwise_iff_getElem.1 h i j h1 h2 hij
theorem nx_at {S : List Zn} (h : S.Pairwise Lt) {p j : Nat} {x : Zn} (hp : p ≤ S.length) (hx : S[j]? = some x) : Nx (S.take p) x ↔ p ≤ j := by
 unfold Nx
 rw [last_take hp]
 constructor
 ·intro hn
  by_cases e : p = 0
  ·omega
  rw [if_neg e] at hn
  obtain ⟨y, hy⟩ : ∃ y, S[p - 1]? = some y := ⟨_, List.getElem?_eq_getElem (by omega)⟩
  have hlt := hn y hy
  refine Nat.le_of_not_lt fun hj => ?_
  by_cases e2 : j = p - 1
  ·subst e2; rw [hx] at hy; cases hy; exact Lt.irrefl _ hlt
  ·exact Lt.irrefl _ (Lt.trans hlt (strict_at h hx hy (by omega)))
 ·intro hpj y hy
  by_cases e : p = 0
  ·rw [if_pos e] at hy; cases hy
  ·rw [if_neg e] at hy
   exact strict_at h hy hx (by omega)
theorem Sc.done {l : List Zn} {p : Nat} (hp : p ≤ (sorted l).length) (h : Sc l ((sorted l).take p) l.length (-1)) : (sorted l).take p = sorted l := by
 rcases h with ⟨_, h⟩ | ⟨j, y, e, _⟩
 ·refine List.take_of_length_le (Nat.le_of_not_lt fun hlt => ?_)
  have hx := List.getElem?_eq_getElem hlt
  obtain ⟨k, hk⟩ := List.mem_iff_getElem?.1 ((sorted_mem l _).1 (List.mem_of_getElem? hx))
  exact h k _ (List.getElem?_eq_some_iff.1 hk).1 hk ((nx_at (sorted_strict l) hp hx).2 (Nat.le_refl _))
 ·omega
theorem Sc.more {l : List Zn} {p j : Nat} {y : Zn} (hp : p ≤ (sorted l).length) (h : Sc l ((sorted l).take p) l.length (j : Nat)) (hy : l[j]? = some y) : (sorted l)[p]? = some y := by
 rcases h with ⟨e, _⟩ | ⟨j', y', e, hj, hy', hn2, h⟩
 ·omega
 ·have : j' = j := by omega
  subst this
  rw [hy] at hy'; cases hy'
  obtain ⟨q, hq⟩ := List.mem_iff_getElem?.1 ((sorted_mem l y).2 (List.mem_of_getElem? hy))
  have hpq := (nx_at (sorted_strict l) hp hq).1 hn2
  by_cases e : p = q
  ·rw [e]; exact hq
  have hql := (List.getElem?_eq_some_iff.1 hq).1
  have hx := List.getElem?_eq_getElem (l := sorted l) (i := p) (by omega)
  obtain ⟨k, hk⟩ := List.mem_iff_getElem?.1 ((sorted_mem l _).1 (List.mem_of_getElem? hx))
  exact absurd (strict_at (sorted_strict l) hx hq (by omega)) (h k _ (List.getElem?_eq_some_iff.1 hk).1 hk ((nx_at (sorted_strict l) hp hx).2 (Nat.le_refl _)))
end Cv
end Go.Proofs.YtanhnllkccldhaaGreat
namespace Go.Proofs.YtanhnllkccldhaaGreat
set_option linter.unusedVariables false
set_option linter.unusedSimpArgs false
set_option maxRecDepth 100000
open Go.RowKit Go.Proofs.YtanhnllkccldhaaGreat.Eng Enc
namespace Zo
end Zo
namespace Cv
theorem Sc.pos {l out : List Zn} {i : Nat} {b : Int} (h : Sc l out i b) (hb : ¬ b < 0) : ∃ j y, b = (j : Nat) ∧ j < i ∧ l[j]? = some y := by
 rcases h with ⟨rfl, _⟩ | ⟨j, y, rfl, hj, hy, _⟩
 ·omega
 ·exact ⟨j, y, rfl, hj, hy⟩
end Cv
namespace Zs
end Zs
theorem Sl.ldx {α : Type} [Enc α] {n : Nat} {W w : World} {L : List Nat} {a : Option Addr} {ad : Addr} {m cap : Nat} {l : List α} (h : Sl n W (.slice a m cap) l) {k : Nat} {x : α} (hk : l[k]? = some x) (had : a = some ad) (hB : Below n W w) (hL : ∀ b, b ∈ L → n ≤ b) {i : Nat} {c : Value} (hc : (enc x)[i]? = some c) {K : Value → Prop} (hK : K c) :
 LoadI w L ((ad.add ((k : Int).toNat * size α)).add i) K := by
 subst had
 obtain ⟨h1, h2⟩ := h.cell hk hB
 refine ⟨⟨_, ⟨h2 i c hc, fun e => ?_⟩, hK⟩⟩
 have hb : ∀ (q : Addr) (j : Nat), (q.add j).block = q.block := fun q j => by unfold Addr.add; split <;> rfl
 rw [hb, hb] at e
 have := hL _ e; omega
namespace Tb
def lng : Int → List Zn → Int
 | o, [] => o
 | o, z :: l => if z.c = 9223372036854775807 then 7 else lng (max o (min 7 (z.c / 2))) l
theorem lng_cons (o : Int) (z : Zn) (l : List Zn) : lng o (z :: l) = if z.c = 9223372036854775807 then 7 else lng (max o (min 7 (z.c / 2))) l := rfl
def may (l : List Zn) : Bool := !Cl.odd l && (decide ((Cv.prune l).2 = 0) && decide (l = (Cv.prune l).1))
end Tb
set_option maxHeartbeats 1000000 in
theorem rlong24_any (l : List Zn) (hi : ∀ z, z ∈ l → Zo.i64 z) (a : Option Addr) (cap : Nat) (w : World) (hS : Sl w.heap.size w (.slice a l.length cap) l) :
 Calls Tryz.prog 14 #[.slice a l.length cap] w fun e w' => e = .returned (.int .i64 (Tb.lng 0 l)) ∧ Below w.heap.size w w' := by
 refine fun_eq 0 w Tryz.func14 (args := [.val (.slice a l.length cap)]) rfl rfl ?_
 obtain ⟨_, _, hfe, hcap1, hcap2, _⟩ := hS.form
 injection hfe with _ _ hfe
 subst hfe
 unfold maxLen at hcap2
 refine LoopI.invC (α := Nat × Int × World) (fun y => [(3, .val (.int .i64 y.2.1)), (4, .val (.int .i64 y.1))]) (fun y => y.2.2) (fun y => y.1 ≤ l.length ∧ Below w.heap.size w y.2.2 ∧ (0 ≤ y.2.1 ∧ y.2.1 ≤ 7) ∧ Tb.lng y.2.1 (l.drop y.1) = Tb.lng 0 l) (fun y => l.length - y.1) ?_ ?_
 ·intro w1 h1
  exact ⟨(0, 0, w1), Cov.au rfl rfl rfl rfl rfl, rfl, Nat.zero_le _, h1.below, by simp, rfl⟩
 rintro ⟨k, o, V⟩ ⟨hk, hV, ho, hall⟩
 simp only at hk hV ho hall
 refine Branch.mk (fun hc2 => ?_) (fun hc2 => ?_)
 ·have hlt : k < l.length := by have := of_decide_eq_true hc2; simp only at this; omega
  have hx := List.getElem?_eq_getElem (l := l) (i := k) hlt
  have hdm : l.drop k = l[k]'hlt :: l.drop (k + 1) := List.drop_eq_getElem_cons hlt
  have hxi := hi _ (List.getElem_mem hlt)
  generalize l[k]'hlt = x at hx hdm hxi
  have hxc : -9223372036854775808 ≤ x.c ∧ x.c ≤ 9223372036854775807 := hxi x.c (by simp [Zo.matL])
  rw [hdm, Tb.lng_cons] at hall
  have hS4 := hS.go hV hV.size
  refine hS4.idx hx fun ad had => ?_
  refine Need.mk (by decide) ?_
  refine hS4.ldx hx had (Below.refl _ _) (by simp) (i := 2) (c := .int .i64 x.c) rfl ?_
  refine Branch.mk (fun hc3 => ?_) (fun hc3 => ?_)
  ·have hn : x.c = 9223372036854775807 := by simpa using hc3
   rw [if_pos hn] at hall
   refine EndI.mk fun w9 h9 => ?_
   rw [hall]
  ·have hn : ¬ x.c = 9223372036854775807 := by simpa using hc3
   rw [if_neg hn] at hall
   apply CallI.use1
   focus (exact fun w4 h4 => (rnumber_any x.c hxc.1 hxc.2 w4).mono fun e w' ⟨he, hw⟩ => ⟨he, hw ▸ Below.refl _ _⟩)
   intro w4 v4 h4 hB4
   have hml : maxL o [minL 7 [x.c / 2]] = max o (min 7 (x.c / 2)) := by simp only [maxL, minL, List.foldl_cons, List.foldl_nil]; omega
   rw [← hml] at hall
   refine Need.mk (by simp only [inK]; omega) (EndI.mk fun w9 h9 => ⟨(k + 1, maxL o [minL 7 [x.c / 2]], w9), Cov.au rfl rfl rfl rfl rfl, rfl, ⟨hlt, h9.below, by simp only; rw [hml]; omega, hall⟩, by simp only; omega⟩)
 ·have hge : k = l.length := by have := of_decide_eq_false hc2; simp only at this; omega
  subst hge
  rw [List.drop_length] at hall
  refine EndI.mk fun w9 h9 => ?_
  rw [← hall]; rfl
namespace Tb
def tmay (al nw : List Zn) : Bool :=
 if Zs.check al ≠ 0 ∨ Zs.check nw ≠ 0 ∨ Cl.odd al = true then false else decide ((Cv.all_ nw al).2 = 0) && ((Cv.all_ nw al).1 && !Cl.odd nw)
def capped (l : List Zn) (e zones : Int) : List Zn × Int := if e ≠ 0 ∨ zones < (l.length : Int) then ([], 300) else (l, 0)
end Tb
theorem tmay1_any (z : Zn) (w : World) : Calls Tryz.prog 104 #[.agg #[.int .i64 z.a, .int .i64 z.b, .int .i64 z.c, .int .i64 z.d, .int .i64 z.e, .int .i64 z.f]] w fun e w' => e = .returned (.bool (Cl.oddZ z)) ∧ Below w.heap.size w w' := by
 refine fun_eq 0 w Tryz.func104 (args := [.agg [.val (.int .i64 z.a), .val (.int .i64 z.b), .val (.int .i64 z.c), .val (.int .i64 z.d), .val (.int .i64 z.e), .val (.int .i64 z.f)]]) rfl rfl ?_
 refine NewI.mk fun b1 hb1 => ?_
 refine Need.mk (by decide) ?_
 unfold Cl.oddZ
 refine Branch.mk (fun h1 => ?_) (fun h1 => ?_)
 ·have h1 : decide (1 < z.b) = true := h1
  exact EndI.mk fun w9 h9 => by rw [h1]; rfl
 have h1 : decide (1 < z.b) = false := h1
 refine Need.mk (by decide) ?_
 exact EndI.mk fun w9 h9 => by rw [h1]; rfl
theorem tmay_any (al nw : List Zn) (a b : Option Addr) (ca cb : Nat) (w : World) (hS : Sl w.heap.size w (.slice a al.length ca) al) (hT : Sl w.heap.size w (.slice b nw.length cb) nw) :
 Calls Tryz.prog 63 #[.agg #[.slice a al.length ca, .slice b nw.length cb]] w fun e w' => e = .returned (.bool (Tb.tmay al nw)) ∧ Below w.heap.size w w' := by
 refine fun_eq 0 w Tryz.func63 (args := [.agg [.val (.slice a al.length ca), .val (.slice b nw.length cb)]]) rfl rfl ?_
 have st := Stay.first (w := w)
 refine NewI.mk fun b1 hb1 => ?_
 have hcon : ∀ (l : List Zn) (a : Option Addr) (c : Nat) (w : World), Sl w.heap.size w (.slice a l.length c) l → _ := fun l a c w h => containsZ_pure l Cl.oddZ a c 104 #[] w h Tryz.call104 fun x W hx _ => tmay1_any x W
 unfold Tb.tmay
 apply CallI.use1
 focus (exact fun w2 h2 => zscheck_any al a ca w2 (hS.st (st.at h2)))
 intro w2 v2 h2 hB2
 have st := st.nx h2 hB2
 refine Branch.mk (fun h1 => ?_) (fun h1 => ?_)
 ·rw [if_pos (.inl (of_decide_eq_true h1))]
  exact EndI.mk fun w9 h9 => rfl
 have h1 := of_decide_eq_false h1
 apply CallI.use1
 focus (exact fun w3 h3 => zscheck_any nw b cb w3 (hT.st (st.at h3)))
 intro w3 v3 h3 hB3
 have st := st.nx h3 hB3
 refine Branch.mk (fun h2 => ?_) (fun h2 => ?_)
 ·rw [if_pos (.inr (.inl (of_decide_eq_true h2)))]
  exact EndI.mk fun w9 h9 => rfl
 have h2 := of_decide_eq_false h2
 apply CallI.use1
 focus (exact fun w4 h4 => hcon al a ca w4 (hS.st (st.at h4)))
 intro w4 v4 h4 hB4
 have st := st.nx h4 hB4
 refine Branch.mk (fun h3 => ?_) (fun h3 => ?_)
 ·rw [if_pos (.inr (.inr h3))]
  exact EndI.mk fun w9 h9 => rfl
 rw [if_neg (fun h => by
  rcases h with h | h | h
  ·exact h1 h
  ·exact h2 h
  ·rw [show Cl.odd al = al.any Cl.oddZ from rfl, h3] at h; cases h)]
 apply CallI.use1
 focus (exact fun w5 h5 => zsin_any nw al b a cb ca w5 (hT.st (st.at h5)) (hS.st (st.at h5)))
 intro w5 v5 h5 hB5
 have st := st.nx h5 hB5
 refine Branch.mk (fun h4 => ?_) (fun h4 => ?_)
 case refine_2 => exact EndI.mk fun w9 h9 => by rw [h4]; rfl
 rw [h4]
 refine Branch.mk (fun h5 => ?_) (fun h5 => ?_)
 case refine_2 => exact EndI.mk fun w9 h9 => by rw [h5]; rfl
 rw [h5]
 apply CallI.use1
 focus (exact fun w6 h6 => hcon nw b cb w6 (hT.st (st.at h6)))
 intro w6 v6 h6 hB6
 have st := st.nx h6 hB6
 exact EndI.mk fun w9 h9 => rfl
theorem capped_any (l : List Zn) (e zones : Int) (a : Option Addr) (c : Nat) (w : World) :
 Calls Tryz.prog 34 #[.slice a l.length c, .int .i64 e, .int .i64 zones] w fun r w' => r = .returned (if e ≠ 0 ∨ zones < (l.length : Int) then .tuple #[.slice none 0 0, .int .i64 300] else .tuple #[.slice a l.length c, .int .i64 0]) ∧ Below w.heap.size w w' := by
 refine fun_eq 0 w Tryz.func34 (args := [.val (.slice a l.length c), .val (.int .i64 e), .val (.int .i64 zones)]) rfl rfl ?_
 refine Branch.mk (fun h1 => ?_) (fun h1 => ?_)
 ·rw [if_pos (.inl (of_decide_eq_true h1))]
  exact EndI.mk fun w9 h9 => rfl
 have h1 := of_decide_eq_false h1
 refine Branch.mk (fun h2 => ?_) (fun h2 => ?_)
 ·rw [if_pos (.inr (of_decide_eq_true h2))]
  exact EndI.mk fun w9 h9 => rfl
 have h2 := of_decide_eq_false h2
 rw [if_neg (fun h => h.elim h1 h2)]
 exact EndI.mk fun w9 h9 => rfl
structure Tbl where
 a : Svl
 n : Svl
instance encTbl : Enc Tbl := ⟨fun x => [.slice x.a.a x.a.len x.a.cap, .slice x.n.a x.n.len x.n.cap], 2, fun _ => rfl, by decide, fun _ v hv => by simp only [List.mem_cons, List.not_mem_nil, or_false] at hv; rcases hv with rfl | rfl <;> rfl, fun x => .agg #[.slice x.a.a x.a.len x.a.cap, .slice x.n.a x.n.len x.n.cap]⟩
theorem indexT_any (l : List Tbl) (p : Tbl → Bool) (a : Option Addr) (cap : Nat) (fid : FuncId) (caps : Array Value) (B : Nat) (w : World) (hB : B ≤ w.heap.size) (hS : Sl B w (.slice a l.length cap) l)
 (T : Nat → World → Prop) (h0 : T 0 w) (hst : ∀ k W W', T k W → Below W.heap.size W W' → T k W') (en : Enters Tryz.prog fid)
 (hcall : ∀ k x W, l[k]? = some x → Below B w W → T k W → Calls Tryz.prog fid (val x :: caps.toList).toArray W fun e W' => e = .returned (.bool (p x)) ∧ Below B W W' ∧ T (k + 1) W') :
 Calls Tryz.prog 103 #[.slice a l.length cap, .func (.func fid) #[] caps] w fun e w' => ∃ v, e = .returned v ∧ Below B w w' ∧ v = .int .i64 (idxF p l) ∧ T (cntF p l) w' := by
 obtain ⟨a', cap', e', hcap, hmax, _⟩ := hS.form
 injection e' with e1 e2 e3
 subst e1; subst e3
 unfold maxLen at hmax
 refine fun_at 0 B w hB Tryz.func103 (args := [.val (.slice a l.length cap), .val (.func (.func fid) #[] caps)]) rfl rfl ?_
 refine LoopI.inv (α := Nat × World) (fun x => [(8, .val (.int .i64 x.1))]) (fun _ => []) (fun x => x.2) (fun x => x.1 ≤ l.length ∧ T x.1 x.2 ∧ Below B w x.2 ∧ ∀ j y, j < x.1 → l[j]? = some y → p y = false) (fun x => l.length - x.1) ?_ ?_
 ·intro w1 h1
  exact ⟨(0, w1), Cov.au rfl rfl rfl rfl rfl, rfl, Nat.zero_le _, hst _ _ _ h0 h1.go, h1.below, fun j y hj => by omega⟩
 ·rintro ⟨k, W⟩ ⟨hk, hT, hBw, hno⟩
  refine Branch.mk (fun hb => ?_) (fun hb => ?_)
  ·have hlt : k < l.length := by simpa using hb
   obtain ⟨x, hx⟩ : ∃ x, l[k]? = some x := ⟨l[k], List.getElem?_eq_getElem hlt⟩
   refine hS.idx hx fun ad had => ?_
   refine hS.ld hx had hBw (by simp) ?_
   refine Need.mk en ?_
   refine CallI.mk fun w1 h1 => ?_
   have hT1 := hst _ _ _ hT h1.go
   refine (hcall k x w1 hx h1.below hT1).mono ?_
   rintro e w2 ⟨rfl, hB2, hT2⟩
   refine ⟨⟨hB2, by simp⟩, _, rfl, ?_⟩
   refine Branch.mk (fun hp => ?_) (fun hp => ?_)
   ·refine EndI.mk fun w3 h3 => ?_
    obtain ⟨i1, i2⟩ := idxF_at p l k x hx hp hno
    refine ⟨by rw [i1], by rw [i2]; exact hst _ _ _ hT2 h3.go⟩
   ·refine Need.mk (by show _ ∧ _; omega) (EndI.mk fun w3 h3 => ?_)
    refine ⟨(k + 1, w3), Cov.au rfl rfl rfl rfl rfl, rfl, ⟨hlt, hst _ _ _ hT2 h3.go, h3.below, fun j y hj hy => ?_⟩, by simp only; omega⟩
    by_cases hjk : j = k
    ·subst hjk; rw [hx] at hy; injection hy with hy; subst hy; exact hp
    ·exact hno j y (by omega) hy
  ·have hge : k = l.length := by have : ¬ k < l.length := by simpa using hb
                                 omega
   subst hge
   refine EndI.mk fun w3 h3 => ?_
   obtain ⟨i1, i2⟩ := idxF_none p l fun j y hy => hno j y (List.getElem?_eq_some_iff.1 hy).1 hy
   exact ⟨by rw [i1], by rw [i2]; exact hst _ _ _ hT h3.go⟩
theorem containsT_any (l : List Tbl) (p : Tbl → Bool) (a : Option Addr) (cap : Nat) (fid : FuncId) (caps : Array Value) (B : Nat) (w : World) (hB : B ≤ w.heap.size) (hS : Sl B w (.slice a l.length cap) l)
 (T : Nat → World → Prop) (h0 : T 0 w) (hst : ∀ k W W', T k W → Below W.heap.size W W' → T k W') (en : Enters Tryz.prog fid)
 (hcall : ∀ k x W, l[k]? = some x → Below B w W → T k W → Calls Tryz.prog fid (val x :: caps.toList).toArray W fun e W' => e = .returned (.bool (p x)) ∧ Below B W W' ∧ T (k + 1) W') :
 Calls Tryz.prog 61 #[.slice a l.length cap, .func (.func fid) #[] caps] w fun e w' => ∃ v, e = .returned v ∧ Below B w w' ∧ v = .bool (l.any p) ∧ T (cntF p l) w' := by
 refine fun_at 0 B w hB Tryz.func61 (args := [.val (.slice a l.length cap), .val (.func (.func fid) #[] caps)]) rfl rfl ?_
 refine CallI.mk fun w1 h1 => ?_
 have hB1 : B ≤ w1.heap.size := Nat.le_trans hB h1.size
 refine (indexT_any l p a cap fid caps B w1 hB1 (hS.below h1.below) T (hst _ _ _ h0 h1.go) hst en fun k x W hx hW hT => hcall k x W hx (h1.below.trans hW) hT).mono ?_
 rintro e w2 ⟨v, rfl, hB2, rfl, hT⟩
 refine ⟨⟨hB2, by simp⟩, _, rfl, ?_⟩
 refine EndI.mk fun w3 h3 => ⟨?_, hst _ _ _ hT h3.go⟩
 rw [← idxF_any]
theorem containsT_pure (l : List Tbl) (p : Tbl → Bool) (a : Option Addr) (cap : Nat) (fid : FuncId) (caps : Array Value) (w : World) (hS : Sl w.heap.size w (.slice a l.length cap) l) (en : Enters Tryz.prog fid)
 (hcall : ∀ x W, x ∈ l → Below w.heap.size w W → Calls Tryz.prog fid (val x :: caps.toList).toArray W fun e W' => e = .returned (.bool (p x)) ∧ Below W.heap.size W W') :
 Calls Tryz.prog 61 #[.slice a l.length cap, .func (.func fid) #[] caps] w fun e w' => e = .returned (.bool (l.any p)) ∧ Below w.heap.size w w' := by
 refine (containsT_any l p a cap fid caps w.heap.size w (Nat.le_refl _) hS (fun _ _ => True) trivial (fun _ _ _ _ _ => trivial) en fun k x W hx hB _ => ?_).mono ?_
 ·refine (hcall x W (List.mem_of_getElem? hx) hB).mono ?_
  rintro e W' ⟨rfl, hB'⟩
  exact ⟨rfl, hB'.mono hB.size, trivial⟩
 ·rintro e w' ⟨v, rfl, hB, rfl, _⟩
  exact ⟨rfl, hB⟩
theorem Sl.inj {α : Type} [Enc α] (hi : ∀ x y : α, enc x = enc y → x = y) {n m : Nat} {W : World} {sv : Value} {l k : List α} (h : Sl n W sv l) (g : Sl m W sv k) : l = k := by
 obtain ⟨a, c, e1, _, _, _, h4⟩ := h
 obtain ⟨a', c', e2, _, _, _, g4⟩ := g
 rw [e1] at e2
 injection e2 with q1 q2 q3
 subst q1
 refine List.ext_getElem? fun i => ?_
 rcases Nat.lt_or_ge i l.length with hl | hl
 ·have hx := List.getElem?_eq_getElem (l := l) (i := i) hl
  have hy := List.getElem?_eq_getElem (l := k) (i := i) (by omega)
  obtain ⟨b, o, ha, _, hb⟩ := h4 i _ hx
  obtain ⟨b', o', ha', _, hb'⟩ := g4 i _ hy
  rw [ha] at ha'
  injection ha' with ha'
  injection ha' with r1 r2 _
  subst r1; subst r2
  rw [hx, hy]
  congr 1
  refine hi _ _ (List.ext_getElem? fun j => ?_)
  rcases Nat.lt_or_ge j (size α) with hj | hj
  ·have u1 := List.getElem?_eq_getElem (l := enc l[i]) (i := j) (by rw [Enc.len]; exact hj)
   have u2 := List.getElem?_eq_getElem (l := enc k[i]) (i := j) (by rw [Enc.len]; exact hj)
   have v1 := hb j _ u1
   have v2 := hb' j _ u2
   rw [v1] at v2
   injection v2 with v2
   rw [u1, u2, v2]
  ·rw [List.getElem?_eq_none (by rw [Enc.len]; exact hj), List.getElem?_eq_none (by rw [Enc.len]; exact hj)]
 ·rw [List.getElem?_eq_none hl, List.getElem?_eq_none (by omega)]
theorem zn_inj (x y : Zn) (h : enc x = enc y) : x = y := by
 obtain ⟨a, b, c, d, e, f⟩ := x
 obtain ⟨a', b', c', d', e', f'⟩ := y
 simp [enc] at h
 obtain ⟨rfl, rfl, rfl, rfl, rfl, rfl⟩ := h
 rfl
namespace Tb
def Parts (n : Nat) (W : World) (ts : List Tbl) (ls : List (List Zn × List Zn)) : Prop := ts.length = ls.length ∧ ∀ (k : Nat) (t : Tbl) (l : List Zn × List Zn), ts[k]? = some t → ls[k]? = some l → Sl n W (.slice t.a.a t.a.len t.a.cap) l.1 ∧ t.a.len = l.1.length ∧ Sl n W (.slice t.n.a t.n.len t.n.cap) l.2 ∧ t.n.len = l.2.length
theorem Parts.go {n : Nat} {W X : World} {ts : List Tbl} {ls : List (List Zn × List Zn)} (h : Parts n W ts ls) (hB : Below n W X) (hn : n ≤ X.heap.size) : Parts X.heap.size X ts ls := ⟨h.1, fun k t l ht hl => by
 obtain ⟨h1, h2, h3, h4⟩ := h.2 k t l ht hl
 exact ⟨h1.go hB hn, h2, h3.go hB hn, h4⟩⟩
def ask (zones : Int) (ls : List (List Zn × List Zn)) : Int := if zones < 1 ∨ 4096 < zones then 2 else if (ls.any fun x => !tmay x.1 x.2) = true then 8 else 0
end Tb
theorem tasked1_any (al nw : List Zn) (a b : Option Addr) (ca cb : Nat) (w : World) (hS : Sl w.heap.size w (.slice a al.length ca) al) (hT : Sl w.heap.size w (.slice b nw.length cb) nw) :
 Calls Tryz.prog 62 #[.agg #[.slice a al.length ca, .slice b nw.length cb]] w fun e w' => e = .returned (.bool (!Tb.tmay al nw)) ∧ Below w.heap.size w w' := by
 refine fun_eq 0 w Tryz.func62 (args := [.agg [.val (.slice a al.length ca), .val (.slice b nw.length cb)]]) rfl rfl ?_
 have st := Stay.first (w := w)
 refine NewI.mk fun b1 hb1 => ?_
 apply CallI.use1
 focus (exact fun w2 h2 => tmay_any al nw a b ca cb w2 (hS.st (st.at h2)) (hT.st (st.at h2)))
 intro w2 v2 h2 hB2
 have st := st.nx h2 hB2
 exact EndI.mk fun w9 h9 => rfl
open Classical in
theorem tasked_any (zones : Int) (ts : List Tbl) (ls : List (List Zn × List Zn)) (a : Option Addr) (c : Nat) (w : World) (hP : Tb.Parts w.heap.size w ts ls) (hS : Sl w.heap.size w (.slice a ts.length c) ts) :
 Calls Tryz.prog 31 #[.int .i64 zones, .slice a ts.length c] w fun e w' => e = .returned (.int .i64 (Tb.ask zones ls)) ∧ Below w.heap.size w w' := by
 refine fun_eq 0 w Tryz.func31 (args := [.val (.int .i64 zones), .val (.slice a ts.length c)]) rfl rfl ?_
 unfold Tb.ask
 refine Branch.mk (fun h1 => ?_) (fun h1 => ?_)
 ·rw [if_pos (.inl (of_decide_eq_true h1))]
  exact EndI.mk fun w9 h9 => rfl
 have h1 := of_decide_eq_false h1
 refine Branch.mk (fun h2 => ?_) (fun h2 => ?_)
 ·rw [if_pos (.inr (of_decide_eq_true h2))]
  exact EndI.mk fun w9 h9 => rfl
 have h2 := of_decide_eq_false h2
 rw [if_neg (fun h => h.elim h1 h2)]
 let p : Tbl → Bool := fun t => decide (∃ (k : Nat) (l : List Zn × List Zn), ts[k]? = some t ∧ ls[k]? = some l ∧ Tb.tmay l.1 l.2 = false)
 have hp : ∀ (k : Nat) (t : Tbl) (l : List Zn × List Zn), ts[k]? = some t → ls[k]? = some l → p t = !Tb.tmay l.1 l.2 := fun k t l ht hl => by
  obtain ⟨u1, _, u2, _⟩ := hP.2 k t l ht hl
  show decide _ = _
  cases hm : Tb.tmay l.1 l.2 with
  | false => exact decide_eq_true ⟨k, l, ht, hl, hm⟩
  | true =>
    refine decide_eq_false ?_
    rintro ⟨k', l', ht', hl', hm'⟩
    obtain ⟨v1, _, v2, _⟩ := hP.2 k' t l' ht' hl'
    rw [Sl.inj zn_inj v1 u1, Sl.inj zn_inj v2 u2, hm] at hm'
    cases hm'
 have hany : ts.any p = ls.any fun x => !Tb.tmay x.1 x.2 := by
  rw [Bool.eq_iff_iff, List.any_eq_true, List.any_eq_true]
  constructor
  ·rintro ⟨t, ht, hpt⟩
   obtain ⟨k, hk⟩ := List.getElem?_of_mem ht
   have hkl := (List.getElem?_eq_some_iff.1 hk).1
   have hl := List.getElem?_eq_getElem (l := ls) (i := k) (by have := hP.1; omega)
   exact ⟨_, List.mem_of_getElem? hl, (hp k t _ hk hl).symm.trans hpt⟩
  ·rintro ⟨l, hl, hpl⟩
   obtain ⟨k, hk⟩ := List.getElem?_of_mem hl
   have hkl := (List.getElem?_eq_some_iff.1 hk).1
   have ht := List.getElem?_eq_getElem (l := ts) (i := k) (by have := hP.1; omega)
   exact ⟨_, List.mem_of_getElem? ht, (hp k _ l ht hk).trans hpl⟩
 have hcl : ∀ (w3 : World), Below w.heap.size w w3 → ∀ (x : Tbl) (W : World), x ∈ ts → Below w3.heap.size w3 W → Calls Tryz.prog 62 #[.agg #[.slice x.a.a x.a.len x.a.cap, .slice x.n.a x.n.len x.n.cap]] W fun e W' => e = .returned (.bool (p x)) ∧ Below W.heap.size W W' := fun w3 hw x W hx hB => by
  obtain ⟨k, hk⟩ := List.getElem?_of_mem hx
  have hkl := (List.getElem?_eq_some_iff.1 hk).1
  have hl := List.getElem?_eq_getElem (l := ls) (i := k) (by have := hP.1; omega)
  generalize ls[k]'(by have := hP.1; omega) = l at hl
  obtain ⟨u1, e1, u2, e2⟩ := ((hP.go hw hw.size).go hB hB.size).2 k x l hk hl
  rw [hp k x l hk hl]
  obtain ⟨⟨xa, xl, xc⟩, ⟨ya, yl, yc⟩⟩ := x
  simp only at u1 e1 u2 e2
  subst e1; subst e2
  exact tasked1_any l.1 l.2 xa ya xc yc W u1 u2
 apply CallI.use1
 focus (exact fun w3 h3 => containsT_pure ts p a c 62 #[] w3 (Sl.at h3 hS) Tryz.call62 fun x W hx hB => hcl w3 h3.below x W hx hB)
 intro w3 v3 h3 hB3
 rw [hany]
 refine Branch.mk (fun h4 => ?_) (fun h4 => ?_)
 ·rw [if_pos h4]
  exact EndI.mk fun w9 h9 => rfl
 ·rw [if_neg (by rw [h4]; decide)]
  exact EndI.mk fun w9 h9 => rfl
end Go.Proofs.YtanhnllkccldhaaGreat
namespace Go.Proofs.YtanhnllkccldhaaGreat
set_option linter.unusedVariables false
open Go.ChangeShapes Go.WideShapes Go.ChangeAt Go.RowKit Go.Deep Go.Proofs.YtanhnllkccldhaaGreat.Eng
section
variable {H : Type} {en : TypeId × Value → H} {P : Program}
theorem Tb.ins_i64 {z : Zn} (h : Zn.ins z) : Zo.i64 z := by
 obtain ⟨h1, h2, h3, h4, h5, h6⟩ := h
 simp only [inK] at h1 h2 h3 h4 h5 h6
 intro b hb
 unfold Zo.matL at hb
 unfold Dbm.int64
 simp only [List.mem_cons, List.not_mem_nil, or_false] at hb
 omega
theorem open_tbl {t ez : TypeId} {f0 f1 : Field} {r : Reach} {b0 : Nat} {v : Value} {d : DataW H} {ps : List MemPlace} {W : World} {sp : Nat → Bool} {hl : Bool} (ht : P.underlying t = some (.struct #[f0, f1])) (hc : P.cellsOf t = 2) (h0 : f0.offset = 0) (h1 : f1.offset = 1) (c0 : P.cellsOf f0.type = 1) (c1 : P.cellsOf f1.type = 1)
 (t0 : P.underlying f0.type = some (.slice ez)) (t1 : P.underlying f1.type = some (.slice ez)) (oz : Opens en P ez Zn Zn.ins)
 (hval : Value.okWide P W r b0 t v) (hd : DataW.Trod en P W 0 sp hl t v d ps) :
 ∃ (a b : Option Addr) (p q : List Zn) (ca cb : Nat), v = .agg #[.slice a p.length ca, .slice b q.length cb] ∧ Sl W.heap.size W (.slice a p.length ca) p ∧ (∀ z ∈ p, z.ins) ∧ Sl W.heap.size W (.slice b q.length cb) q ∧ ∀ z ∈ q, z.ins := by
 obtain ⟨v0, v1, y0, y1, n, rfl, k0, k1⟩ := open_two ht hc h0 h1 c0 c1 hval hd
 obtain ⟨pa, p, ca, e0, hS, hG⟩ := open_list t0 oz k0
 obtain ⟨qa, q, cq, e1, hT, hH⟩ := open_list t1 oz k1
 simp at e0 e1
 subst e0; subst e1
 exact ⟨pa, qa, p, q, ca, cq, rfl, hS, hG, hT, hH⟩
end
end Go.Proofs.YtanhnllkccldhaaGreat
namespace Go.Proofs.YtanhnllkccldhaaGreat
set_option linter.unusedVariables false
set_option linter.unusedSimpArgs false
open Go.RowKit Go.Proofs.YtanhnllkccldhaaGreat.Eng Enc
namespace Mi
open Dbm
def Sm (S : Int) (z : Zn) : Prop := ∀ k, k < 6 → Zo.get z k ≤ S
theorem get_mayC {z : Zn} (h : chk 3 (Zo.matL z) = 0) {k : Nat} (hk : k < 6) : mayC (Zo.get z k) = true := by
 obtain ⟨_, _, _, h4⟩ := chk_iff.1 h
 simp only [Zo.matL, List.any_cons, List.any_nil, Bool.or_false, Bool.or_eq_false_iff, Bool.not_eq_false'] at h4
 obtain ⟨_, h1, h2, h3, _, h5, h6, h7, _⟩ := h4
 rcases six hk with rfl | rfl | rfl | rfl | rfl | rfl <;> assumption
theorem chk_of_get {z : Zn} (h : ∀ k, k < 6 → mayC (Zo.get z k) = true) : chk 3 (Zo.matL z) = 0 := by
 have h0 : mayC z.a = true := h 0 (by decide)
 have h1 : mayC z.b = true := h 1 (by decide)
 have h2 : mayC z.c = true := h 2 (by decide)
 have h3 : mayC z.d = true := h 3 (by decide)
 have h4 : mayC z.e = true := h 4 (by decide)
 have h5 : mayC z.f = true := h 5 (by decide)
 have h6 : mayC 1 = true := by decide
 refine chk_iff.2 ⟨by decide, by decide, by simp [Zo.matL], ?_⟩
 simp [Zo.matL, h0, h1, h2, h3, h4, h5, h6]
theorem mayC_iff {b : Int} : mayC b = true ↔ b = NO ∨ (-288230376151711744 ≤ b / 2 ∧ b / 2 ≤ 288230376151711744) := by
 unfold mayC NO
 simp
theorem of_sm {L : List Int} {S : Int} (h0 : chk 3 L = 0) (hS : 0 ≤ S ∧ S ≤ 288230376151711744) (h : ∀ i j, i < 3 → j < 3 → i ≠ j → L[i * 3 + j]?.getD 0 ≤ S) :
 (Zo.of 3 L).2 = 6 ∨ ((Zo.of 3 L).2 = 0 ∧ Clo 3 (Zo.matL (Zo.of 3 L).1) ∧ ∀ i j, i < 3 → j < 3 → i ≠ j → (Zo.matL (Zo.of 3 L).1)[i * 3 + j]?.getD 0 ≤ L[i * 3 + j]?.getD 0) := by
 unfold Zo.of
 rw [if_pos h0, if_pos rfl]
 have hcl : close 3 L = (match closeL 3 L with | some L' => (3, L', 0) | none => (0, [], 6)) := by unfold close; rw [if_pos h0]; rfl
 cases hC : closeL 3 L with
 | none => rw [hC] at hcl; rw [hcl]; left; rfl
 | some C =>
   right
   rw [hC] at hcl
   rw [hcl, if_pos rfl]
   obtain ⟨L1, a2, a3, inv, hl, hE⟩ := close_inv h0 hC
   have clo := close_clo h0 hC
   have low : ∀ i j, i < 3 → j < 3 → i ≠ j → C[i * 3 + j]?.getD 0 ≤ L[i * 3 + j]?.getD 0 ∧ C[i * 3 + j]?.getD 0 ≠ NO := fun i j hi hj hne => by
    have h1 := inv.low i j hi hj
    have h2 := h i j hi hj hne
    have hno : L[i * 3 + j]?.getD 0 ≠ NO := fun e => by rw [e] at h2; unfold NO at h2; omega
    have h3 : mx 3 L1 i j = some (L[i * 3 + j]?.getD 0) := by
     unfold mx ob
     rw [a3 i j hi hj, if_neg hne, if_neg hno]
    rw [h3] at h1
    cases hv : mx 3 C i j with
    | none => rw [hv] at h1; exact h1.elim
    | some v =>
      rw [hv] at h1
      obtain ⟨e1, e2⟩ := mx_some hv
      rw [e1]
      exact ⟨h1, e2⟩
   have hmay : ∀ i j, i < 3 → j < 3 → mayC (C[i * 3 + j]?.getD 0) = true := fun i j hi hj => by
    by_cases e : i = j
    ·subst e
     rw [clo.diag i hi]; decide
    ·obtain ⟨l1, l2⟩ := low i j hi hj e
     obtain ⟨l3, l4⟩ := low j i hj hi (fun h => e h.symm)
     have s1 := h i j hi hj e
     have s2 := h j i hj hi (fun h => e h.symm)
     have h3 := clo.tri i i j hi hi hj
     have m1 : mx 3 C i i = some 1 := by unfold mx; rw [clo.diag i hi]; rfl
     have m2 : mx 3 C i j = some (C[i * 3 + j]?.getD 0) := by unfold mx ob; rw [if_neg l2]
     have m3 : mx 3 C j i = some (C[j * 3 + i]?.getD 0) := by unfold mx ob; rw [if_neg l4]
     rw [m1, m2, m3] at h3
     have h4 : (1 : Int) ≤ bsum (C[i * 3 + j]?.getD 0) (C[j * 3 + i]?.getD 0) := h3
     have h5 := bsum_half (C[i * 3 + j]?.getD 0) (C[j * 3 + i]?.getD 0)
     exact mayC_iff.2 (.inr (by omega))
   have hlen : C.length = 9 := clo.len
   have h1 : chk 3 C = 0 := by
    refine chk_iff.2 ⟨by decide, by decide, by rw [hlen]; decide, ?_⟩
    rw [List.any_eq_false]
    intro b hb
    obtain ⟨q, hq, rfl⟩ := List.getElem_of_mem hb
    have := hmay (q / 3) (q % 3) (by omega) (by omega)
    rw [show q / 3 * 3 + q % 3 = q by omega, List.getElem?_eq_getElem hq] at this
    simpa using this
   have e1 : (Zo.told (3, C, (0 : Int)).2.1) = (Zo.ofL C, 0) := by unfold Zo.told; exact if_pos h1
   have hm : Zo.matL (Zo.ofL C) = C := by
    have d0 := clo.diag 0 (by decide)
    have d1 := clo.diag 1 (by decide)
    have d2 := clo.diag 2 (by decide)
    match C, hlen with
    | [c0, c1, c2, c3, c4, c5, c6, c7, c8], _ =>
      simp at d0 d1 d2
      subst d0; subst d1; subst d2
      rfl
   rw [e1]
   refine ⟨rfl, ?_, fun i j hi hj hne => ?_⟩
   ·rw [hm]; exact clo
   ·rw [hm]; exact (low i j hi hj hne).1
theorem get_of_mat {z y : Zn} (h : ∀ i j, i < 3 → j < 3 → i ≠ j → (Zo.matL z)[i * 3 + j]?.getD 0 ≤ (Zo.matL y)[i * 3 + j]?.getD 0) : ∀ k, k < 6 → Zo.get z k ≤ Zo.get y k := fun k hk => by
 rcases six hk with rfl | rfl | rfl | rfl | rfl | rfl
 ·exact h 1 0 (by decide) (by decide) (by decide)
 ·exact h 0 1 (by decide) (by decide) (by decide)
 ·exact h 2 0 (by decide) (by decide) (by decide)
 ·exact h 0 2 (by decide) (by decide) (by decide)
 ·exact h 2 1 (by decide) (by decide) (by decide)
 ·exact h 1 2 (by decide) (by decide) (by decide)
theorem mat_of_get {z : Zn} {S : Int} (h : Sm S z) : ∀ i j, i < 3 → j < 3 → i ≠ j → (Zo.matL z)[i * 3 + j]?.getD 0 ≤ S := fun i j hi hj hne => by
 rcases (by omega : i = 0 ∨ i = 1 ∨ i = 2) with rfl | rfl | rfl <;> rcases (by omega : j = 0 ∨ j = 1 ∨ j = 2) with rfl | rfl | rfl <;> first
  | exact absurd rfl hne
  | exact h 0 (by decide)
  | exact h 1 (by decide)
  | exact h 2 (by decide)
  | exact h 3 (by decide)
  | exact h 4 (by decide)
  | exact h 5 (by decide)
theorem min_mayC {x y : Int} (hx : mayC x = true) (hy : mayC y = true) : mayC (min x y) = true := by
 rcases Int.le_total x y with h | h
 ·rw [Int.min_eq_left h]; exact hx
 ·rw [Int.min_eq_right h]; exact hy
theorem wth_sm {z : Zn} {S : Int} (hS : 0 ≤ S ∧ S ≤ 288230376151711744) (hz : Zo.chk z = 0) (hs : Sm S z) {i : Nat} (hi : i < 6) {b : Int} (hb : mayC b = true) :
 (wth z i b).2 = 6 ∨ ((wth z i b).2 = 0 ∧ ∀ k, k < 6 → Zo.get (wth z i b).1 k ≤ Zo.get z k) := by
 have hcut : ∀ k, k < 6 → Zo.get (cut z i b) k = if k = i then min (Zo.get z i) b else Zo.get z k := fun k hk => by unfold cut; exact get_set z hi hk _
 have hle : ∀ k, k < 6 → Zo.get (cut z i b) k ≤ Zo.get z k := fun k hk => by
  rw [hcut k hk]
  split
  ·rename_i e; rw [e]; omega
  ·omega
 have h0 : chk 3 (Zo.matL (cut z i b)) = 0 := chk_of_get fun k hk => by
  rw [hcut k hk]
  split
  ·exact min_mayC (get_mayC (Zo.clo hz).1 hi) hb
  ·exact get_mayC (Zo.clo hz).1 hk
 unfold wth
 rw [if_pos h0]
 rcases of_sm h0 hS (mat_of_get fun k hk => Int.le_trans (hle k hk) (hs k hk)) with h | ⟨h1, _, h3⟩
 ·exact .inl h
 ·exact .inr ⟨h1, fun k hk => Int.le_trans (get_of_mat h3 k hk) (hle k hk)⟩
theorem not_mayK {b : Int} (h : (Bd.not b).2 = 0) (hl : lim 288230376151711744 b) : mayC (Bd.not b).1 = true := by
 unfold Bd.not at h ⊢
 by_cases hn : b = NO
 ·subst hn
  rw [Incl.value_no] at h
  rw [if_neg (by decide)] at h; cases h
 rw [Incl.value_of hl hn] at h ⊢
 have hb := hl.resolve_left hn
 have hok : Num.okB (-(b / 2)) = true := Num.okB_iff.2 (by omega)
 simp only [if_true] at h ⊢
 unfold Bd.made at h ⊢
 rw [if_pos hok] at h ⊢
 simp only
 refine mayC_iff.2 (.inr ?_)
 unfold Bd.mk
 split <;> omega
def Dj (x y : Zn) : Prop := ∀ t, ¬ (Fz x t ∧ Fz y t)
theorem go_sm {b : Zn} {S : Int} (hS : 0 ≤ S ∧ S ≤ 288230376151711744) (hb : Zo.chk b = 0) : ∀ (l : List Nat) (x : Zn), (∀ i, i ∈ l → i < 6) → Zo.chk x = 0 → Sm S x →
 (∀ y, y ∈ go b l x → y.2 = 0 ∧ ∀ k, k < 6 → Zo.get y.1 k ≤ Zo.get x k) ∧ ((go b l x).map (·.1)).Pairwise Dj
 | [], x, _, _, _ => ⟨fun y hy => by simp [go] at hy, by simp [go]⟩
 | i :: l, x, hl, hx, hs => by
   have hi := hl i (by simp)
   have hll : ∀ j, j ∈ l → j < 6 := fun j hj => hl j (by simp [hj])
   have hcb := (Zo.clo hb).1
   unfold go
   by_cases hn : (Bd.not (Zo.get b i)).2 ≠ 0
   ·rw [if_pos hn]
    exact go_sm hS hb l x hll hx hs
   rw [if_neg hn]
   have hn : (Bd.not (Zo.get b i)).2 = 0 := by simpa using hn
   obtain ⟨n1, n2, n3⟩ := not_lt hn (get_lim hcb hi)
   have ho : other i < 6 := by unfold other; split <;> omega
   have hA := wth_sm hS hx hs ho (not_mayK hn (get_lim hcb hi))
   have hB := wth_sm hS hx hs hi (get_mayC hcb hi)
   -- the first one
   have first : ∀ y, y ∈ (if (wth x (other i) (Bd.not (Zo.get b i)).1).2 = 6 then [] else [wth x (other i) (Bd.not (Zo.get b i)).1]) → (y.2 = 0 ∧ ∀ k, k < 6 → Zo.get y.1 k ≤ Zo.get x k) ∧ ∀ t, Fz y.1 t → ¬ satO (dif i t) (ob (Zo.get b i)) := fun y hy => by
    rcases hA with hA | ⟨hA1, hA2⟩
    ·rw [if_pos hA] at hy; simp at hy
    ·rw [if_neg (by rw [hA1]; decide)] at hy
     rw [List.mem_singleton.1 hy]
     refine ⟨⟨hA1, hA2⟩, fun t ht => ?_⟩
     have := ((wth_ok (Zo.clo hx).1 ho (.inr n2) hA1).2 t).1 ht
     rw [dif_other hi] at this
     exact (n3 _).1 this.2
   have hfd : ((if (wth x (other i) (Bd.not (Zo.get b i)).1).2 = 6 then [] else [wth x (other i) (Bd.not (Zo.get b i)).1]).map (·.1)).Pairwise Dj := by
    split <;> simp
   rcases hB with hB | ⟨hB1, hB2⟩
   ·rw [if_pos (show (wth x i (Zo.get b i)).2 = 6 from hB), List.append_nil]
    exact ⟨fun y hy => (first y hy).1, hfd⟩
   ·rw [if_neg (show ¬ (wth x i (Zo.get b i)).2 = 6 by rw [hB1]; decide), if_pos hB1, List.nil_append]
    obtain ⟨w1, w2⟩ := wth_ok (Zo.clo hx).1 hi (lim_lt (get_lim hcb hi) (by omega)) hB1
    obtain ⟨g1, g2⟩ := go_sm hS hb l _ hll w1 (fun k hk => Int.le_trans (hB2 k hk) (hs k hk))
    refine ⟨fun y hy => ?_, ?_⟩
    ·rcases List.mem_append.1 hy with hy | hy
     ·exact (first y hy).1
     ·exact ⟨(g1 y hy).1, fun k hk => Int.le_trans ((g1 y hy).2 k hk) (hB2 k hk)⟩
    ·rw [List.map_append, List.pairwise_append]
     refine ⟨hfd, g2, fun u hu v hv t ht => ?_⟩
     obtain ⟨u', hu', rfl⟩ := List.mem_map.1 hu
     obtain ⟨v', hv', rfl⟩ := List.mem_map.1 hv
     have := (go_ok hcb l _ hll (Zo.clo w1).1 (fun y hy => (g1 y hy).1) v' hv').2 t ht.2
     exact (first u' hu').2 t ht.1 ((w2 t).1 this.1).2
theorem minus_sm {a b : Zn} {S : Int} (hS : 0 ≤ S ∧ S ≤ 288230376151711744) (ha : Zo.chk a = 0) (hb : Zo.chk b = 0) (hs : Sm S a) :
 (minus a b).2 = 0 ∧ (∀ y, y ∈ (minus a b).1 → ∀ k, k < 6 → Zo.get y k ≤ Zo.get a k) ∧ (minus a b).1.Pairwise Dj := by
 obtain ⟨g1, g2⟩ := go_sm hS hb [0, 1, 2, 3, 4, 5] a (by simp) ha hs
 unfold minus
 rw [if_pos ⟨ha, hb⟩]
 have hf : (parts a b).find? (fun x => decide (x.2 ≠ 0)) = none := List.find?_eq_none.2 fun x hx => by simp [(g1 x hx).1]
 rw [hf]
 refine ⟨rfl, fun y hy => ?_, g2⟩
 obtain ⟨x, hx, rfl⟩ := List.mem_map.1 hy
 exact (g1 x hx).2
end Mi
namespace Ky
open Dbm Mi
def fr (x : Rat) : Rat := x - (x.floor : Rat)
theorem fr_nonneg (x : Rat) : 0 ≤ fr x := by unfold fr; have := Rat.floor_le x; grind
theorem fr_lt (x : Rat) : fr x < 1 := by unfold fr; have := Rat.lt_floor_add_one x; rw [Rat.intCast_add] at this; have h : ((1 : Int) : Rat) = 1 := rfl; rw [h] at this; grind
theorem eq_fr (x : Rat) : x = (x.floor : Rat) + fr x := by unfold fr; grind
theorem le_key (x y : Rat) (c : Int) : x - y ≤ (c : Rat) ↔ x.floor - y.floor < c ∨ (x.floor - y.floor = c ∧ fr x ≤ fr y) := by
 have e1 := eq_fr x
 have e2 := eq_fr y
 have a1 := fr_nonneg x
 have a2 := fr_nonneg y
 have b1 := fr_lt x
 have b2 := fr_lt y
 have e3 : ((x.floor - y.floor : Int) : Rat) = (x.floor : Rat) - (y.floor : Rat) := Rat.intCast_sub ..
 rcases Int.lt_trichotomy (x.floor - y.floor) c with h | h | h
 ·have h1 : ((x.floor - y.floor + 1 : Int) : Rat) ≤ (c : Rat) := by exact_mod_cast (by omega : x.floor - y.floor + 1 ≤ c)
  rw [Rat.intCast_add, e3] at h1
  have h2 : ((1 : Int) : Rat) = 1 := rfl
  rw [h2] at h1
  exact ⟨fun _ => .inl h, fun _ => by grind⟩
 ·have h1 : ((x.floor - y.floor : Int) : Rat) = (c : Rat) := by rw [h]
  rw [e3] at h1
  constructor
  ·intro k; exact .inr ⟨h, by grind⟩
  ·rintro (k | ⟨_, k⟩)
   ·omega
   ·grind
 ·have h1 : ((c + 1 : Int) : Rat) ≤ ((x.floor - y.floor : Int) : Rat) := by exact_mod_cast (by omega : c + 1 ≤ x.floor - y.floor)
  rw [Rat.intCast_add, e3] at h1
  have h2 : ((1 : Int) : Rat) = 1 := rfl
  rw [h2] at h1
  constructor
  ·intro k; exfalso; grind
  ·rintro (k | ⟨k, _⟩) <;> omega
theorem lt_key (x y : Rat) (c : Int) : x - y < (c : Rat) ↔ x.floor - y.floor < c ∨ (x.floor - y.floor = c ∧ fr x < fr y) := by
 have e1 := eq_fr x
 have e2 := eq_fr y
 have a1 := fr_nonneg x
 have a2 := fr_nonneg y
 have b1 := fr_lt x
 have b2 := fr_lt y
 have e3 : ((x.floor - y.floor : Int) : Rat) = (x.floor : Rat) - (y.floor : Rat) := Rat.intCast_sub ..
 rcases Int.lt_trichotomy (x.floor - y.floor) c with h | h | h
 ·have h1 : ((x.floor - y.floor + 1 : Int) : Rat) ≤ (c : Rat) := by exact_mod_cast (by omega : x.floor - y.floor + 1 ≤ c)
  rw [Rat.intCast_add, e3] at h1
  have h2 : ((1 : Int) : Rat) = 1 := rfl
  rw [h2] at h1
  exact ⟨fun _ => .inl h, fun _ => by grind⟩
 ·have h1 : ((x.floor - y.floor : Int) : Rat) = (c : Rat) := by rw [h]
  rw [e3] at h1
  constructor
  ·intro k; exact .inr ⟨h, by grind⟩
  ·rintro (k | ⟨_, k⟩)
   ·omega
   ·grind
 ·have h1 : ((c + 1 : Int) : Rat) ≤ ((x.floor - y.floor : Int) : Rat) := by exact_mod_cast (by omega : c + 1 ≤ x.floor - y.floor)
  rw [Rat.intCast_add, e3] at h1
  have h2 : ((1 : Int) : Rat) = 1 := rfl
  rw [h2] at h1
  constructor
  ·intro k; exfalso; grind
  ·rintro (k | ⟨k, _⟩) <;> omega
theorem sat_key {x y x' y' : Rat} (h1 : x.floor - y.floor = x'.floor - y'.floor) (h2 : fr x ≤ fr y ↔ fr x' ≤ fr y') (h3 : fr y ≤ fr x ↔ fr y' ≤ fr x') (b : OB) : satO (x - y) b ↔ satO (x' - y') b := by
 cases b with
 | none => exact Iff.rfl
 | some v =>
   unfold satO
   simp only
   split
   ·rw [lt_key, lt_key, h1]
    have : fr x < fr y ↔ fr x' < fr y' := by rw [← Rat.not_le, ← Rat.not_le, h3]
    rw [this]
   ·rw [le_key, le_key, h1, h2]
structure Alike (t t' : Nat → Rat) : Prop where
 fl : ∀ i, i < 3 → (t i).floor - (t 0).floor = (t' i).floor - (t' 0).floor
 le : ∀ i j, i < 3 → j < 3 → (fr (t i) ≤ fr (t j) ↔ fr (t' i) ≤ fr (t' j))
theorem Alike.fz {t t' : Nat → Rat} (h : Alike t t') (z : Zn) : Fz z t ↔ Fz z t' := by
 constructor
 ·intro k i j hi hj
  exact (sat_key (by have := h.fl i hi; have := h.fl j hj; omega) (h.le i j hi hj) (h.le j i hj hi) _).1 (k i j hi hj)
 ·intro k i j hi hj
  exact (sat_key (by have := h.fl i hi; have := h.fl j hj; omega) (h.le i j hi hj) (h.le j i hj hi) _).2 (k i j hi hj)
theorem fr_int (n : Int) : fr (n : Rat) = 0 := by unfold fr; rw [Rat.floor_intCast]; grind
theorem fz_shift (z : Zn) (t : Nat → Rat) (c : Rat) : Fz z t ↔ Fz z (fun i => t i - c) := by
 unfold Fz Dbm.Fits
 constructor
 ·intro h i j hi hj
  have := h i j hi hj
  rwa [show t i - c - (t j - c) = t i - t j by grind]
 ·intro h i j hi hj
  have := h i j hi hj
  rwa [show t i - c - (t j - c) = t i - t j by grind] at this
theorem fl_add {n : Int} {g : Rat} (h0 : 0 ≤ g) (h1 : g < 1) : ((n : Rat) + g).floor = n ∧ fr ((n : Rat) + g) = g := by
 have hf : ((n : Rat) + g).floor = n := by
  apply Int.le_antisymm
  ·have : ((n : Rat) + g).floor < n + 1 := Rat.floor_lt_iff.2 (by rw [Rat.intCast_add]; have h : ((1 : Int) : Rat) = 1 := rfl; rw [h]; grind)
   omega
  ·exact Rat.le_floor_iff.2 (by grind)
 exact ⟨hf, by unfold fr; rw [hf]; grind⟩
end Ky
end Go.Proofs.YtanhnllkccldhaaGreat
namespace Go.Proofs.YtanhnllkccldhaaGreat
set_option linter.unusedVariables false
set_option linter.unusedSimpArgs false
set_option maxRecDepth 100000
open Go.RowKit Go.Proofs.YtanhnllkccldhaaGreat.Eng Enc
namespace Rg
def around (pl : Int) : Sp := if pl % 2 = 0 then ⟨pl.tdiv 2, false, pl.tdiv 2, false, false⟩ else ⟨pl.tdiv 2, true, pl.tdiv 2 + 1, true, false⟩
def diff (n long : Int) : Sp :=
 if (n / 3 / sides long) % 2 = 1 ∧ (n / 3 % sides long) % 2 = 1 then around (n / 3 % sides long - n / 3 / sides long + 1 - n % 3) else ⟨-16, false, 16, false, false⟩
def zone (n long : Int) : Zn × Int :=
 if (askPoint n long).2 = 0 then Zo.make (around (n / 3 / sides long)) (around (n / 3 % sides long)) (diff n long) else (Zo.nought, (askPoint n long).2)
end Rg
structure ZonesLaw (n : Int) (p : Pt) (long : Int) : Prop where
 ins : (Rg.askPoint n long).1.ins
 same : (Rg.zone n long).2 = (Rg.askPoint n long).2
 own : (Rg.askPoint n long).2 = 0 → Rg.askNumber (Rg.askPoint n long).1 long = (n, 0)
 has : (Rg.askPoint n long).2 = 0 → Zo.has (Rg.zone n long).1 (Rg.askPoint n long).1 = (true, 0)
 any : (Rg.askPoint n long).2 = 0 → (Zo.has (Rg.zone n long).1 p).2 = 0 → (Zo.has (Rg.zone n long).1 p).1 = (decide ((Rg.askNumber p long).2 = 0) && decide ((Rg.askNumber p long).1 = n))
end Go.Proofs.YtanhnllkccldhaaGreat
namespace Go.Proofs.YtanhnllkccldhaaGreat
set_option linter.unusedVariables false
set_option linter.unusedSimpArgs false
open Go.RowKit Go.Proofs.YtanhnllkccldhaaGreat.Eng Enc
namespace Rg
theorem cmp_three (a b : Rt) : (Fr.cmp a b).1 = -1 ∨ (Fr.cmp a b).1 = 0 ∨ (Fr.cmp a b).1 = 1 := by
 unfold Fr.cmp
 split
 ·show cmpI _ _ = -1 ∨ cmpI _ _ = 0 ∨ cmpI _ _ = 1
  unfold cmpI
  split
  ·exact .inl rfl
  ·split
   ·exact .inr (.inr rfl)
   ·exact .inr (.inl rfl)
 ·exact .inr (.inl rfl)
theorem order_three (p : Pt) : 0 ≤ order p ∧ order p ≤ 2 := by
 have := cmp_three (part p.t) (part p.u)
 unfold order
 split <;> omega
theorem number_back {p : Pt} {n long : Int} (h : number p long = n) (h0 : 0 ≤ n) (hl : 1 ≤ long ∧ long ≤ 16) :
 (Fr.cmp p.t p.u).1 < 0 ∧ place p.t = n / 3 / sides long ∧ place p.u = n / 3 % sides long ∧ order p = n % 3 := by
 have hs : 3 ≤ sides long ∧ sides long ≤ 33 := by unfold sides; omega
 have ho := order_three p
 unfold number at h
 split at h
 ·omega
 ·rename_i hc
  have h1 : (Fr.cmp p.t p.u).1 < 0 := by omega
  have h2 : 0 ≤ place p.t := by omega
  have h3 : place p.u < sides long := by omega
  have h4 : 0 ≤ place p.u := by
   have hf := floor_le h1
   unfold place at h2 ⊢
   split at h2 <;> split <;> omega
  have e3 : n / 3 = place p.t * sides long + place p.u := by omega
  refine ⟨h1, ?_, ?_, by omega⟩
  ·rw [e3, Int.add_comm, Int.add_mul_ediv_right _ _ (by omega), Int.ediv_eq_zero_of_lt h4 h3]; omega
  ·rw [e3, Int.add_comm, Int.add_mul_emod_self_right, Int.emod_eq_of_lt h4 h3]
end Rg
namespace Rg
theorem of_one {f : Int} (h : -2305843009213693952 ≤ f ∧ f ≤ 2305843009213693952) : Fr.of f 1 = (⟨f, 1⟩, 0) := by
 unfold Fr.of Fr.low
 have hg : Int.gcd f 1 = 1 := by simp
 have hok : Fr.okB f 1 = true := by
  unfold Fr.okB
  have : Fr.inB f 1 = true := Fr.in_iff.2 (by simp; omega)
  rw [this]; simp
 rw [if_neg (by omega), hg]
 simp only [Int.cast_ofNat_Int, Int.ediv_one]
 rw [if_pos hok]
theorem part_eq {a : Rt} (ha : a.ok = true) : part a = ⟨a.num % a.den, a.den⟩ := by
 have oa := Fr.ok_bd ha
 have hf : (Fr.floor a).1 = a.num / a.den := by unfold Fr.floor; rw [if_pos ha]
 unfold part
 rw [hf, of_one (by omega)]
 have hok : (⟨-(a.num / a.den), 1⟩ : Rt).ok = true := by
  show Fr.okB _ _ = true
  unfold Fr.okB
  have : Fr.inB (-(a.num / a.den)) 1 = true := Fr.in_iff.2 (by simp; omega)
  rw [this]; simp
 have hg0 : Nat.gcd a.num.natAbs a.den.natAbs = 1 := by
  have h := ha
  simp only [Rt.ok, Fr.okB, Bool.and_eq_true, decide_eq_true_eq] at h
  exact h.2
 have hg : Int.gcd (a.num % a.den) a.den = 1 := by
  have h1 : Int.gcd a.num a.den = 1 := hg0
  have h2 : Int.gcd (a.num % a.den + a.num / a.den * a.den) a.den = Int.gcd (a.num % a.den) a.den := Int.gcd_add_mul_right_left ..
  have h3 : a.num % a.den + a.num / a.den * a.den = a.num := by
   have := Int.mul_ediv_add_emod a.num a.den
   rw [Int.mul_comm] at this; omega
  rw [h3] at h2
  rw [← h2]; exact h1
 have htn : Fr.tn a ⟨-(a.num / a.den), 1⟩ = a.num % a.den := by
  unfold Fr.tn
  have := Int.mul_ediv_add_emod a.num a.den
  simp only [Int.mul_one, Int.neg_mul]
  rw [Int.mul_comm (a.num / a.den) a.den]; omega
 have hdn : Fr.dn a ⟨-(a.num / a.den), 1⟩ 1 = a.den := by unfold Fr.dn; simp
 unfold Fr.add
 rw [if_pos ⟨ha, hok⟩]
 unfold Fr.sum
 rw [htn, hdn, hg]
 simp only [Int.cast_ofNat_Int, Int.ediv_one]
 rw [if_pos]
 refine ⟨?_, ?_⟩
 ·unfold Fr.okB
  have : Fr.inB (a.num % a.den) a.den = true := Fr.in_iff.2 (by rw [Int.ediv_eq_zero_of_lt oa.2.2.2.2.1 oa.2.2.2.2.2]; omega)
  rw [this]
  have hg' : Nat.gcd (a.num % a.den).natAbs a.den.natAbs = 1 := hg
  simp only [hg']
  simp; omega
 ·unfold Fr.inI; simp; omega
theorem part_ok {a : Rt} (ha : a.ok = true) : (part a).ok = true := by
 have oa := Fr.ok_bd ha
 rw [part_eq ha]
 have hg0 : Nat.gcd a.num.natAbs a.den.natAbs = 1 := by
  have h := ha
  simp only [Rt.ok, Fr.okB, Bool.and_eq_true, decide_eq_true_eq] at h
  exact h.2
 have hg : Int.gcd (a.num % a.den) a.den = 1 := by
  have h1 : Int.gcd a.num a.den = 1 := hg0
  have h2 : Int.gcd (a.num % a.den + a.num / a.den * a.den) a.den = Int.gcd (a.num % a.den) a.den := Int.gcd_add_mul_right_left ..
  have h3 : a.num % a.den + a.num / a.den * a.den = a.num := by
   have := Int.mul_ediv_add_emod a.num a.den
   rw [Int.mul_comm] at this; omega
  rw [h3] at h2
  rw [← h2]; exact h1
 show Fr.okB _ _ = true
 unfold Fr.okB
 have : Fr.inB (a.num % a.den) a.den = true := Fr.in_iff.2 (by rw [Int.ediv_eq_zero_of_lt oa.2.2.2.2.1 oa.2.2.2.2.2]; omega)
 rw [this]
 have hg' : Nat.gcd (a.num % a.den).natAbs a.den.natAbs = 1 := hg
 simp only [hg']
 simp; omega
def rX (t u : Rt) : Int := t.num % t.den * u.den
theorem place_eq {t u : Rt} (ht : t.ok = true) (hu : u.ok = true) : place t = 2 * (t.num / t.den) + (if rX t u = 0 then 0 else 1) := by
 have ot := Fr.ok_bd ht
 have ou := Fr.ok_bd hu
 have hf : (Fr.floor t).1 = t.num / t.den := by unfold Fr.floor; rw [if_pos ht]
 unfold place
 rw [part_eq ht, hf]
 simp only
 have : t.num % t.den = 0 ↔ rX t u = 0 := by
  unfold rX
  rw [Int.mul_eq_zero]
  constructor
  ·exact .inl
  ·rintro (h | h)
   ·exact h
   ·omega
 by_cases h : t.num % t.den = 0
 ·rw [if_pos h, if_pos (this.1 h)]; omega
 ·rw [if_neg h, if_neg (fun hh => h (this.2 hh))]
theorem cmp_part {t u : Rt} (ht : t.ok = true) (hu : u.ok = true) : (Fr.cmp (part t) (part u)).1 = cmpI (rX t u) (rX u t) := by
 unfold Fr.cmp
 rw [if_pos ⟨part_ok ht, part_ok hu⟩]
 unfold Fr.cmpR
 rw [part_eq ht, part_eq hu]
 rfl
theorem rX_bd {t u : Rt} (ht : t.ok = true) (hu : u.ok = true) : 0 ≤ rX t u := by
 have ot := Fr.ok_bd ht
 have ou := Fr.ok_bd hu
 exact Int.mul_nonneg ot.2.2.2.2.1 (by omega)
theorem cmp_iff {t u : Rt} (ht : t.ok = true) (hu : u.ok = true) : (Fr.cmp t u).1 < 0 ↔ t.num / t.den < u.num / u.den ∨ (t.num / t.den = u.num / u.den ∧ rX t u < rX u t) := by
 have h := (Fr.sign_eq ht hu 0).1
 have e : (Fr.cmp t u).1 < 0 ↔ t.num * u.den < u.num * t.den := by
  unfold Fr.cmp; rw [if_pos ⟨ht, hu⟩]; exact Fr.cmpI_lt
 rw [e]
 rw [Int.zero_mul] at h
 have : t.num * u.den < u.num * t.den ↔ t.num * u.den - u.num * t.den < 0 := by omega
 rw [this, ← h]
 unfold Fr.sign Fr.rest
 show (if cmpI _ 0 ≠ 0 then cmpI _ 0 else cmpI (rX t u) (rX u t)) < 0 ↔ _
 generalize rX t u = x
 generalize rX u t = y
 generalize t.num / t.den = a
 generalize u.num / u.den = b
 unfold cmpI
 split <;> split <;> omega
def cl3 (T U r : Int) : Zn := ⟨T + 1, 1 - T, U + 1, 1 - U, U - T + 2 - r, T - U + r⟩
def may3 (T U r : Int) : Bool := decide (0 ≤ T) && decide (T ≤ U) && decide (U ≤ 32) && decide (0 ≤ r) && decide (r ≤ 2) && (decide (T < U) || (decide (T % 2 = 1) && decide (r = 0))) && (decide (T % 2 = 1 ∧ U % 2 = 1) || decide (r = 1))
end Rg
end Go.Proofs.YtanhnllkccldhaaGreat
namespace Go.Proofs.YtanhnllkccldhaaGreat
open Go.RowKit Go.Proofs.YtanhnllkccldhaaGreat.Eng Enc
namespace Rg
def diff3 (T U r : Int) : Sp := if T % 2 = 1 ∧ U % 2 = 1 then around (U - T + 1 - r) else ⟨-16, false, 16, false, false⟩
def zone3 (T U r : Int) : Zn × Int := Zo.make (around T) (around U) (diff3 T U r)
def pt3 (T U r : Int) : Pt := ⟨time T (parts r).1 (parts r).2.2, time U (parts r).2.1 (parts r).2.2⟩
def good3 (T U r : Int) : Bool := decide ((Fr.cmp (pt3 T U r).t (pt3 T U r).u).1 < 0) && decide (place (pt3 T U r).t = T) && decide (place (pt3 T U r).u = U) && decide (order (pt3 T U r) = r)
def zeq (x : Zn × Int) (z : Zn) : Bool := decide (Zo.matL x.1 = Zo.matL z) && decide (x.2 = 0)
def fine3 (T U r : Int) : Bool := !(good3 T U r) || (may3 T U r && zeq (zone3 T U r) (cl3 T U r) && decide (Zo.chk (cl3 T U r) = 0))
def fine (T : Int) : Bool := (List.range 33).all fun U : Nat => (List.range 3).all fun r : Nat => fine3 T U r
end Rg
end Go.Proofs.YtanhnllkccldhaaGreat
namespace Go.Proofs.YtanhnllkccldhaaGreat
set_option maxRecDepth 100000
namespace Rg
end Rg
namespace Rg
end Rg
namespace Rg
end Rg
namespace Rg
end Rg
namespace Rg
end Rg
namespace Rg
end Rg
namespace Rg
end Rg
namespace Rg
end Rg
namespace Rg
end Rg
namespace Rg
end Rg
namespace Rg
end Rg
end Go.Proofs.YtanhnllkccldhaaGreat
namespace Go.Proofs.YtanhnllkccldhaaGreat
set_option linter.unusedVariables false
namespace Rg
end Rg
end Go.Proofs.YtanhnllkccldhaaGreat
namespace Go.Proofs.YtanhnllkccldhaaGreat
set_option linter.unusedVariables false
open Go.RowKit Go.Proofs.YtanhnllkccldhaaGreat.Eng Enc
namespace Rg
end Rg
end Go.Proofs.YtanhnllkccldhaaGreat
namespace Go.Proofs.YtanhnllkccldhaaGreat
set_option linter.unusedVariables false
set_option linter.unusedSimpArgs false
set_option maxRecDepth 100000
open Go.RowKit Go.Proofs.YtanhnllkccldhaaGreat.Eng Enc
namespace Rg
def mg (T : Int) : Bool := (List.range 33).all fun U : Nat => (List.range 3).all fun r : Nat => !(may3 T U r) || good3 T U r
theorem mg_0 : ((List.range 17).all fun T : Nat => mg T) = true := by decide +kernel
theorem mg_1 : ((List.range 16).all fun T : Nat => mg ((T : Int) + 17)) = true := by decide +kernel
theorem may_good {T U r : Int} (hT : 0 ≤ T ∧ T < 33) (h : may3 T U r = true) : good3 T U r = true := by
 have h0 := h
 simp only [may3, Bool.and_eq_true, Bool.or_eq_true, decide_eq_true_eq] at h0
 have hm : mg T = true := by
  by_cases h17 : T < 17
  ·have := List.all_eq_true.1 mg_0 T.toNat (List.mem_range.2 (by omega))
   rwa [Int.toNat_of_nonneg hT.1] at this
  ·have := List.all_eq_true.1 mg_1 (T - 17).toNat (List.mem_range.2 (by omega))
   rwa [show ((T - 17).toNat : Int) + 17 = T by omega] at this
 have h1 := List.all_eq_true.1 hm U.toNat (List.mem_range.2 (by omega))
 have h2 := List.all_eq_true.1 h1 r.toNat (List.mem_range.2 (by omega))
 rw [Int.toNat_of_nonneg (by omega), Int.toNat_of_nonneg (by omega), h] at h2
 simpa using h2
theorem rep_of {p : Pt} {long : Int} (hl : 1 ≤ long ∧ long ≤ 16) (hp : 0 ≤ number p long) : may3 (place p.t) (place p.u) (order p) = true ∧ (point (number p long) long).2 = true ∧ 0 ≤ number p long ∧ number p long < (many long).1 ∧
 (pt (number p long) long).t.ok = true ∧ (pt (number p long) long).u.ok = true ∧ place (pt (number p long) long).t = place p.t ∧ place (pt (number p long) long).u = place p.u ∧ order (pt (number p long) long) = order p := by
 have hs : 3 ≤ sides long ∧ sides long ≤ 33 := by unfold sides; omega
 have hnum := hp
 obtain ⟨k1, k2, k3, k4⟩ := number_back (p := p) rfl hp hl
 obtain ⟨ht, hu, _⟩ := cmp_lt k1
 have hk1 := (cmp_iff ht hu).1 k1
 have hcd : ¬ (0 ≤ (Fr.cmp p.t p.u).1 ∨ place p.t < 0 ∨ sides long ≤ place p.u) := fun h => by
  unfold number at hp; rw [if_pos h] at hp; omega
 have hmy : may3 (place p.t) (place p.u) (order p) = true := by
  have ho : 0 ≤ order p ∧ order p ≤ 2 := order_three p
  have x1 := rX_bd ht hu
  have x2 := rX_bd hu ht
  have e1 := place_eq ht hu
  have e2 := place_eq hu ht
  have hor : ((place p.t % 2 = 1 ∧ place p.u % 2 = 1) ∧ order p = 1 + cmpI (rX p.t p.u) (rX p.u p.t)) ∨ (¬ (place p.t % 2 = 1 ∧ place p.u % 2 = 1) ∧ order p = 1) := by
   unfold order
   by_cases h : place p.t % 2 = 1 ∧ place p.u % 2 = 1
   ·rw [if_pos h, cmp_part ht hu]; exact .inl ⟨h, rfl⟩
   ·rw [if_neg h]; exact .inr ⟨h, rfl⟩
  have hcc : (rX p.t p.u < rX p.u p.t ∧ cmpI (rX p.t p.u) (rX p.u p.t) = -1) ∨ (rX p.t p.u = rX p.u p.t ∧ cmpI (rX p.t p.u) (rX p.u p.t) = 0) ∨ (rX p.u p.t < rX p.t p.u ∧ cmpI (rX p.t p.u) (rX p.u p.t) = 1) := by unfold cmpI; split <;> (try split) <;> omega
  simp only [may3, Bool.and_eq_true, Bool.or_eq_true, decide_eq_true_eq]
  generalize order p = o at *
  generalize cmpI (rX p.t p.u) (rX p.u p.t) = c at *
  generalize rX p.t p.u = x at *
  generalize rX p.u p.t = y at *
  generalize p.t.num / p.t.den = A at *
  generalize p.u.num / p.u.den = B at *
  generalize place p.t = T at *
  generalize place p.u = U at *
  split at e1 <;> split at e2 <;> omega
 have hT : 0 ≤ place p.t ∧ place p.t < 33 := by
  simp only [may3, Bool.and_eq_true, Bool.or_eq_true, decide_eq_true_eq] at hmy
  omega
 have hg := may_good hT hmy
 have hpt : pt (number p long) long = pt3 (place p.t) (place p.u) (order p) := by
  unfold pt pt3
  rw [← k2, ← k3, ← k4]
 unfold good3 at hg
 simp only [Bool.and_eq_true, decide_eq_true_eq] at hg
 obtain ⟨⟨⟨g1, g2⟩, g3⟩, g4⟩ := hg
 rw [← hpt] at g1 g2 g3 g4
 obtain ⟨o1, o2, _⟩ := cmp_lt g1
 have hval : number p long = 3 * (place p.t * sides long + place p.u) + order p := by
  conv => lhs; unfold number
  rw [if_neg hcd]
 have hsame : number (pt (number p long) long) long = number p long := by
  have hun : ∀ q : Pt, (Fr.cmp q.t q.u).1 < 0 → place q.t = place p.t → place q.u = place p.u → order q = order p → number q long = 3 * (place p.t * sides long + place p.u) + order p := fun q q1 q2 q3 q4 => by
   unfold number
   rw [q2, q3, q4, if_neg (by omega)]
  rw [hun _ g1 g2 g3 g4, hval]
 have hmn : number p long < (many long).1 := by
  have e : number p long = 3 * (place p.t * sides long + place p.u) + order p := by
   conv => lhs; unfold number
   rw [if_neg hcd]
  have hm : (many long).1 = 3 * sides long * sides long := by unfold many; rw [if_pos (fits_iff.2 hl)]
  have ho : 0 ≤ order p ∧ order p ≤ 2 := order_three p
  have h1 : place p.t < sides long := by
   simp only [may3, Bool.and_eq_true, Bool.or_eq_true, decide_eq_true_eq] at hmy
   omega
  have h2 : place p.t * sides long ≤ (sides long - 1) * sides long := Int.mul_le_mul_of_nonneg_right (by omega) (by omega)
  rw [Int.sub_mul, Int.one_mul] at h2
  rw [e, hm, Int.mul_assoc]
  omega
 exact ⟨hmy, by unfold point; simpa using hsame, hp, hmn, o1, o2, g2, g3, g4⟩
end Rg
end Go.Proofs.YtanhnllkccldhaaGreat
namespace Go.Proofs.YtanhnllkccldhaaGreat
set_option linter.unusedVariables false
set_option linter.unusedSimpArgs false
open Go.RowKit Go.Proofs.YtanhnllkccldhaaGreat.Eng Enc
namespace Rg
theorem den_one {a : Rt} (ha : a.ok = true) : a.num % a.den = 0 ↔ a.den = 1 := by
 have oa := Fr.ok_bd ha
 constructor
 ·intro h
  have hg0 : Nat.gcd a.num.natAbs a.den.natAbs = 1 := by
   have h := ha
   simp only [Rt.ok, Fr.okB, Bool.and_eq_true, decide_eq_true_eq] at h
   exact h.2
  have hd : a.den ∣ a.num := Int.dvd_of_emod_eq_zero h
  have hg : Int.gcd a.num a.den = a.den.natAbs := Int.gcd_eq_right_iff_dvd (by omega) |>.2 hd |> fun h => by
   have : (Int.gcd a.num a.den : Int) = a.den := h
   omega
  have : Int.gcd a.num a.den = 1 := hg0
  omega
 ·intro h; rw [h]; omega
theorem floor_ok {a : Rt} (ha : a.ok = true) : (Fr.floor a).1 = a.num / a.den := by unfold Fr.floor; rw [if_pos ha]
theorem place_den {a : Rt} (ha : a.ok = true) : place a = if a.den = 1 then 2 * a.num else 2 * (Fr.floor a).1 + 1 := by
 unfold place
 rw [part_eq ha, floor_ok ha]
 simp only
 by_cases h : a.den = 1
 ·rw [if_pos ((den_one ha).2 h), if_pos h, h]; simp
 ·rw [if_neg (fun h' => h ((den_one ha).1 h')), if_neg h]
theorem odd_den {a : Rt} (ha : a.ok = true) : place a % 2 = 1 ↔ a.den ≠ 1 := by
 rw [place_den ha]
 split <;> omega
end Rg
namespace Ky
open Dbm Mi
def pl (x : Rat) : Int := if fr x = 0 then 2 * x.floor else 2 * x.floor + 1
def od (x y : Rat) : Int := if fr x = 0 ∨ fr y = 0 then 1 else if fr x < fr y then 0 else if fr x = fr y then 1 else 2
theorem pl_two {x y : Rat} (h : pl x = pl y) : x.floor = y.floor ∧ (fr x = 0 ↔ fr y = 0) := by
 unfold pl at h
 by_cases h1 : fr x = 0 <;> by_cases h2 : fr y = 0 <;> simp only [h1, h2, if_true, if_false] at h
 ·exact ⟨by omega, by simp [h1, h2]⟩
 ·omega
 ·omega
 ·exact ⟨by omega, by simp [h1, h2]⟩
theorem od_le {x y x' y' : Rat} (hx : fr x = 0 ↔ fr x' = 0) (hy : fr y = 0 ↔ fr y' = 0) (h : od x y = od x' y') : (fr x ≤ fr y ↔ fr x' ≤ fr y') ∧ (fr y ≤ fr x ↔ fr y' ≤ fr x') := by
 have a1 := fr_nonneg x
 have a2 := fr_nonneg y
 have a3 := fr_nonneg x'
 have a4 := fr_nonneg y'
 unfold od at h
 by_cases h1 : fr x = 0
 ·have h1' := hx.1 h1
  by_cases h2 : fr y = 0
  ·have h2' := hy.1 h2
   rw [h1, h2, h1', h2']
   exact ⟨Iff.rfl, Iff.rfl⟩
  ·have h2' : ¬ fr y' = 0 := fun e => h2 (hy.2 e)
   rw [h1, h1']
   exact ⟨⟨fun _ => a4, fun _ => a2⟩, ⟨fun k => absurd (by grind) h2, fun k => absurd (by grind) h2'⟩⟩
 ·have h1' : ¬ fr x' = 0 := fun e => h1 (hx.2 e)
  by_cases h2 : fr y = 0
  ·have h2' := hy.1 h2
   rw [h2, h2']
   exact ⟨⟨fun k => absurd (by grind) h1, fun k => absurd (by grind) h1'⟩, ⟨fun _ => a3, fun _ => a1⟩⟩
  ·have h2' : ¬ fr y' = 0 := fun e => h2 (hy.2 e)
   simp only [h1, h2, h1', h2', or_self, if_false] at h
   by_cases k1 : fr x < fr y <;> by_cases k2 : fr x' < fr y' <;> simp only [k1, k2, if_true, if_false] at h
   ·grind
   ·split at h <;> omega
   ·split at h <;> omega
   ·by_cases k3 : fr x = fr y <;> by_cases k4 : fr x' = fr y' <;> simp only [k3, k4, if_true, if_false] at h
    ·grind
    ·omega
    ·omega
    ·grind
theorem alike_of {t t' : Nat → Rat} (h0 : t 0 = 0) (h0' : t' 0 = 0) (h1 : pl (t 1) = pl (t' 1)) (h2 : pl (t 2) = pl (t' 2)) (h3 : od (t 1) (t 2) = od (t' 1) (t' 2)) : Alike t t' := by
 obtain ⟨a1, a2⟩ := pl_two h1
 obtain ⟨b1, b2⟩ := pl_two h2
 obtain ⟨c1, c2⟩ := od_le a2 b2 h3
 have z : fr (0 : Rat) = 0 := fr_int 0
 have n1 := fr_nonneg (t 1)
 have n2 := fr_nonneg (t 2)
 have n3 := fr_nonneg (t' 1)
 have n4 := fr_nonneg (t' 2)
 have e1 : ∀ x : Rat, 0 ≤ x → (x ≤ 0 ↔ x = 0) := fun x hx => ⟨fun h => by grind, fun h => by grind⟩
 refine ⟨fun i hi => ?_, fun i j hi hj => ?_⟩
 ·rw [h0, h0']
  rcases (by omega : i = 0 ∨ i = 1 ∨ i = 2) with rfl | rfl | rfl
  ·rw [h0, h0']
  ·rw [a1]
  ·rw [b1]
 ·rcases (by omega : i = 0 ∨ i = 1 ∨ i = 2) with rfl | rfl | rfl <;> rcases (by omega : j = 0 ∨ j = 1 ∨ j = 2) with rfl | rfl | rfl
  ·exact ⟨fun _ => Rat.le_refl, fun _ => Rat.le_refl⟩
  ·rw [h0, h0', z]; exact ⟨fun _ => n3, fun _ => n1⟩
  ·rw [h0, h0', z]; exact ⟨fun _ => n4, fun _ => n2⟩
  ·rw [h0, h0', z, e1 _ n1, e1 _ n3]; exact a2
  ·exact ⟨fun _ => Rat.le_refl, fun _ => Rat.le_refl⟩
  ·exact c1
  ·rw [h0, h0', z, e1 _ n2, e1 _ n4]; exact b2
  ·exact c2
  ·exact ⟨fun _ => Rat.le_refl, fun _ => Rat.le_refl⟩
theorem v_parts {a : Rt} (ha : a.ok = true) : (Fr.v a).floor = a.num / a.den ∧ fr (Fr.v a) = ((a.num % a.den : Int) : Rat) / ((a.den : Int) : Rat) ∧ (0 : Rat) < ((a.den : Int) : Rat) := by
 have oa := Fr.ok_bd ha
 have hd : (0 : Rat) < ((a.den : Int) : Rat) := by exact_mod_cast (by omega : 0 < a.den)
 have hd0 : ((a.den : Int) : Rat) ≠ 0 := by grind
 have e1 : (a.num : Rat) = ((a.num / a.den : Int) : Rat) * (a.den : Rat) + ((a.num % a.den : Int) : Rat) := by
  rw [← Rat.intCast_mul, ← Rat.intCast_add]
  congr 1
  have := Int.mul_ediv_add_emod a.num a.den
  rw [Int.mul_comm] at this
  omega
 have e2 : Fr.v a = ((a.num / a.den : Int) : Rat) + ((a.num % a.den : Int) : Rat) / ((a.den : Int) : Rat) := by
  unfold Fr.v
  rw [e1]
  grind
 have g0 : (0 : Rat) ≤ ((a.num % a.den : Int) : Rat) / ((a.den : Int) : Rat) := by
  rw [← Rat.not_lt, Rat.div_lt_iff hd, Rat.zero_mul]
  have : (0 : Rat) ≤ ((a.num % a.den : Int) : Rat) := by exact_mod_cast oa.2.2.2.2.1
  grind
 have g1 : ((a.num % a.den : Int) : Rat) / ((a.den : Int) : Rat) < 1 := by
  rw [Rat.div_lt_iff hd, Rat.one_mul]
  exact_mod_cast oa.2.2.2.2.2
 obtain ⟨f1, f2⟩ := fl_add (n := a.num / a.den) g0 g1
 rw [e2]
 exact ⟨f1, f2, hd⟩
theorem fr_v_zero {a : Rt} (ha : a.ok = true) : fr (Fr.v a) = 0 ↔ a.num % a.den = 0 := by
 obtain ⟨_, h2, h3⟩ := v_parts ha
 rw [h2]
 constructor
 ·intro h
  have h4 : ((a.num % a.den : Int) : Rat) = 0 := by
   have h5 : ((a.den : Int) : Rat) ≠ 0 := by grind
   grind
  exact_mod_cast h4
 ·intro h
  rw [h, Rat.intCast_zero, Rat.div_def, Rat.zero_mul]
theorem pl_place {a : Rt} (ha : a.ok = true) : pl (Fr.v a) = Rg.place a := by
 have oa := Fr.ok_bd ha
 unfold pl
 rw [Rg.place_den ha, (v_parts ha).1, Rg.floor_ok ha]
 by_cases h : a.den = 1
 ·rw [if_pos ((fr_v_zero ha).2 ((Rg.den_one ha).2 h)), if_pos h, h, Int.ediv_one]
 ·rw [if_neg (fun e => h ((Rg.den_one ha).1 ((fr_v_zero ha).1 e))), if_neg h]
theorem fr_v_lt {a b : Rt} (ha : a.ok = true) (hb : b.ok = true) : (fr (Fr.v a) < fr (Fr.v b) ↔ Rg.rX a b < Rg.rX b a) ∧ (fr (Fr.v a) = fr (Fr.v b) ↔ Rg.rX a b = Rg.rX b a) := by
 obtain ⟨_, a2, a3⟩ := v_parts ha
 obtain ⟨_, b2, b3⟩ := v_parts hb
 rw [a2, b2]
 unfold Rg.rX
 generalize a.num % a.den = r
 generalize b.num % b.den = s
 have key : ∀ x y : Int, ((r : Rat) / ((a.den : Int) : Rat) < (s : Rat) / ((b.den : Int) : Rat) ↔ r * b.den < s * a.den) := fun _ _ => by
  rw [Rat.div_lt_iff a3]
  have e : (s : Rat) / ((b.den : Int) : Rat) * ((a.den : Int) : Rat) = ((s * a.den : Int) : Rat) / ((b.den : Int) : Rat) := by rw [Rat.intCast_mul]; grind
  rw [e, Rat.lt_div_iff b3, ← Rat.intCast_mul, Rat.intCast_lt_intCast]
 have key2 : ((s : Rat) / ((b.den : Int) : Rat) < (r : Rat) / ((a.den : Int) : Rat) ↔ s * a.den < r * b.den) := by
  rw [Rat.div_lt_iff b3]
  have e : (r : Rat) / ((a.den : Int) : Rat) * ((b.den : Int) : Rat) = ((r * b.den : Int) : Rat) / ((a.den : Int) : Rat) := by rw [Rat.intCast_mul]; grind
  rw [e, Rat.lt_div_iff a3, ← Rat.intCast_mul, Rat.intCast_lt_intCast]
 have key1 := key 0 0
 refine ⟨key1, ⟨fun h => ?_, fun h => ?_⟩⟩
 ·have h1 : ¬ r * b.den < s * a.den := fun k => by have := key1.2 k; grind
  have h2 : ¬ s * a.den < r * b.den := fun k => by have := key2.2 k; grind
  omega
 ·have h1 : ¬ (r : Rat) / ((a.den : Int) : Rat) < (s : Rat) / ((b.den : Int) : Rat) := fun k => by have := key1.1 k; omega
  have h2 : ¬ (s : Rat) / ((b.den : Int) : Rat) < (r : Rat) / ((a.den : Int) : Rat) := fun k => by have := key2.1 k; omega
  grind
theorem od_order {p : Pt} (ht : p.t.ok = true) (hu : p.u.ok = true) : od (Fr.v p.t) (Fr.v p.u) = Rg.order p := by
 obtain ⟨l1, l2⟩ := fr_v_lt ht hu
 have o1 := Rg.odd_den ht
 have o2 := Rg.odd_den hu
 unfold od Rg.order
 have z1 := (fr_v_zero ht).trans (Rg.den_one ht)
 have z2 := (fr_v_zero hu).trans (Rg.den_one hu)
 by_cases h1 : p.t.den = 1
 ·rw [if_pos (.inl (z1.2 h1)), if_neg (fun h => o1.1 h.1 h1)]
 by_cases h2 : p.u.den = 1
 ·rw [if_pos (.inr (z2.2 h2)), if_neg (fun h => o2.1 h.2 h2)]
 rw [if_neg (fun h => h.elim (fun e => h1 (z1.1 e)) (fun e => h2 (z2.1 e))), if_pos (show Rg.place p.t % 2 = 1 ∧ Rg.place p.u % 2 = 1 from ⟨o1.2 h1, o2.2 h2⟩), Rg.cmp_part ht hu]
 unfold cmpI
 by_cases k1 : Rg.rX p.t p.u < Rg.rX p.u p.t
 ·rw [if_pos (l1.2 k1), if_pos k1]; rfl
 ·rw [if_neg (fun h => k1 (l1.1 h)), if_neg k1]
  by_cases k2 : Rg.rX p.t p.u = Rg.rX p.u p.t
  ·rw [if_pos (l2.2 k2), if_neg (by omega)]; rfl
  ·rw [if_neg (fun h => k2 (l2.1 h)), if_pos (by omega)]; rfl
theorem tvs_zero (l : List Rt) : Dbm.tvs l 0 = 0 := by
 show Fr.v ⟨0, 1⟩ = 0
 decide +kernel
theorem key_pt {t : Nat → Rat} {long : Int} (hl : 1 ≤ long ∧ long ≤ 16) (h0 : t 0 = 0) (hT : 0 ≤ t 1) (hlt : t 1 < t 2) (hU : t 2 ≤ (long : Rat)) :
 ∃ n : Int, 0 ≤ n ∧ n < (Rg.many long).1 ∧ (Rg.point n long).2 = true ∧ (Rg.pt n long).t.ok = true ∧ (Rg.pt n long).u.ok = true ∧ Alike t (Dbm.tvs [(Rg.pt n long).t, (Rg.pt n long).u]) := by
 have hs : Rg.sides long = 2 * long + 1 := rfl
 have e1 := eq_fr (t 1)
 have e2 := eq_fr (t 2)
 have n1 := fr_nonneg (t 1)
 have n2 := fr_nonneg (t 2)
 have u1 := fr_lt (t 1)
 have u2 := fr_lt (t 2)
 have f1 : 0 ≤ (t 1).floor := Rat.le_floor_iff.2 (by rw [Rat.intCast_zero]; exact hT)
 have f2 : (t 2).floor ≤ long := by
  have := Rat.floor_le (t 2)
  have h : ((t 2).floor : Rat) ≤ (long : Rat) := by grind
  exact_mod_cast h
 have f3 : (t 1).floor ≤ (t 2).floor := by
  have h1 := Rat.floor_le (t 1)
  exact Rat.le_floor_iff.2 (by grind)
 have f4 : (t 2).floor = long → fr (t 2) = 0 := fun h => by
  rw [h] at e2; grind
 have f5 : (t 1).floor = (t 2).floor → fr (t 1) < fr (t 2) := fun h => by
  rw [h] at e1; grind
 have c1 : (fr (t 1) = 0 ∧ pl (t 1) = 2 * (t 1).floor) ∨ (fr (t 1) ≠ 0 ∧ pl (t 1) = 2 * (t 1).floor + 1) := by
  unfold pl
  by_cases z : fr (t 1) = 0
  ·exact .inl ⟨z, if_pos z⟩
  ·exact .inr ⟨z, if_neg z⟩
 have c2 : (fr (t 2) = 0 ∧ pl (t 2) = 2 * (t 2).floor) ∨ (fr (t 2) ≠ 0 ∧ pl (t 2) = 2 * (t 2).floor + 1) := by
  unfold pl
  by_cases z : fr (t 2) = 0
  ·exact .inl ⟨z, if_pos z⟩
  ·exact .inr ⟨z, if_neg z⟩
 have c3 : ((fr (t 1) = 0 ∨ fr (t 2) = 0) ∧ od (t 1) (t 2) = 1) ∨ ((fr (t 1) ≠ 0 ∧ fr (t 2) ≠ 0) ∧ ((fr (t 1) < fr (t 2) ∧ od (t 1) (t 2) = 0) ∨ (¬ fr (t 1) < fr (t 2) ∧ (od (t 1) (t 2) = 1 ∨ od (t 1) (t 2) = 2)))) := by
  unfold od
  by_cases z : fr (t 1) = 0 ∨ fr (t 2) = 0
  ·exact .inl ⟨z, if_pos z⟩
  ·rw [if_neg z]
   refine .inr ⟨⟨fun e => z (.inl e), fun e => z (.inr e)⟩, ?_⟩
   by_cases k : fr (t 1) < fr (t 2)
   ·exact .inl ⟨k, if_pos k⟩
   ·rw [if_neg k]
    refine .inr ⟨k, ?_⟩
    split
    ·exact .inl rfl
    ·exact .inr rfl
 have f6 : (t 1).floor = (t 2).floor → fr (t 2) ≠ 0 := fun h e => by have := f5 h; grind
 have hmay : Rg.may3 (pl (t 1)) (pl (t 2)) (od (t 1) (t 2)) = true := by
  simp only [Rg.may3, Bool.and_eq_true, Bool.or_eq_true, decide_eq_true_eq]
  rcases c1 with ⟨a1, a2⟩ | ⟨a1, a2⟩ <;> rcases c2 with ⟨b1, b2⟩ | ⟨b1, b2⟩
  ·have h6 : (t 1).floor ≠ (t 2).floor := fun h => f6 h b1
   rcases c3 with ⟨_, d⟩ | ⟨⟨d, _⟩, _⟩
   ·omega
   ·exact absurd a1 d
  ·have h4 : (t 2).floor ≠ long := fun h => b1 (f4 h)
   rcases c3 with ⟨_, d⟩ | ⟨⟨d, _⟩, _⟩
   ·omega
   ·exact absurd a1 d
  ·have h6 : (t 1).floor ≠ (t 2).floor := fun h => f6 h b1
   rcases c3 with ⟨_, d⟩ | ⟨⟨_, d⟩, _⟩
   ·omega
   ·exact absurd b1 d
  ·have h4 : (t 2).floor ≠ long := fun h => b1 (f4 h)
   rcases c3 with ⟨d, _⟩ | ⟨_, ⟨_, d⟩ | ⟨d1, d2⟩⟩
   ·rcases d with d | d
    ·exact absurd d a1
    ·exact absurd d b1
   ·omega
   ·have h6 : (t 1).floor ≠ (t 2).floor := fun h => d1 (f5 h)
    omega
 have hTb : 0 ≤ pl (t 1) ∧ pl (t 1) < 33 := by
  simp only [Rg.may3, Bool.and_eq_true, Bool.or_eq_true, decide_eq_true_eq] at hmay
  omega
 have hUb : pl (t 2) < Rg.sides long := by
  rw [hs]
  unfold pl
  split
  ·omega
  ·rename_i z2
   have : (t 2).floor ≠ long := fun h => z2 (f4 h)
   omega
 have hg := Rg.may_good hTb hmay
 unfold Rg.good3 at hg
 simp only [Bool.and_eq_true, decide_eq_true_eq] at hg
 obtain ⟨⟨⟨g1, g2⟩, g3⟩, g4⟩ := hg
 have hnum : Rg.number (Rg.pt3 (pl (t 1)) (pl (t 2)) (od (t 1) (t 2))) long = 3 * (pl (t 1) * Rg.sides long + pl (t 2)) + od (t 1) (t 2) := by
  unfold Rg.number
  rw [if_neg (by rw [g2, g3]; omega), g2, g3, g4]
 have hpos : 0 ≤ 3 * (pl (t 1) * Rg.sides long + pl (t 2)) + od (t 1) (t 2) := by
  have h1 : 0 ≤ pl (t 1) * Rg.sides long := Int.mul_nonneg hTb.1 (by rw [hs]; omega)
  have h2 : pl (t 1) ≤ pl (t 2) := by
   simp only [Rg.may3, Bool.and_eq_true, Bool.or_eq_true, decide_eq_true_eq] at hmay
   omega
  omega
 obtain ⟨r1, r2, r3, r4, r5, r6, r7, r8, r9⟩ := Rg.rep_of hl (p := Rg.pt3 (pl (t 1)) (pl (t 2)) (od (t 1) (t 2))) (by rw [hnum]; exact hpos)
 refine ⟨_, r3, r4, r2, r5, r6, alike_of h0 (tvs_zero _) ?_ ?_ ?_⟩
 ·exact ((pl_place r5).trans (r7.trans g2)).symm
 ·exact ((pl_place r6).trans (r8.trans g3)).symm
 ·exact ((od_order r5 r6).trans (r9.trans g4)).symm
end Ky
end Go.Proofs.YtanhnllkccldhaaGreat
namespace Go.Proofs.YtanhnllkccldhaaGreat
set_option linter.unusedVariables false
set_option linter.unusedSimpArgs false
set_option maxRecDepth 100000
open Go.RowKit Go.Proofs.YtanhnllkccldhaaGreat.Eng Enc
abbrev TKi : TypeId := 3
def MSet (W : World) (b n : Nat) (f : Int → Bool) : Prop :=
 ∃ D : DataW Unit, W.ownsMap Tryz.prog TKi (plainElem Tryz.prog TKi) b n D ∧ Maps.Tidy D ∧ ∀ x : Int, D.atKey (.int .i64 x) (.lit (.int .i64 0)) = .lit (.int .i64 (if f x = true then 1 else 0)) ∧ Maps.has D (.int .i64 x) = f x
theorem MSet.lt {W : World} {b n : Nat} {f : Int → Bool} (h : MSet W b n f) : b < W.heap.size := by
 obtain ⟨D, h1, _⟩ := h; exact h1.lt
theorem MSet.kept {W X : World} {b n : Nat} {f : Int → Bool} (h : MSet W b n f) (e : X.heap[b]? = W.heap[b]?) : MSet X b n f := by
 obtain ⟨D, ⟨es, clock, hb, F, hs, hD⟩, h2, h3⟩ := h
 exact ⟨D, ⟨es, clock, e.trans hb, F, hs, hD⟩, h2, h3⟩
theorem MSet.below {W X : World} {b n : Nat} {f : Int → Bool} (h : MSet W b n f) (hB : Below W.heap.size W X) : MSet X b n f := h.kept (hB.block b h.lt)
theorem MSet.at {w0 : Base} {hp : List LB} {r L : List Nat} {w w1 : World} {b n : Nat} {f : Int → Bool} (h : MSet w b n f) (h1 : At w0 hp r L w w1) (hL : b ∉ L) : MSet w1 b n f := h.kept (h1.step b h.lt hL)
theorem MSet.made (w : World) : MSet (w.alloc (.map #[] 0)) w.heap.size 0 (fun _ => false) :=
 ⟨.map [], World.ownsMap_made w _ _ _, Maps.tidy_empty, fun x => ⟨by simp [DataW.atKey], by simp [Maps.has_eq]⟩⟩
namespace Rg
def isR (long : Int) (x : Int) : Bool := decide (0 ≤ x) && decide (x < (many long).1) && (point x long).2
def inL (l : List Zn) (long : Int) (x : Int) : Bool := isR long x && l.any fun z => (Zo.has z (pt x long)).1
def up (long : Int) (p : Int → Bool) : List Int := ((List.range (many long).1.toNat).filter fun n : Nat => p (n : Int)).map Int.ofNat
theorem mem_up {long : Int} {p : Int → Bool} (h : ∀ x, p x = true → 0 ≤ x ∧ x < (many long).1) (x : Int) : x ∈ up long p ↔ p x = true := by
 unfold up
 rw [List.mem_map]
 constructor
 ·rintro ⟨k, hk, rfl⟩
  exact (List.mem_filter.1 hk).2
 ·intro hx
  obtain ⟨h0, h1⟩ := h x hx
  refine ⟨x.toNat, List.mem_filter.2 ⟨List.mem_range.2 (by omega), ?_⟩, Int.toNat_of_nonneg h0⟩
  show p ((x.toNat : Nat) : Int) = true
  rw [Int.toNat_of_nonneg h0]; exact hx
end Rg
theorem Rg.many_doc {long : Int} (hl : 1 ≤ long ∧ long ≤ 16) : Rg.many long = (3 * (2 * long + 1) * (2 * long + 1), 0) := by
 unfold Rg.many; rw [if_pos (Rg.fits_iff.2 hl)]; rfl
end Go.Proofs.YtanhnllkccldhaaGreat
namespace Go.Proofs.YtanhnllkccldhaaGreat
open Go.RowKit Go.Proofs.YtanhnllkccldhaaGreat.Eng Enc
namespace Rg
def ab (s : Sp) : Int := if s.op = true then 9223372036854775807 else Bd.mk s.hi s.hs
def be (s : Sp) : Int := Bd.mk (0 - s.lo) s.ls
end Rg
end Go.Proofs.YtanhnllkccldhaaGreat
namespace Go.Proofs.YtanhnllkccldhaaGreat
set_option maxRecDepth 100000
namespace Rg
end Rg
namespace Rg
end Rg
namespace Rg
end Rg
namespace Rg
end Rg
end Go.Proofs.YtanhnllkccldhaaGreat
namespace Go.Proofs.YtanhnllkccldhaaGreat
set_option linter.unusedVariables false
namespace Rg
end Rg
end Go.Proofs.YtanhnllkccldhaaGreat
namespace Go.Proofs.YtanhnllkccldhaaGreat
set_option linter.unusedVariables false
set_option linter.unusedSimpArgs false
set_option maxRecDepth 100000
open Go.RowKit Go.Proofs.YtanhnllkccldhaaGreat.Eng Enc
def Sp.fit (s : Sp) : Prop := (-288230376151711744 ≤ s.lo ∧ s.lo ≤ 288230376151711744) ∧ (s.op = true ∨ -288230376151711744 ≤ s.hi ∧ s.hi ≤ 288230376151711744)
end Go.Proofs.YtanhnllkccldhaaGreat
namespace Go.Proofs.YtanhnllkccldhaaGreat
set_option linter.unusedVariables false
set_option linter.unusedSimpArgs false
open Go.RowKit Go.Proofs.YtanhnllkccldhaaGreat.Eng Enc
namespace Ky
open Dbm Mi Cv
structure Mt (long : Int) (z : Zn) : Prop where
 chk : Zo.chk z = 0
 b : z.b ≤ 1
 f : z.f ≤ 0
 c : z.c ≤ 2 * long + 1
theorem satO_below {d : Rat} {b m : Int} (h : satO d (ob b)) (hb : b ≤ m) (hm : m < NO) : satO d (some m) := by
 refine satO_mono (a := ob b) ?_ h
 unfold ob
 rw [if_neg (by omega)]
 exact hb
theorem Mt.pt {long : Int} (hl : long ≤ 16) {z : Zn} (h : Mt long z) {t : Nat → Rat} (ht : Fz z t) : 0 ≤ t 1 - t 0 ∧ t 1 - t 0 < t 2 - t 0 ∧ t 2 - t 0 ≤ (long : Rat) := by
 have k := (fz_iff z t).1 ht
 have k1 := satO_below (k 1 (by decide)) (show Zo.get z 1 ≤ 1 from h.b) (by decide)
 have k5 := satO_below (k 5 (by decide)) (show Zo.get z 5 ≤ 0 from h.f) (by decide)
 have k2 := satO_below (k 2 (by decide)) (show Zo.get z 2 ≤ 2 * long + 1 from h.c) (by unfold NO; omega)
 have s1 : Bd.st 1 = false := by decide
 have s0 : Bd.st 0 = true := by decide
 have s2 : Bd.st (2 * long + 1) = false := by
  cases hh : Bd.st (2 * long + 1)
  ·rfl
  ·have := (st_iff _).1 hh; omega
 unfold satO at k1 k5 k2
 simp only [s1, s0, s2, Bool.false_eq_true, if_true, if_false] at k1 k5 k2
 have e1 : (((1 : Int) / 2 : Int) : Rat) = 0 := by decide +kernel
 have e0 : (((0 : Int) / 2 : Int) : Rat) = 0 := by decide +kernel
 have e2 : (((2 * long + 1) / 2 : Int) : Rat) = (long : Rat) := by rw [show (2 * long + 1) / 2 = long by omega]
 rw [e1] at k1
 rw [e0] at k5
 rw [e2] at k2
 have d1 : dif 1 t = t 0 - t 1 := rfl
 have d5 : dif 5 t = t 1 - t 2 := rfl
 have d2 : dif 2 t = t 2 - t 0 := rfl
 rw [d1] at k1
 rw [d5] at k5
 rw [d2] at k2
 exact ⟨by grind, by grind, k2⟩
theorem bsum_le {x y m n : Int} (hx : x ≤ m) (hy : y ≤ n) : bsum x y ≤ bsum m n := bsum_mono hx hy
theorem Mt.sm {long : Int} (hl : 1 ≤ long ∧ long ≤ 16) {z : Zn} (h : Mt long z) : Sm 100 z := by
 have clo := (Zo.clo h.chk).2
 have tri : ∀ i j a, i < 3 → j < 3 → a < 3 → ∀ u v, (Zo.matL z)[i * 3 + a]?.getD 0 = u → (Zo.matL z)[a * 3 + j]?.getD 0 = v → u < NO → v < NO → (Zo.matL z)[i * 3 + j]?.getD 0 ≤ bsum u v := fun i j a hi hj ha u v hu hv hun hvn => by
  have h1 := clo.tri i j a hi hj ha
  have m2 : mx 3 (Zo.matL z) i a = some u := by unfold mx ob; rw [hu, if_neg (by omega)]
  have m3 : mx 3 (Zo.matL z) a j = some v := by unfold mx ob; rw [hv, if_neg (by omega)]
  rw [m2, m3] at h1
  cases hw : mx 3 (Zo.matL z) i j with
  | none => rw [hw] at h1; exact h1.elim
  | some x =>
    rw [hw] at h1
    rw [(mx_some hw).1]
    exact h1
 have hN : (100 : Int) < NO := by decide
 have b := h.b
 have f := h.f
 have c := h.c
 have ha := tri 1 0 2 (by decide) (by decide) (by decide) z.f z.c rfl rfl (by omega) (by omega)
 have hd := tri 0 2 1 (by decide) (by decide) (by decide) z.b z.f rfl rfl (by omega) (by omega)
 have he := tri 2 1 0 (by decide) (by decide) (by decide) z.c z.b rfl rfl (by omega) (by omega)
 have ha1 : z.a ≤ bsum z.f z.c := ha
 have hd1 : z.d ≤ bsum z.b z.f := hd
 have he1 : z.e ≤ bsum z.c z.b := he
 have ha2 := bsum_le f c
 have hd2 := bsum_le b f
 have he2 := bsum_le c b
 have q1 : bsum 0 (2 * long + 1) ≤ 100 := by unfold bsum; omega
 have q2 : bsum 1 0 ≤ 100 := by decide
 have q3 : bsum (2 * long + 1) 1 ≤ 100 := by rw [bsum_one]; omega
 intro k hk
 rcases six hk with rfl | rfl | rfl | rfl | rfl | rfl
 ·show z.a ≤ 100; omega
 ·show z.b ≤ 100; omega
 ·show z.c ≤ 100; omega
 ·show z.d ≤ 100; omega
 ·show z.e ≤ 100; omega
 ·show z.f ≤ 100; omega
theorem Mt.less {long : Int} {y z : Zn} (h : Mt long z) (hy : Zo.chk y = 0) (hle : ∀ k, k < 6 → Zo.get y k ≤ Zo.get z k) : Mt long y :=
 ⟨hy, Int.le_trans (hle 1 (by decide)) h.b, Int.le_trans (hle 5 (by decide)) h.f, Int.le_trans (hle 2 (by decide)) h.c⟩
def rep (n long : Int) : Nat → Rat := Dbm.tvs [(Rg.pt n long).t, (Rg.pt n long).u]
def regs (long : Int) : List Int := Rg.up long (Rg.isR long)
theorem isR_lt {long x : Int} (h : Rg.isR long x = true) : 0 ≤ x ∧ x < (Rg.many long).1 := by
 unfold Rg.isR at h
 simp only [Bool.and_eq_true, decide_eq_true_eq] at h
 exact h.1
theorem mem_regs {long x : Int} : x ∈ regs long ↔ Rg.isR long x = true := Rg.mem_up (fun x h => isR_lt h) x
theorem regs_len {long : Int} (hl : 1 ≤ long ∧ long ≤ 16) : (regs long).length ≤ 3267 := by
 unfold regs Rg.up
 rw [List.length_map]
 refine Nat.le_trans (List.length_filter_le _ _) ?_
 rw [List.length_range, Rg.many_doc hl]
 have hm := Fr.mul_bd (u := 3 * (2 * long + 1)) (v := 2 * long + 1) (m := 99) (n := 33) (by omega) (by omega) (by omega) (by omega)
 simp only
 omega
theorem Mt.rep {long : Int} (hl : 1 ≤ long ∧ long ≤ 16) {z : Zn} (h : Mt long z) {t : Nat → Rat} (ht : Fz z t) : ∃ n, n ∈ regs long ∧ ∀ y, Fz y t ↔ Fz y (Ky.rep n long) := by
 obtain ⟨p1, p2, p3⟩ := h.pt hl.2 ht
 obtain ⟨n, h1, h2, h3, h4, h5, h6⟩ := key_pt (t := fun i => t i - t 0) hl (by grind) p1 p2 p3
 refine ⟨n, mem_regs.2 (by unfold Rg.isR; rw [decide_eq_true h1, decide_eq_true h2, h3]; rfl), fun y => ?_⟩
 exact (fz_shift y t (t 0)).trans (h6.fz y)
theorem nodup_sub : ∀ (l m : List Int), l.Nodup → (∀ x, x ∈ l → x ∈ m) → l.length ≤ m.length
 | [], m, _, _ => Nat.zero_le _
 | x :: l, m, hn, hs => by
   have hx := hs x (by simp)
   rw [List.nodup_cons] at hn
   have h1 := nodup_sub l (m.erase x) hn.2 fun y hy => by
    have hne : y ≠ x := fun e => hn.1 (e ▸ hy)
    exact (List.mem_erase_of_ne hne).2 (hs y (by simp [hy]))
   have h2 := List.length_erase_of_mem hx
   have h3 := List.length_pos_of_mem hx
   simp only [List.length_cons]
   omega
theorem own_len {long : Int} (hl : 1 ≤ long ∧ long ≤ 16) {l : List Zn} (hm : ∀ z, z ∈ l → Mt long z) (ho : ∀ (j : Nat) (z : Zn), l[j]? = some z → ∃ t, Fz z t ∧ ∀ (k : Nat) (y : Zn), k ≠ j → l[k]? = some y → ¬ Fz y t) : l.length ≤ (regs long).length := by
 have key : ∀ j, j < l.length → ∃ n : Int, n ∈ regs long ∧ ∃ z, l[j]? = some z ∧ Fz z (rep n long) ∧ ∀ (k : Nat) (y : Zn), k ≠ j → l[k]? = some y → ¬ Fz y (rep n long) := fun j hj => by
  have hz := List.getElem?_eq_getElem hj
  have hzm := List.getElem_mem hj
  generalize l[j] = z at hz hzm
  obtain ⟨t, h1, h2⟩ := ho j z hz
  obtain ⟨n, h3, h4⟩ := (hm z hzm).rep hl h1
  exact ⟨n, h3, z, hz, (h4 z).1 h1, fun k y hk hy hf => h2 k y hk hy ((h4 y).2 hf)⟩
 obtain ⟨f, hf⟩ : ∃ f : Nat → Int, ∀ j, j < l.length → f j ∈ regs long ∧ ∃ z, l[j]? = some z ∧ Fz z (rep (f j) long) ∧ ∀ (k : Nat) (y : Zn), k ≠ j → l[k]? = some y → ¬ Fz y (rep (f j) long) :=
  ⟨fun j => if h : j < l.length then Classical.choose (key j h) else 0, fun j hj => by simp only [dif_pos hj]; exact Classical.choose_spec (key j hj)⟩
 have hlen : ((List.range l.length).map f).length = l.length := by simp
 rw [← hlen]
 refine nodup_sub _ _ ?_ fun x hx => ?_
 ·rw [List.nodup_iff_pairwise_ne, List.pairwise_map]
  refine List.nodup_range.imp_of_mem ?_
  intro i j hi hj hij e
  obtain ⟨_, z, hz, hfz, _⟩ := hf i (List.mem_range.1 hi)
  obtain ⟨_, _, _, _, hno⟩ := hf j (List.mem_range.1 hj)
  exact hno i z hij hz (e ▸ hfz)
 ·obtain ⟨i, hi, rfl⟩ := List.mem_map.1 hx
  exact (hf i (List.mem_range.1 hi)).1
theorem dj_len {long : Int} (hl : 1 ≤ long ∧ long ≤ 16) {l : List Zn} (hm : ∀ z, z ∈ l → Mt long z) (hd : l.Pairwise Dj) : l.length ≤ 3267 := by
 refine Nat.le_trans (own_len hl hm fun j z hz => ?_) (regs_len hl)
 obtain ⟨t, ht⟩ := fz_ex (hm z (List.mem_of_getElem? hz)).chk
 refine ⟨t, ht, fun k y hk hy hf => ?_⟩
 obtain ⟨hj, rfl⟩ := List.getElem?_eq_some_iff.1 hz
 obtain ⟨hk', rfl⟩ := List.getElem?_eq_some_iff.1 hy
 rw [List.pairwise_iff_getElem] at hd
 rcases Nat.lt_or_ge k j with h | h
 ·exact hd k j hk' hj h t ⟨hf, ht⟩
 ·exact hd j k hj hk' (by omega) t ⟨ht, hf⟩
theorem bare_len {long : Int} (hl : 1 ≤ long ∧ long ≤ 16) {l : List Zn} (hm : ∀ z, z ∈ l → Mt long z) (hb : Bare 0 l) : l.length ≤ (regs long).length := by
 refine own_len hl hm fun j z hz => ?_
 have h1 := hb j z (Nat.zero_le _) hz
 unfold Cv.Cov at h1
 apply Classical.byContradiction
 intro h2
 apply h1
 intro t ht
 apply Classical.byContradiction
 intro h3
 exact h2 ⟨t, ht, fun k y hk hy hf => h3 ⟨y, mem_erase.2 ⟨k, hk, hy⟩, hf⟩⟩
theorem inner_sm {long : Int} (hl : 1 ≤ long ∧ long ≤ 16) {b : Zn} (hb : Zo.chk b = 0) : ∀ (out next : List Zn), (∀ z, z ∈ next ++ out → Mt long z) → (next ++ out).Pairwise Dj →
 (inner b out next).2 = 0 ∧ (∀ z, z ∈ (inner b out next).1 → Mt long z) ∧ (inner b out next).1.Pairwise Dj
 | [], next, hm, hd => by rw [List.append_nil] at hm hd; exact ⟨rfl, hm, hd⟩
 | z :: o, next, hm, hd => by
   have hz := hm z (by simp)
   obtain ⟨m1, m2, m3⟩ := minus_sm (S := 100) (by omega) hz.chk hb (hz.sm hl)
   have m4 := minus_ok hz.chk hb m1
   have hmm : ∀ y, y ∈ (minus z b).1 → Mt long y := fun y hy => hz.less (m4 y hy).1 (m2 y hy)
   have hm' : ∀ y, y ∈ (next ++ (minus z b).1) ++ o → Mt long y := fun y hy => by
    rcases List.mem_append.1 hy with hy | hy
    ·rcases List.mem_append.1 hy with hy | hy
     ·exact hm y (by simp [hy])
     ·exact hmm y hy
    ·exact hm y (by simp [hy])
   have hd' : ((next ++ (minus z b).1) ++ o).Pairwise Dj := by
    rw [List.pairwise_append] at hd
    obtain ⟨d1, d2, d3⟩ := hd
    rw [List.pairwise_cons] at d2
    rw [List.pairwise_append, List.pairwise_append]
    refine ⟨⟨d1, m3, fun x hx y hy t ht => ?_⟩, d2.2, fun x hx y hy => ?_⟩
    ·exact d3 x hx z (by simp) t ⟨ht.1, ((m4 y hy).2 t ht.2).1⟩
    ·rcases List.mem_append.1 hx with hx | hx
     ·exact d3 x hx y (by simp [hy])
     ·exact fun t ht => d2.1 y hy t ⟨((m4 x hx).2 t ht.1).1, ht.2⟩
   have hlen : (next ++ (minus z b).1).length ≤ 3267 := by
    refine dj_len hl (fun y hy => hm' y (List.mem_append.2 (.inl hy))) ?_
    rw [List.pairwise_append] at hd'
    exact hd'.1
   rw [inner_cons, if_neg (by rw [m1]; decide), if_neg (by omega)]
   exact inner_sm hl hb o _ hm' hd'
theorem outer_sm {long : Int} (hl : 1 ≤ long ∧ long ≤ 16) : ∀ (l out : List Zn), (∀ b, b ∈ l → Zo.chk b = 0) → (∀ z, z ∈ out → Mt long z) → out.Pairwise Dj → (outer l out).2 = 0
 | [], out, _, _, _ => rfl
 | b :: l, out, hb, hm, hd => by
   obtain ⟨i1, i2, i3⟩ := inner_sm hl (hb b (by simp)) out [] (by simpa using hm) (by simpa using hd)
   rw [outer_cons, if_neg (by rw [i1]; decide)]
   exact outer_sm hl l _ (fun x hx => hb x (by simp [hx])) i2 i3
theorem checked_two {l m : List Zn} (hl : l.length ≤ 4096) (hm : m.length ≤ 4096) (h1 : ∀ z, z ∈ l → Zo.chk z = 0) (h2 : ∀ z, z ∈ m → Zo.chk z = 0) : checked [l, m] = 0 := by
 have o1 : ∀ l : List Zn, (∀ z, z ∈ l → Zo.chk z = 0) → l.any odd = false := fun l h => by
  rw [List.any_eq_false]
  intro z hz
  simp [odd, h z hz]
 unfold checked
 simp only [List.any_cons, List.any_nil, Bool.or_false]
 rw [o1 l h1, o1 m h2, decide_eq_false (by omega), decide_eq_false (by omega)]
 rfl
theorem in_sm {long : Int} (hl : 1 ≤ long ∧ long ≤ 16) {z : Zn} {l : List Zn} (hz : Mt long z) (hc : ∀ b, b ∈ l → Zo.chk b = 0) (hlen : l.length ≤ 4096) : (in_ z l).2 = 0 := by
 unfold in_
 rw [if_pos (checked_two hlen (by simp) hc (fun y hy => by rw [List.mem_singleton.1 hy]; exact hz.chk))]
 simp only
 unfold left
 rw [if_neg (by rw [hz.chk]; decide), if_neg]
 ·exact outer_sm hl l [z] hc (fun y hy => by rw [List.mem_singleton.1 hy]; exact hz) (by simp)
 ·intro h
  obtain ⟨b, hb, h⟩ := List.any_eq_true.1 h
  simp [hc b hb] at h
theorem pgo_sm {long : Int} (hl : 1 ≤ long ∧ long ≤ 16) : ∀ (n : Nat) (out : List Zn), n ≤ out.length → out.length ≤ 4096 → (∀ z, z ∈ out → Mt long z) → (pgo n out).2 = 0
 | 0, out, _, _, _ => rfl
 | i + 1, out, hn, hlen, hm => by
   have ho := List.getElem?_eq_getElem (l := out) (i := i) (by omega)
   have hzm := List.getElem_mem (l := out) (n := i) (by omega)
   generalize out[i] = z at ho hzm
   have hsub := List.eraseIdx_sublist out i
   have he : (out.eraseIdx i).length ≤ 4096 := Nat.le_trans hsub.length_le hlen
   rw [pgo_succ ho, if_neg (by rw [in_sm hl (hm z hzm) (fun b hb => (hm b (hsub.mem hb)).chk) he]; decide)]
   split
   ·exact pgo_sm hl i _ (by rw [List.length_eraseIdx]; split <;> omega) he (fun y hy => hm y (hsub.mem hy))
   ·exact pgo_sm hl i out (by omega) hlen hm
theorem prune_sm {long : Int} (hl : 1 ≤ long ∧ long ≤ 16) {l : List Zn} (hlen : l.length ≤ 4096) (hm : ∀ z, z ∈ l → Mt long z) : (prune l).2 = 0 := by
 unfold prune
 rw [if_neg (by rw [checked_one.2 ⟨hlen, fun z hz => (hm z hz).chk⟩]; decide)]
 exact pgo_sm hl _ _ (Nat.le_refl _) (Nat.le_trans (sorted_len l) hlen) fun z hz => hm z ((sorted_mem l z).1 hz)
end Ky
namespace Ky
open Dbm Mi Cv Zs Cmp
structure Ml (long : Int) (l : List Zn) : Prop where
 mt : ∀ z, z ∈ l → Mt long z
 bare : Bare 0 l
theorem Ml.len {long : Int} (hl : 1 ≤ long ∧ long ≤ 16) {l : List Zn} (h : Ml long l) : l.length ≤ (regs long).length := bare_len hl h.mt h.bare
theorem Ml.nil {long : Int} : Ml long [] := ⟨fun z hz => (nomatch hz), fun j z _ hz => by simp at hz⟩
theorem prune_ml {long : Int} (hl : 1 ≤ long ∧ long ≤ 16) {l : List Zn} (hlen : l.length ≤ 4096) (hm : ∀ z, z ∈ l → Mt long z) : (prune l).2 = 0 ∧ Ml long (prune l).1 := by
 have h := prune_sm hl hlen hm
 have hw := prune_ok h
 exact ⟨h, fun z hz => hm z (hw.mem z hz), hw.bare⟩
end Ky
end Go.Proofs.YtanhnllkccldhaaGreat
namespace Go.Proofs.YtanhnllkccldhaaGreat.Eng
set_option linter.unusedVariables false
set_option linter.unusedSimpArgs false
open Go Go.RowKit Go.Shelf Go.Proofs
section
variable {cx : Cx} {w0 : Base}
end
end Go.Proofs.YtanhnllkccldhaaGreat.Eng
namespace Go.Proofs.YtanhnllkccldhaaGreat
set_option linter.unusedVariables false
set_option linter.unusedSimpArgs false
set_option maxRecDepth 100000
open Go.RowKit Go.Proofs.YtanhnllkccldhaaGreat.Eng Enc
namespace Cl
def go (part : List Zn) (cz : Int) : Nat → List Zn → List Zn → List (List Zn × Int)
 | 0, all, _ => if all.length = 0 then [] else [([], 301)]
 | k + 1, all, last => if all.length = 0 then [] else (all, 0) :: (if (longer all last part cz).2.2 ≠ 0 then [([], (longer all last part cz).2.2)] else if (Cv.all_ (longer all last part cz).2.1 all).1 = true then [] else go part cz k (longer all last part cz).1 (longer all last part cz).2.1)
def seq (old part : List Zn) (cz cr : Int) : List (List Zn × Int) :=
 if cz < (part.length : Int) then [([], 300)] else if (longer part old part cz).2.2 ≠ 0 then [([], (longer part old part cz).2.2)] else go part cz cr.toNat (longer part old part cz).1 (longer part old part cz).1
structure RV where
 a : Option Addr
 c : Nat
 l : List Zn
 e : Int
def V (n₁ : Nat) (x : RV) (W : World) : Prop := Own TZ n₁ W (.slice x.a x.l.length x.c) x.l
def KpR (n₀ n₁ : Nat) (R : List Nat) (W W' : World) : Prop := Below n₀ W W' ∧ (∀ k, k < n₁ → k ∉ R → W'.heap[k]? = W.heap[k]?) ∧ ∀ (k : Nat) (cs : Array Value) (f : Nat × Nat), W.heap[k]? = some (.cells cs TZ f) → W'.heap[k]? = W.heap[k]?
theorem V.kp {n₀ n₁ : Nat} {R : List Nat} {x : RV} {W X : World} (h : V n₁ x W) (k : KpR n₀ n₁ R W X) : V n₁ x X := by
 obtain ⟨hl, h0 | ⟨g, cap, cur, e1, e2, e3, e4⟩⟩ := h
 ·exact ⟨hl, .inl h0⟩
 ·exact ⟨hl, .inr ⟨g, cap, cur, e1, e2, (k.2.2 g _ _ e3).trans e3, e4⟩⟩
abbrev TZs : TypeId := 22
abbrev TCaps : TypeId := 54
structure Rd (n₀ n₁ Bo Bp Bc : Nat) (vo vp : Value) (cz cr : Int) (W X : World) : Prop where
 below : Below n₀ W X
 size : n₁ ≤ X.heap.size
 bo : X.heap[Bo]? = some (.cells #[vo] TZs (0, 0))
 bp : X.heap[Bp]? = some (.cells #[vp] TZs (0, 0))
 bc : X.heap[Bc]? = some (.cells #[.int .i64 cz, .int .i64 cr] TCaps (0, 0))
theorem Rd.go {n₀ n₁ Bo Bp Bc : Nat} {vo vp : Value} {cz cr : Int} {W X Y : World} (h : Rd n₀ n₁ Bo Bp Bc vo vp cz cr W X) (hn : n₀ ≤ n₁) (hB : Below X.heap.size X Y) : Rd n₀ n₁ Bo Bp Bc vo vp cz cr W Y :=
 ⟨h.below.trans (hB.mono (Nat.le_trans hn h.size)), Nat.le_trans h.size hB.size, (hB.block _ (Array.getElem?_eq_some_iff.1 h.bo).1).trans h.bo, (hB.block _ (Array.getElem?_eq_some_iff.1 h.bp).1).trans h.bp, (hB.block _ (Array.getElem?_eq_some_iff.1 h.bc).1).trans h.bc⟩
theorem Rd.kp {n₀ n₁ Bo Bp Bc : Nat} {vo vp : Value} {cz cr : Int} {R : List Nat} {W X Y : World} (h : Rd n₀ n₁ Bo Bp Bc vo vp cz cr W X) (h1 : Bo < n₁ ∧ Bo ∉ R) (h2 : Bp < n₁ ∧ Bp ∉ R) (h3 : Bc < n₁ ∧ Bc ∉ R) (k : KpR n₀ n₁ R X Y) : Rd n₀ n₁ Bo Bp Bc vo vp cz cr W Y :=
 ⟨h.below.trans k.1, Nat.le_trans h.size k.1.size, (k.2.1 _ h1.1 h1.2).trans h.bo, (k.2.1 _ h2.1 h2.2).trans h.bp, (k.2.1 _ h3.1 h3.2).trans h.bc⟩
end Cl
theorem Cl.Rd.cell {n₀ n₁ Bo Bp Bc : Nat} {vo vp : Value} {cz cr : Int} {W X : World} (h : Cl.Rd n₀ n₁ Bo Bp Bc vo vp cz cr W X) : X.cell? ⟨Bo, 0, none⟩ = some vo ∧ X.cell? ⟨Bp, 0, none⟩ = some vp ∧ X.cell? ((⟨Bc, 0, none⟩ : Addr).add 0) = some (.int .i64 cz) ∧ X.cell? ((⟨Bc, 0, none⟩ : Addr).add 1) = some (.int .i64 cr) := by
 refine ⟨?_, ?_, ?_, ?_⟩
 ·simp [World.cell?, h.bo]
 ·simp [World.cell?, h.bp]
 ·simp [World.cell?, Addr.add, h.bc]
 ·simp [World.cell?, Addr.add, h.bc]
end Go.Proofs.YtanhnllkccldhaaGreat
namespace Go.Proofs.YtanhnllkccldhaaGreat
set_option linter.unusedVariables false
set_option linter.unusedSimpArgs false
set_option maxRecDepth 100000
open Go.RowKit Go.Shelf Go.Proofs.YtanhnllkccldhaaGreat.Eng Enc
namespace Cl
def lastS (s : List (List Zn × Int)) : List Zn := ((s.getLast?).map (·.1)).getD []
def close (old part : List Zn) (cz cr : Int) : List Zn × Int × Int :=
 if chk old part cz cr ≠ 0 then ([], 0, chk old part cz cr) else (match (seq old part cz cr).find? (fun x => decide (x.2 ≠ 0)) with
  | some x => ([], 0, x.2)
  | none => ((Cv.prune (lastS (seq old part cz cr))).1, (seq old part cz cr).length, (Cv.prune (lastS (seq old part cz cr))).2))
theorem V.own {n₁ : Nat} (z : RV) : OwnFrom n₁ (fun (_ : Unit) W => V n₁ z W) := fun _ A C row h hg hr => by
 obtain ⟨hl, h0 | ⟨g, cap, cur, e1, e2, e3, e4⟩⟩ := id h
 ·exact ⟨hl, .inl h0⟩
 ·refine ⟨hl, .inr ⟨g, cap, cur, e1, e2, (hg.block g (Array.getElem?_eq_some_iff.1 e3).1 (fun e => ?_)).trans e3, e4⟩⟩
  obtain ⟨_, o, ho, hc⟩ := hr g e.symm
  rw [e3] at ho; injection ho with ho; subst ho; cases hc
end Cl
end Go.Proofs.YtanhnllkccldhaaGreat
namespace Go.Proofs.YtanhnllkccldhaaGreat
set_option linter.unusedVariables false
set_option linter.unusedSimpArgs false
open Go.RowKit Go.Proofs.YtanhnllkccldhaaGreat.Eng Enc
namespace Cl
open Cv Zs Ky Cmp
theorem regs6 {long : Int} (hl : 1 ≤ long ∧ long ≤ 6) : (regs long).length ≤ 507 := by
 unfold regs Rg.up
 rw [List.length_map]
 refine Nat.le_trans (List.length_filter_le _ _) ?_
 rw [List.length_range, Rg.many_doc (by omega)]
 have hm := Fr.mul_bd (u := 3 * (2 * long + 1)) (v := 2 * long + 1) (m := 39) (n := 13) (by omega) (by omega) (by omega) (by omega)
 simp only
 omega
structure Good (long : Int) (l : List Zn) : Prop where
 ml : Ml long l
 same : Cv.prune l = (l, 0)
theorem Good.len {long : Int} (hl : 1 ≤ long ∧ long ≤ 6) {l : List Zn} (h : Good long l) : l.length ≤ 507 := Nat.le_trans (h.ml.len (by omega)) (regs6 hl)
theorem Good.chk {long : Int} {l : List Zn} (h : Good long l) (z : Zn) (hz : z ∈ l) : Zo.chk z = 0 := (h.ml.mt z hz).chk
theorem good_check {long : Int} (hl : 1 ≤ long ∧ long ≤ 6) {l : List Zn} (hc : Zs.check l = 0) (ho : odd l = false) (hz : ∀ z, z ∈ l → z.c ≤ 2 * long + 1) : Good long l := by
 unfold Zs.check at hc
 split at hc
 case isFalse => cases hc
 rename_i h
 have hw := Cv.prune_ok h.1
 have hm : ∀ z, z ∈ l → Mt long z := fun z hzm => by
  unfold odd at ho
  have h1 := List.any_eq_false.1 ho z hzm
  unfold oddZ at h1
  simp only [Bool.or_eq_true, decide_eq_true_eq, not_or] at h1
  exact ⟨hw.chk z hzm, by omega, by omega, hz z hzm⟩
 have h2 := (prune_ml (long := long) (by omega) hw.len hm).2
 rw [h.2] at h2
 exact ⟨h2, Prod.ext h.2 h.1⟩
def Nx (p a b : List Zn) : Prop := (∀ t, Pts b t ↔ Pts a t ∨ Thru (Pts a) (Pts p) t) ∧ ∃ t, Pts b t ∧ ¬ Pts a t
def Shut (p a : List Zn) : Prop := ∀ t, Thru (Pts a) (Pts p) t → Pts a t
end Cl
namespace Cl
open Cv Zs Ky Cmp
def great (old p : List Zn) : Bool := decide (40 < old.length) || decide (40 < p.length) || decide (6 < Tb.lng 0 old) || decide (6 < Tb.lng 0 p)
structure Fin (long : Int) (old p l : List Zn) (ls : List (List Zn)) : Prop where
 gl : Good long l
 gs : ∀ x, x ∈ ls → Good long x
 part : ∀ t, Pts p t → Pts l t
 shut : Shut p l
 old : ∀ t, Thru (Pts old) (Pts p) t → Pts l t
 nil : ls = [] → l = []
 last : ls ≠ [] → ls[ls.length - 1]? = some l
 step : ∀ (m : Nat) (a b : List Zn), ls[m]? = some a → ls[m + 1]? = some b → (∀ t, Pts a t → Pts b t) ∧ ∃ t, Pts b t ∧ ¬ Pts a t
end Cl
end Go.Proofs.YtanhnllkccldhaaGreat
namespace Go.Proofs.YtanhnllkccldhaaGreat
set_option linter.unusedVariables false
set_option linter.unusedSimpArgs false
set_option maxRecDepth 100000
open Go.RowKit Go.Proofs.YtanhnllkccldhaaGreat.Eng Enc
instance encBool : Enc Bool := ⟨fun x => [.bool x], 1, fun _ => rfl, by decide, fun _ v hv => by rw [List.mem_singleton.1 hv]; rfl, fun x => .bool x⟩
abbrev TBo : TypeId := 4
theorem cellsBool (l : List Bool) : cellsL l = l.map Value.bool := by
 induction l with
 | nil => rfl
 | cons x l ih => simp only [cellsL, ih, List.map_cons]; rfl
def BRow (W : World) (g : Nat) (l : List Bool) : Prop := ∃ cur : Array Value, W.heap[g]? = some (.cells cur TBo (0, 0)) ∧ ∀ (k : Nat) (x : Bool), l[k]? = some x → cur[k]? = some (.bool x)
theorem BRow.lt {W : World} {g : Nat} {l : List Bool} (h : BRow W g l) : g < W.heap.size := by
 obtain ⟨cur, c, _⟩ := h
 exact (Array.getElem?_eq_some_iff.1 c).1
theorem BRow.kept {W X : World} {g : Nat} {l : List Bool} (h : BRow W g l) (e : X.heap[g]? = W.heap[g]?) : BRow X g l := by
 obtain ⟨cur, c, d⟩ := h
 exact ⟨cur, e.trans c, d⟩
theorem BRow.below {W X : World} {g : Nat} {l : List Bool} (h : BRow W g l) (hB : Below W.heap.size W X) : BRow X g l := h.kept (hB.block _ h.lt)
theorem BRow.at {w0 : Base} {hp : List LB} {r L : List Nat} {w w1 : World} {g : Nat} {l : List Bool} (h : BRow w g l) (h1 : At w0 hp r L w w1) (hL : g ∉ L) : BRow w1 g l := h.kept (h1.step g h.lt hL)
theorem BRow.cell {W : World} {g : Nat} {l : List Bool} (h : BRow W g l) {k : Nat} {x : Bool} (hk : l[k]? = some x) : W.cell? ⟨g, k, none⟩ = some (.bool x) := by
 obtain ⟨cur, c, d⟩ := h
 simp [World.cell?, c, d k x hk]
theorem BRow.other {W : World} {g q j : Nat} {l : List Bool} {v : Value} (h : BRow W g l) (hne : g ≠ q) : BRow (W.setCell ⟨q, j, none⟩ v) g l := h.kept (setCell_neM hne)
theorem BRow.of {base : Nat} {W : World} {a : Option Addr} {c : Nat} {l : List Bool} (h : Own TBo base W (.slice a l.length c) l) (hn : 0 < l.length) : ∃ g, a = some ⟨g, 0, none⟩ ∧ base ≤ g ∧ l.length ≤ c ∧ c ≤ maxLen ∧ BRow W g l := by
 obtain ⟨hl, ⟨e, h0⟩ | ⟨g, cap, cur, e1, e2, e3, e4, e5, e6, e7⟩⟩ := h
 ·omega
 ·injection e1 with e1 e1' e1''
  subst e1''
  refine ⟨g, e1, e2, e4, e5, cur, e3, fun k x hk => ?_⟩
  rw [cellsBool] at e7
  have e7' : cur.toList.take l.length = l.map Value.bool := by simpa [Enc.size] using e7
  have h1 : (cur.toList.take l.length)[k]? = some (.bool x) := by rw [e7', List.getElem?_map, hk]; rfl
  rw [List.getElem?_take] at h1
  split at h1
  ·rw [← h1, Array.getElem?_toList]
  ·cases h1
theorem BRow.sl {W : World} {g c : Nat} {l : List Bool} (h : BRow W g l) (h1 : l.length ≤ c) (h2 : c ≤ maxLen) : Sl W.heap.size W (.slice (some ⟨g, 0, none⟩) l.length c) l := by
 refine ⟨_, _, rfl, h1, h2, (fun e => nomatch e), fun k x hk => ⟨g, 0, rfl, h.lt, fun i c hi => ?_⟩⟩
 have hc := h.cell hk
 match i, hi with
 | 0, hi =>
   injection hi with hi; subst hi
   rw [show 0 + (k * size Bool + 0) = k by show 0 + (k * 1 + 0) = k; omega]
   exact hc
namespace Rg
end Rg
namespace Rg
def mks (l : List Int) (M k : Nat) : List Bool := (List.range M).map fun n : Nat => decide ((n : Int) ∈ l.take k)
end Rg
def BOwn (base : Nat) (W : World) (v : Value) (s : List Bool) : Prop := ∃ g c, v = .slice (some ⟨g, 0, none⟩) s.length c ∧ s.length ≤ c ∧ c ≤ maxLen ∧ base ≤ g ∧ BRow W g s
theorem BOwn.sl {base : Nat} {W : World} {v : Value} {s : List Bool} (h : BOwn base W v s) : Sl W.heap.size W v s := by
 obtain ⟨g, c, rfl, h1, h2, h3, h4⟩ := h
 exact h4.sl h1 h2
namespace Fr
def made (W p d : Int) : Rt × Bool :=
 if 1048576 < d ∨ 2305843009213693952 < W ∨ W < -2305843009213693952 then (⟨0, 0⟩, false)
 else if inI (W * d + p) = true then (⟨W * d + p, d⟩, okB (W * d + p) d) else (⟨0, 0⟩, false)
end Fr
namespace Fr
end Fr
namespace Rg
def six (n : Nat) : Rt := ⟨(n : Int).tdiv (Int.gcd ((n : Int) % 6) 6 : Nat), (6 : Int).tdiv (Int.gcd ((n : Int) % 6) 6 : Nat)⟩
end Rg
namespace Rg
def btw1 (A B : List Bool) (p : Pt) (long : Int) (n : Nat) : Bool := decide (0 ≤ number ⟨p.t, six n⟩ long) && decide (0 ≤ number ⟨six n, p.u⟩ long) && A[(number ⟨p.t, six n⟩ long).toNat]?.getD false && B[(number ⟨six n, p.u⟩ long).toNat]?.getD false
def btwB (A B : List Bool) (p : Pt) (long : Int) (k : Nat) : Bool := (List.range k).any fun n => btw1 A B p long n
end Rg
namespace Rg
def done (f : Int → Bool) (M k : Nat) : List Bool := (List.range M).map fun n : Nat => decide (n < k) && f n
end Rg
namespace Rg
def mayAt (l : List Int) (long : Int) (k : Nat) : Bool := decide ((askPoint (l[k]?.getD 0) long).2 = 0) && (decide (k = 0) || decide (l[k - 1]?.getD 0 < l[k]?.getD 0))
def mayTo (l : List Int) (long : Int) (k : Nat) : Bool := (List.range k).all fun n => mayAt l long n
def mayL (l : List Int) (long : Int) : Bool := mayTo l long l.length
end Rg
end Go.Proofs.YtanhnllkccldhaaGreat
namespace Go.Proofs.YtanhnllkccldhaaGreat
set_option linter.unusedVariables false
set_option linter.unusedSimpArgs false
open Go.RowKit Go.Proofs.YtanhnllkccldhaaGreat.Eng Enc
namespace Wn
open Mi Dbm
theorem less_get (z : Zn) {i j : Nat} (hi : i < 6) (hj : j < 6) (x : Int) : Zo.get (less z i x) j = if j = i then min (Zo.get z i) x else Zo.get z j := get_set z hi hj _
theorem less2_fz {z : Zn} (hz : Zo.chk z = 0) {i j : Nat} (hi : i < 6) (hj : j < 6) (hij : i ≠ j) {x y : Int} (hx : x = NO ∨ x < NO) (hy : y = NO ∨ y < NO) (t : Nat → Rat) :
 Fz (less (less z i x) j y) t ↔ Fz z t ∧ satO (dif i t) (ob x) ∧ satO (dif j t) (ob y) := by
 have hc := (Zo.clo hz).1
 rw [fz_iff, fz_iff]
 have g : ∀ k, k < 6 → Zo.get (less (less z i x) j y) k = if k = j then min (Zo.get z j) y else if k = i then min (Zo.get z i) x else Zo.get z k := fun k hk => by
  rw [less_get _ hj hk]
  by_cases h : k = j
  ·rw [if_pos h, if_pos h, less_get _ hi hj, if_neg (fun e => hij e.symm)]
  ·rw [if_neg h, if_neg h, less_get _ hi hk]
 have hm := fun (k : Nat) (hk : k < 6) (b : Int) hb => satO_min (dif k t) (Zo.get z k) b (lim_lt (get_lim hc hk) (by omega)) hb
 constructor
 ·intro h
  have h1 := h i hi
  have h2 := h j hj
  rw [g i hi, if_neg hij, if_pos rfl] at h1
  rw [g j hj, if_pos rfl] at h2
  refine ⟨fun k hk => ?_, ((hm i hi x hx).1 h1).2, ((hm j hj y hy).1 h2).2⟩
  have h3 := h k hk
  rw [g k hk] at h3
  by_cases e1 : k = j
  ·subst e1; exact ((hm k hk y hy).1 h2).1
  ·rw [if_neg e1] at h3
   by_cases e2 : k = i
   ·subst e2; exact ((hm k hk x hx).1 h1).1
   ·rw [if_neg e2] at h3; exact h3
 ·rintro ⟨h, h1, h2⟩ k hk
  rw [g k hk]
  by_cases e1 : k = j
  ·subst e1; rw [if_pos rfl]; exact (hm k hk y hy).2 ⟨h k hk, h2⟩
  ·rw [if_neg e1]
   by_cases e2 : k = i
   ·subst e2; rw [if_pos rfl]; exact (hm k hk x hx).2 ⟨h k hk, h1⟩
   ·rw [if_neg e2]; exact h k hk
theorem with2_ok {z : Zn} (hz : Zo.chk z = 0) {i j : Nat} (hi : i < 6) (hj : j < 6) (hij : i ≠ j) {x y : Int} (hx : x = NO ∨ x < NO) (hy : y = NO ∨ y < NO) :
 ((with2 z i x j y).2 = 0 → Zo.chk (with2 z i x j y).1 = 0 ∧ ∀ t, Fz (with2 z i x j y).1 t ↔ Fz z t ∧ satO (dif i t) (ob x) ∧ satO (dif j t) (ob y)) ∧
 ((with2 z i x j y).2 = 6 → ∀ t, ¬ (Fz z t ∧ satO (dif i t) (ob x) ∧ satO (dif j t) (ob y))) := by
 have hp := less2_fz hz hi hj hij hx hy
 unfold with2
 generalize less (less z i x) j y = q at hp ⊢
 unfold Zo.mat
 by_cases hq : Dbm.chk 3 (Zo.matL q) = 0
 ·rw [if_pos hq]
  show ((if (0 : Int) = 0 then Zo.of 3 (Zo.matL q) else _).2 = 0 → _) ∧ ((if (0 : Int) = 0 then Zo.of 3 (Zo.matL q) else _).2 = 6 → _)
  rw [if_pos rfl]
  constructor
  ·intro h
   obtain ⟨h1, h2⟩ := of_ok h
   exact ⟨h1, fun t => (h2 t).trans (hp t)⟩
  ·intro h t ht
   exact of_none h t ((hp t).2 ht)
 ·rw [if_neg hq]
  show ((if (8 : Int) = 0 then Zo.of 0 [] else (Zo.nought, 8)).2 = 0 → _) ∧ ((if (8 : Int) = 0 then Zo.of 0 [] else (Zo.nought, 8)).2 = 6 → _)
  rw [if_neg (by decide)]
  exact ⟨fun h => absurd h (by decide), fun h => absurd h (by decide)⟩
theorem fits_iff {n : Int} : fits n = true ↔ -288230376151711744 ≤ n ∧ n ≤ 288230376151711744 := by simp [fits]
def InS (s : Sp) (t : Nat → Rat) : Prop := (Zo.btw s).2.2 = 0 ∧ satO (dif 4 t) (ob ((Zo.btw s).2.1[2]?.getD 0)) ∧ satO (dif 5 t) (ob ((Zo.btw s).2.1[1]?.getD 0))
theorem btw_lt (s : Sp) (k : Nat) (hk : k < 4) : (Zo.btw s).2.1[k]?.getD 0 = NO ∨ (Zo.btw s).2.1[k]?.getD 0 < NO := by
 unfold Zo.btw Tg.between
 have z0 : ∀ q : Nat, ([] : List Int)[q]?.getD 0 = NO ∨ ([] : List Int)[q]?.getD 0 < NO := fun q => .inr (by simp [NO])
 split
 ·split
  ·split
   ·unfold Dbm.close
    split
    ·rename_i h0
     split
     ·rename_i L hL
      have hc : Clo 2 L := close_clo (N := 2) h0 hL
      have := hc.lim (k / 2) (k % 2) (by omega) (by omega)
      rw [Nat.div_add_mod' k 2] at this
      exact lim_lt this (by omega)
     ·exact z0 k
    ·exact z0 k
   ·exact z0 k
  ·exact z0 k
 ·exact z0 k
theorem within_ok {z : Zn} {s : Sp} (hz : Zo.chk z = 0) :
 ((within z s).2 = 0 → Zo.chk (within z s).1 = 0 ∧ ∀ t, Fz (within z s).1 t ↔ Fz z t ∧ InS s t) ∧ ((within z s).2 = 6 → ∀ t, ¬ (Fz z t ∧ InS s t)) := by
 unfold within InS
 rw [if_pos hz]
 have b2 := btw_lt s 2 (by decide)
 have b1 := btw_lt s 1 (by decide)
 generalize Zo.btw s = X at *
 obtain ⟨n, D, e⟩ := X
 simp only at b1 b2 ⊢
 by_cases he : e = 0
 ·rw [if_pos he]
  obtain ⟨w1, w2⟩ := with2_ok hz (i := 4) (j := 5) (by decide) (by decide) (by decide) b2 b1
  exact ⟨fun h => ⟨(w1 h).1, fun t => ((w1 h).2 t).trans ⟨fun k => ⟨k.1, he, k.2⟩, fun k => ⟨k.1, k.2.2⟩⟩⟩, fun h t ht => w2 h t ⟨ht.1, ht.2.2⟩⟩
 ·rw [if_neg he]
  exact ⟨fun h => absurd h he, fun h t ht => he ht.2.1⟩
end Wn
namespace Zs
open Mi Dbm
theorem checked1 {l : List Zn} (h : Cv.checked [l] = 0) : ∀ z, z ∈ l → Zo.chk z = 0 := (checked_ok.1 h l (by simp)).2
theorem each_ok {f : Zn → Zn × Int} {l : List Zn} (h : (each f l).2 = 0) : Cv.checked [l] = 0 ∧ ((f free).2 = 0 ∨ (f free).2 = 6) ∧ Fine (each f l).1 ∧ (∀ x, x ∈ l → (f x).2 = 0 ∨ (f x).2 = 6) ∧ ∀ t, Pts (each f l).1 t ↔ ∃ x, x ∈ l ∧ (f x).2 = 0 ∧ Fz (f x).1 t := by
 unfold each at h ⊢
 by_cases h0 : Cv.checked [l] = 0
 case neg => rw [if_neg h0] at h; exact absurd h h0
 rw [if_pos h0] at h ⊢
 by_cases h1 : (f free).2 ≠ 0 ∧ (f free).2 ≠ 6
 ·rw [if_pos h1] at h; exact absurd h h1.1
 rw [if_neg h1] at h ⊢
 obtain ⟨⟨m, hm1, hm2⟩, k2, k3⟩ := come_ok f l [] h
 refine ⟨h0, by omega, by rw [hm2]; exact fine_prune hm1, k2, fun t => (k3 t).trans ⟨fun k => k.elim (fun ⟨z, hz, _⟩ => (nomatch hz)) id, .inr⟩⟩
theorem within_pts {l : List Zn} {s : Sp} (h : (within l s).2 = 0) : Fine (within l s).1 ∧ ∀ t, Pts (within l s).1 t ↔ Pts l t ∧ Wn.InS s t := by
 obtain ⟨h0, h1, h2, h3, h4⟩ := each_ok h
 have hc := checked1 h0
 refine ⟨h2, fun t => (h4 t).trans ?_⟩
 constructor
 ·rintro ⟨x, hx, he, hf⟩
  have := (((Wn.within_ok (hc x hx)).1 he).2 t).1 hf
  exact ⟨⟨x, hx, this.1⟩, this.2⟩
 ·rintro ⟨⟨x, hx, hf⟩, hw⟩
  rcases h3 x hx with he | he
  ·exact ⟨x, hx, he, (((Wn.within_ok (hc x hx)).1 he).2 t).2 ⟨hf, hw⟩⟩
  ·exact absurd ⟨hf, hw⟩ ((Wn.within_ok (hc x hx)).2 he t)
end Zs
end Go.Proofs.YtanhnllkccldhaaGreat
