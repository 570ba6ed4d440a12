/-
  The contract of proj.Drop, by the engine.
-/
import Derived.Test.YtnhfkodjphplfaaProjA
namespace Go.Proofs.Ytnhfkodjphplfaa
set_option linter.unusedVariables false
set_option linter.unusedSimpArgs false
set_option maxRecDepth 100000
open Go.RowKit Go.Proofs.Ytnhfkodjphplfaa.Eng Enc

namespace Proj
/-- a clock's old number, where clock k has gone. -/
def sk (k j : Nat) : Nat := if j < k then j else j + 1
def dropAt (N k idx : Nat) : Nat := sk k (idx / (N - 1)) * N + sk k (idx % (N - 1))
def dropL (N k : Nat) (c : List Int) : List Int := (List.range ((N - 1) * (N - 1))).map fun idx => c[dropAt N k idx]?.getD 0
/-- Drop: the clocks, the bounds, and the error. -/
def drop (n : Int) (L : List Int) (k : Int) : Int × List Int × Int :=
  if Dbm.chk n L = 0 then (if k < 1 ∨ n ≤ k then (0, [], 2) else (match Dbm.closeL n.toNat L with | some c => (n - 1, dropL n.toNat k.toNat c, 0) | none => (0, [], 6))) else (0, [], 8)
end Proj

/-- the places that are handed to made: by the list of what is left, and the clocks that there were. -/
theorem drop1_any (i j : Nat) (p q : Nat) (a : Option Addr) (cap : Nat) (l : List Int) (n x y : Int) (hx : l[i]? = some x) (hy : l[j]? = some y) (hr : inK .i64 (x * n) ∧ inK .i64 (x * n + y)) (w : World) (hp : w.cell? ⟨p, 0, none⟩ = some (.slice a l.length cap)) (hS : Sl w.heap.size w (.slice a l.length cap) l) (hq : w.cell? ⟨q, 0, none⟩ = some (.int .i64 n)) :
    Calls Try.prog 27 #[.int .i64 i, .int .i64 j, .pointer (some ⟨p, 0, none⟩), .pointer (some ⟨q, 0, none⟩)] w fun e w' => e = .returned (.int .i64 (x * n + y)) ∧ Below w.heap.size w w' := by
  refine fun_eq 0 w Try.func27 (args := [.val (.int .i64 i), .val (.int .i64 j), .val (.pointer (some ⟨p, 0, none⟩)), .val (.pointer (some ⟨q, 0, none⟩))]) rfl rfl ?_
  refine DrawI.go (.tk 0 (.tk 1 (.tk 2 (.tk 3 (.tk 4 (.tk 5 (.tk 6 (.tk 7 (.tk 8 (.tk 9 (.tk 10 (.tk 11 (.tk 12 .done))))))))))))) (by kernel_rfl) fun w1 h1 => ?_
  have hb := h1.go
  refine LoadI.mk ⟨_, ⟨(hb.cell (p := ⟨p, 0, none⟩) (World.block_lt_of_cell? _ _ hp)).trans hp, by simp⟩, ?_⟩
  refine hS.idx hx fun ad had => ?_
  refine hS.ld1 hx had hb (by simp) ?_
  refine LoadI.mk ⟨_, ⟨(hb.cell (p := ⟨q, 0, none⟩) (World.block_lt_of_cell? _ _ hq)).trans hq, by simp⟩, ?_⟩
  refine Need.mk hr.1 ?_
  refine LoadI.mk ⟨_, ⟨(hb.cell (p := ⟨p, 0, none⟩) (World.block_lt_of_cell? _ _ hp)).trans hp, by simp⟩, ?_⟩
  refine hS.idx hy fun ad had => ?_
  refine hS.ld1 hy had hb (by simp) ?_
  refine Need.mk hr.2 ?_
  exact EndI.mk fun w2 h2 => rfl

abbrev TI : TypeId := 3
/-- a list of numbers from 0 on. -/
def upto (N : Nat) : List Int := (List.range N).map (Int.ofNat)
theorem upto_succ (N : Nat) : upto (N + 1) = upto N ++ [(N : Int)] := by simp [upto, List.range_succ]
theorem upto_len (N : Nat) : (upto N).length = N := by simp [upto]

/-- what is left of the clocks. -/
def leftL (N K : Nat) : List Int := (upto N).take K ++ (upto N).drop (K + 1)
theorem leftL_len {N K : Nat} (h : K < N) : (leftL N K).length = K + (N - (K + 1)) := by simp [leftL, upto_len]; omega
theorem leftL_get {N K j : Nat} (h : K < N) (hj : j < N - 1) : (leftL N K)[j]? = some (Proj.sk K j : Int) := by
  unfold leftL Proj.sk upto
  rw [List.getElem?_append]
  have hl : (List.take K (List.map Int.ofNat (List.range N))).length = K := by simp; omega
  rw [hl]
  split
  · rename_i h1
    rw [List.getElem?_take, if_pos h1, List.getElem?_map, List.getElem?_range (by omega)]; rfl
  · rename_i h1
    rw [List.getElem?_drop, List.getElem?_map, List.getElem?_range (by omega)]
    simp only [Option.map_some]
    rw [show K + 1 + (j - K) = j + 1 by omega]; rfl
theorem dropAt_lt {N k idx : Nat} (hN : 2 ≤ N) (hk : k < N) (h : idx < (N - 1) * (N - 1)) : Proj.dropAt N k idx < N * N := by
  have h1 : idx / (N - 1) < N - 1 := Nat.div_lt_of_lt_mul h
  have h2 : idx % (N - 1) < N - 1 := Nat.mod_lt _ (by omega)
  have h3 : Proj.sk k (idx / (N - 1)) < N := by unfold Proj.sk; split <;> omega
  have h4 : Proj.sk k (idx % (N - 1)) < N := by unfold Proj.sk; split <;> omega
  unfold Proj.dropAt
  calc _ < Proj.sk k (idx / (N - 1)) * N + N := by omega
    _ = (Proj.sk k (idx / (N - 1)) + 1) * N := by rw [Nat.succ_mul]
    _ ≤ N * N := Nat.mul_le_mul_right _ h3
theorem drop_any (n : Int) (a : Option Addr) (cap : Nat) (L : List Int) (k : Int) (w : World) (hS : Sl w.heap.size w (.slice a L.length cap) L) :
    Calls Try.prog 10 #[.agg #[.int .i64 n, .slice a L.length cap], .int .i64 k] w (Ret w fun v w' => ∃ a' cap', v = .tuple #[.agg #[.int .i64 (Proj.drop n L k).1, .slice a' (Proj.drop n L k).2.1.length cap'], .int .i64 (Proj.drop n L k).2.2] ∧ Fresh TB w.heap.size w' (.slice a' (Proj.drop n L k).2.1.length cap') (Proj.drop n L k).2.1) := by
  refine fun_ret 0 w Try.func10 (args := [.agg [.val (.int .i64 n), .val (.slice a L.length cap)], .val (.int .i64 k)]) rfl rfl ?_
  refine NewI.mk fun b1 hb1 => ?_
  refine NewI.mk fun b2 hb2 => ?_
  (first
    | (apply CallI.use1; (focus (exact fun w1 h1 => dcheck_any n a cap L w1 (Sl.at h1 hS))); intro w1 w2 h1 hB)
    | (refine Branch.yes rfl ?_)
    | (refine Branch.no rfl ?_)
    | (refine Branch.mk (fun hb => ?_) (fun hb => ?_))
    | (refine NewI.mk fun nb hnb => ?_)
    | (refine Need.mk (by show _ ∧ _; omega) ?_)
    | (refine Need.mk (by omega) ?_)
    | (refine Need.mk ?_ ?_)
    | (refine EndI.mk fun w1 h1 => ?_))
  -- an error
  have err : ∀ (e : Int) (w' : World), Proj.drop n L k = (0, [], e) → ∃ a' cap', Value.tuple #[.agg #[.int .i64 0, .slice none 0 0], .int .i64 e] = .tuple #[.agg #[.int .i64 (Proj.drop n L k).1, .slice a' (Proj.drop n L k).2.1.length cap'], .int .i64 (Proj.drop n L k).2.2] ∧ Fresh TB w.heap.size w' (.slice a' (Proj.drop n L k).2.1.length cap') (Proj.drop n L k).2.1 := fun e w' he => by
    rw [he]; exact ⟨_, _, rfl, .inl ⟨rfl, rfl⟩⟩
  refine Branch.mk (fun hc => ?_) (fun hc => ?_)
  · exact EndI.mk fun w3 h3 => err 8 w3 (by rw [Proj.drop, if_neg (by simpa using hc)])
  have hc0 : Dbm.chk n L = 0 := by simpa using hc
  refine Branch.mk (fun hk1 => ?_) (fun hk1 => ?_)
  · exact EndI.mk fun w3 h3 => err 2 w3 (by rw [Proj.drop, if_pos hc0, if_pos (.inl (by simpa using hk1))])
  refine Branch.mk (fun hk2 => ?_) (fun hk2 => ?_)
  · exact EndI.mk fun w3 h3 => err 2 w3 (by rw [Proj.drop, if_pos hc0, if_pos (.inr (by simpa using hk2))])
  have hk1' : 1 ≤ k := by simp at hk1; omega
  have hk2' : k < n := by simpa using hk2
  have hcon := fun (w3 : World) (h : Sl w3.heap.size w3 (.slice a L.length cap) L) => close_any n a cap L w3 h
  rcases Dbm.close_cases hc0 with ⟨h1, h2⟩ | ⟨C, hC, hcl, hCl⟩
  · simp only [h2] at hcon
    apply CallI.use
    · exact fun w3 h3 => hcon w3 (Sl.at h3 hS)
    rintro v w3 w4 h3 hB4 ⟨ac, capc, rfl, hF⟩
    refine NewI.mk fun b3 hb3 => ?_
    refine Branch.yes rfl ?_
    exact EndI.mk fun w5 h5 => err 6 w5 (by rw [Proj.drop, if_pos hc0, if_neg (by omega), h1])
  simp only [hcl] at hcon
  apply CallI.use
  · exact fun w3 h3 => hcon w3 (Sl.at h3 hS)
  rintro v w3 w4 h3 hB4 ⟨ac, capc, rfl, hF⟩
  refine NewI.mk fun b3 hb3 => ?_
  refine Branch.no rfl ?_
  refine NewI.mk fun b4 hb4 => ?_
  obtain ⟨N, rfl⟩ : ∃ N : Nat, n = N := ⟨n.toNat, by omega⟩
  obtain ⟨K, rfl⟩ : ∃ K : Nat, k = K := ⟨k.toNat, by omega⟩
  obtain ⟨c1, c2, c3, c4⟩ := Dbm.chk_iff.1 hc0
  have hlen : C.length = N * N := by rw [hCl]; exact_mod_cast c3
  have hN4 : N ≤ 4 := by omega
  have hK1 : 1 ≤ K := by omega
  have hKN : K < N := by omega
  have hN2 : 2 ≤ N := by omega
  have hw4b : Below w.heap.size w w4 := h3.below.trans (hB4.mono h3.below.size)
  have hw4 : ∀ b, b ∈ [b1, b2] → b < w4.heap.size := fun b hb => Nat.lt_of_lt_of_le (h3.lt b hb) hB4.size
  obtain ⟨X, hX3, hX4, hXw, hXm⟩ : ∃ X, b3 < X ∧ b4 < X ∧ w4.heap.size ≤ X ∧ ∀ n, b3 < n → b4 < n → w4.heap.size ≤ n → X ≤ n := ⟨max (max b3 b4 + 1) w4.heap.size, by omega, by omega, by omega, fun n h1 h2 h3 => by omega⟩
  refine LoopI.inv (α := Nat × World × Value) (fun y => [(36, .val (.int .i64 y.1))]) (fun y => [⟨[.val (.int .i64 N), .val (.slice a L.length cap)], 24⟩, ⟨[.val (.int .i64 0), .val (.slice none 0 0)], 24⟩, ⟨[.val (.int .i64 N), .val (.slice ac C.length capc)], 24⟩, ⟨[.val y.2.2], 42⟩]) (fun y => y.2.1)
    (fun y => y.1 ≤ N ∧ Below w4.heap.size w4 y.2.1 ∧ X ≤ y.2.1.heap.size ∧ Own TI X y.2.1 y.2.2 (upto y.1)) (fun y => N - y.1) ?_ ?_
  · intro w5 h5
    exact ⟨(0, w5, .slice none 0 0), Cov.mk (by repeat' (first | exact trivial | refine And.intro rfl ?_)) rfl rfl rfl rfl rfl, rfl, Nat.zero_le _, h5.from hw4b (Below.refl _ _) (by intro b hb; simp at hb; subst hb; exact hb3), hXm _ (h5.lt b3 (by simp)) (h5.lt b4 (by simp)) h5.size, Own.nil⟩
  rintro ⟨i, W, sv⟩ ⟨hi, hBW, hXW, hO⟩
  refine Branch.mk (fun hb => ?_) (fun hb => ?_)
  · have hlt : i < N := by simpa using hb
    refine NewI.mk fun b5 hb5 => ?_
    have hb5' : W.heap.size ≤ b5 := hb5
    have hXW' : X ≤ W.heap.size := hXW
    have hO1 : Own TI X W sv (upto i) := hO
    have hBW' : Below w4.heap.size w4 W := hBW
    have hr : ∀ g, sv.ownBlock = some g → w.heap.size ≤ g ∧ g ∉ [b1, b2, b3, b4, b5] := fun g hg => by
      have := hO1.lt g hg
      refine ⟨Nat.le_trans (Nat.le_trans (Nat.le_trans h3.below.size hB4.size) hXw) this.1, fun hm => ?_⟩
      simp only [List.mem_cons, List.not_mem_nil, or_false] at hm
      rcases hm with rfl | rfl | rfl | rfl | rfl
      · have := hw4 g (by simp); omega
      · have := hw4 g (by simp); omega
      · omega
      · omega
      · omega
    refine GenN.app (α := Int) elDI (upto i) [(i : Int)] X (fun w5 h5 => hO1.below h5.go) (fun w5 h5 => src_own h5 4 rfl rfl rfl rfl) (by rw [upto_len]; unfold maxLen; simp; omega) (by rw [upto_len]; simp; omega) (fun w5 h5 => Nat.le_trans hXW' h5.size)
      (fun w5 w6 h5 hg => keep_grown h5 hg hr) fun sv' w5 w6 h5 hg hO' => ?_
    obtain ⟨a', c', rfl⟩ := hO'.form
    rw [← upto_succ] at hO'
    have hB6 : Below w4.heap.size w4 w6 := ⟨hg.os.trans h5.go.os |>.trans hBW'.os, hg.tape.trans h5.go.tape |>.trans hBW'.tape, hg.output.trans h5.go.output |>.trans hBW'.output, Nat.le_trans hBW'.size (Nat.le_trans h5.size hg.size), fun k hk => by
      have hkW : k < W.heap.size := Nat.lt_of_lt_of_le hk hBW'.size
      refine (hg.block k (Nat.lt_of_lt_of_le hkW h5.size) (fun e => ?_)).trans ((h5.go.block k hkW).trans (hBW'.block k hk))
      have := hO1.lt k e.symm
      omega⟩
    refine Need.mk (by show _ ∧ _; omega) (EndI.mk fun w7 h7 => ⟨(i + 1, w7, .slice a' (upto i ++ [(i : Int)]).length c'), Cov.mk (by repeat' (first | exact trivial | refine And.intro rfl ?_)) rfl rfl rfl rfl rfl, rfl, ⟨hlt, ?_, ?_, ?_⟩, by simp only; omega⟩)
    · exact h7.from hw4b hB6 (by intro b hb; simp at hb; subst hb; exact hb4)
    · exact Nat.le_trans hXW' (Nat.le_trans h5.size (Nat.le_trans hg.size h7.size))
    · rw [← upto_succ]
      exact hO'.at h7 (by intro b hb; simp at hb; subst hb; exact hX4)
  · have hge : i = N := by have : ¬ i < N := by simpa using hb
                           omega
    have hO1 : Own TI X W sv (upto N) := by rw [← hge]; exact hO
    have hBW' : Below w4.heap.size w4 W := hBW
    have hXW' : X ≤ W.heap.size := hXW
    clear hO hBW hXW hi hb hge
    obtain ⟨g, cg, rfl⟩ : ∃ g c, sv = .slice (some ⟨g, 0, none⟩) (upto N).length c := by
      obtain ⟨_, ⟨rfl, h0⟩ | ⟨g, c, cur, rfl, _⟩⟩ := id hO1
      · rw [upto_len] at h0; omega
      · exact ⟨g, c, rfl⟩
    obtain ⟨_, hXg, hgW, _⟩ := hO1.at0
    have hgw : w.heap.size ≤ g := Nat.le_trans hw4b.size (Nat.le_trans hXw hXg)
    have hgr : ∀ b, b ∈ [b1, b2, b3, b4] → b ≠ g := by
      intro b hb e
      simp only [List.mem_cons, List.not_mem_nil, or_false] at hb
      rcases hb with rfl | rfl | rfl | rfl
      · have := hw4 b (by simp); omega
      · have := hw4 b (by simp); omega
      · omega
      · omega
    refine Need.mk (by show _ ∧ _; omega) ?_
    apply CallI.mk
    intro w5 h5
    refine (deleteI_any (upto N) g cg X K (K + 1) TI rfl (by omega) (by rw [upto_len]; omega) w.heap.size w5 h5.below.size hgw (hO1.below h5.go) (by rw [upto_len]; omega)).mono ?_
    rintro e w6 ⟨v, rfl, hB6, rfl, hO6, hg6⟩
    refine ⟨⟨hB6, fun b hb => hg6.block b (h5.lt b hb) (fun e => hgr b hb (by injection e))⟩, _, rfl, ?_⟩
    have B46 : Below w4.heap.size w4 w6 := ⟨hg6.os.trans (h5.go.os.trans hBW'.os), hg6.tape.trans (h5.go.tape.trans hBW'.tape), hg6.output.trans (h5.go.output.trans hBW'.output), Nat.le_trans hBW'.size (Nat.le_trans h5.size hg6.size), fun k hk => by
      have hkW : k < W.heap.size := Nat.lt_of_lt_of_le hk hBW'.size
      refine (hg6.block k (Nat.lt_of_lt_of_le hkW h5.size) (fun e => ?_)).trans ((h5.go.block k hkW).trans (hBW'.block k hk))
      injection e with e; omega⟩
    have hm : K + ((upto N).length - (K + 1)) = N - 1 := by rw [upto_len]; omega
    rw [hm] at hO6 ⊢
    have hll : (leftL N K).length = N - 1 := by rw [leftL_len hKN]; omega
    have hO6' : Own TI X w6 (.slice (some ⟨g, 0, none⟩) (leftL N K).length cg) (leftL N K) := by rw [hll]; exact hO6
    apply CallI.use
    · intro w7 h7
      have B47 : Below w4.heap.size w4 w7 := h7.from hw4b B46 (by intro b hb; simp at hb; subst hb; exact hb4)
      refine pmade_any N C ac capc (N - 1) (by omega) (by omega) 27 #[.pointer (some ⟨b4, 0, none⟩), .pointer (some ⟨b3, 0, none⟩)] Try.call27 (fun idx => (Proj.dropAt N K idx : Int)) w7 ((hF.sl.below B47).upto B47.size) (fun k hk => by
        rw [hlen]; exact Int.ofNat_lt.2 (dropAt_lt hN2 hKN hk)) (fun k W' hk hW' => ?_)
      have h1 : k / (N - 1) < N - 1 := Nat.div_lt_of_lt_mul hk
      have h2 : k % (N - 1) < N - 1 := Nat.mod_lt _ (by omega)
      have hs : Sl w7.heap.size w7 (.slice (some ⟨g, 0, none⟩) (leftL N K).length cg) (leftL N K) := (hO6'.at h7 (by intro b hb; simp at hb; subst hb; exact hX4)).sl
      have hb4' := h7.lt b4 (by simp)
      have hb3' := h7.lt b3 (by simp)
      have sk1 : Proj.sk K (k / (N - 1)) < N := by unfold Proj.sk; split <;> omega
      have sk2 : Proj.sk K (k % (N - 1)) < N := by unfold Proj.sk; split <;> omega
      have hmul : Proj.sk K (k / (N - 1)) * N ≤ 4 * 4 := Nat.mul_le_mul (by omega) hN4
      have emul : (Proj.sk K (k / (N - 1)) : Int) * (N : Int) = ((Proj.sk K (k / (N - 1)) * N : Nat) : Int) := rfl
      refine drop1_any (k / (N - 1)) (k % (N - 1)) b4 b3 (some ⟨g, 0, none⟩) cg (leftL N K) N _ _ (leftL_get hKN h1) (leftL_get hKN h2) (by rw [emul]; constructor <;> (show _ ∧ _; omega)) W' ?_ (hs.go hW' hW'.size) ?_
      · refine (hW'.cell (p := ⟨b4, 0, none⟩) hb4').trans ?_
        rw [hll]; exact h7.own (i := 3) (o := 0) rfl rfl rfl
      · refine (hW'.cell (p := ⟨b3, 0, none⟩) hb3').trans ?_
        exact h7.own (i := 2) (o := 0) rfl rfl rfl
    rintro v w7 w8 h7 hB8 ⟨ad, cd, rfl, hFd⟩
    refine EndI.mk fun w9 h9 => ?_
    have hdl : madeL C (fun idx => (Proj.dropAt N K idx : Int)) ((N - 1) * (N - 1)) = Proj.dropL N K C := by
      unfold madeL Proj.dropL
      refine List.map_congr_left fun j hj => ?_
      show (if 0 ≤ ((Proj.dropAt N K j : Nat) : Int) then _ else _) = _
      rw [if_pos (Int.natCast_nonneg _), Int.toNat_natCast]
    have hdr : Proj.drop N L K = ((N : Int) - 1, Proj.dropL N K C, 0) := by
      rw [Proj.drop, if_pos hc0, if_neg (by omega), hC]; rfl
    rw [hdr]
    rw [hdl] at hFd ⊢
    have en : ((N - 1 : Nat) : Int) = (N : Int) - 1 := by omega
    rw [en]
    refine ⟨_, _, rfl, ?_⟩
    exact (hFd.at h9 (fun b hb => by have := h7.lt b2 (by simp); rw [List.mem_singleton.1 hb]; exact this)).lower h7.below.size
end Go.Proofs.Ytnhfkodjphplfaa
