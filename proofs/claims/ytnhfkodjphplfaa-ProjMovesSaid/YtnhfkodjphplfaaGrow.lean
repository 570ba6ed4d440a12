/-
  The contract of proj.Grow, by the engine.
-/
import Derived.Test.YtnhfkodjphplfaaProjA
namespace Go.Proofs.Ytnhfkodjphplfaa
set_option linter.unusedVariables false
set_option linter.unusedSimpArgs false
set_option maxRecDepth 100000
open Go.RowKit Go.Proofs.Ytnhfkodjphplfaa.Eng Enc

namespace Proj
def growF (n : Nat) (idx : Nat) : Int := if max (idx / (n + 1)) (idx % (n + 1)) = n then -1 else ((idx / (n + 1) * n + idx % (n + 1) : Nat) : Int)
def growL (n : Nat) (L : List Int) : List Int := (madeL L (growF n) ((n + 1) * (n + 1))).set ((n + 1) * (n + 1) - 1) 1
/-- Grow: the clocks, the bounds, and the error. -/
def grow (n : Int) (L : List Int) : Int × List Int × Int :=
  if Dbm.chk n L = 0 then (if n = 4 then (0, [], 9) else (n + 1, growL n.toNat L, 0)) else (0, [], 8)
end Proj

theorem grow1_any (i j n q : Nat) (hr : i ≤ 16 ∧ j ≤ 16 ∧ n ≤ 16) (w : World) (hq : w.cell? ⟨q, 0, none⟩ = some (.int .i64 n)) :
    Calls Try.prog 31 #[.int .i64 i, .int .i64 j, .pointer (some ⟨q, 0, none⟩)] w fun e w' => e = .returned (.int .i64 (if max i j = n then -1 else ((i * n + j : Nat) : Int))) ∧ Below w.heap.size w w' := by
  refine fun_eq 0 w Try.func31 (args := [.val (.int .i64 i), .val (.int .i64 j), .val (.pointer (some ⟨q, 0, none⟩))]) rfl rfl ?_
  refine LoadI.mk ⟨_, ⟨hq, by simp⟩, ?_⟩
  have hmax : (if (j : Int) > i then (j : Int) else i) = ((max i j : Nat) : Int) := by
    split <;> omega
  have e1 : (i : Int) * n = ((i * n : Nat) : Int) := rfl
  have hin : i * n ≤ 16 * 16 := Nat.mul_le_mul hr.1 hr.2.2
  refine Branch.mk (fun hc => ?_) (fun hc => ?_)
  · have hc' : max i j = n := by
      have : (if (j : Int) > i then (j : Int) else i) = n := by simpa [maxL] using hc
      rw [hmax] at this; omega
    refine EndI.mk fun w1 h1 => ?_
    rw [if_pos hc']
  · have hc' : ¬ max i j = n := by
      have : ¬ (if (j : Int) > i then (j : Int) else i) = n := by simpa [maxL] using hc
      rw [hmax] at this; omega
    refine LoadI.mk ⟨_, ⟨hq, by simp⟩, ?_⟩
    refine Need.mk (by rw [e1]; show _ ∧ _; omega) ?_
    refine Need.mk (by rw [e1]; show _ ∧ _; omega) ?_
    refine EndI.mk fun w1 h1 => ?_
    rw [if_neg hc']; rfl

theorem grow_any (n : Int) (a : Option Addr) (cap : Nat) (L : List Int) (w : World) (hS : Sl w.heap.size w (.slice a L.length cap) L) :
    Calls Try.prog 13 #[.agg #[.int .i64 n, .slice a L.length cap]] w (Ret w fun v w' => ∃ a' cap', v = .tuple #[.agg #[.int .i64 (Proj.grow n L).1, .slice a' (Proj.grow n L).2.1.length cap'], .int .i64 (Proj.grow n L).2.2] ∧ Fresh TB w.heap.size w' (.slice a' (Proj.grow n L).2.1.length cap') (Proj.grow n L).2.1) := by
  refine fun_ret 0 w Try.func13 (args := [.agg [.val (.int .i64 n), .val (.slice a L.length cap)]]) rfl rfl ?_
  refine NewI.mk fun b1 hb1 => ?_
  refine NewI.mk fun b2 hb2 => ?_
  (first
    | (apply CallI.use1; (focus (exact fun w1 h1 => dcheck_any n a cap L w1 (Sl.at h1 hS))); intro w1 w2 h1 hB)
    | (refine Branch.yes rfl ?_)
    | (refine Branch.no rfl ?_)
    | (refine Branch.mk (fun hb => ?_) (fun hb => ?_))
    | (refine NewI.mk fun nb hnb => ?_)
    | (refine Need.mk (by show _ ∧ _; omega) ?_)
    | (refine Need.mk (by omega) ?_)
    | (refine Need.mk ?_ ?_)
    | (refine EndI.mk fun w1 h1 => ?_))
  have err : ∀ (e : Int) (w' : World), Proj.grow n L = (0, [], e) → ∃ a' cap', Value.tuple #[.agg #[.int .i64 0, .slice none 0 0], .int .i64 e] = .tuple #[.agg #[.int .i64 (Proj.grow n L).1, .slice a' (Proj.grow n L).2.1.length cap'], .int .i64 (Proj.grow n L).2.2] ∧ Fresh TB w.heap.size w' (.slice a' (Proj.grow n L).2.1.length cap') (Proj.grow n L).2.1 := fun e w' he => by
    rw [he]; exact ⟨_, _, rfl, .inl ⟨rfl, rfl⟩⟩
  refine Branch.mk (fun hc => ?_) (fun hc => ?_)
  · exact EndI.mk fun w3 h3 => err 8 w3 (by rw [Proj.grow, if_neg (by simpa using hc)])
  have hc0 : Dbm.chk n L = 0 := by simpa using hc
  refine Branch.mk (fun hk1 => ?_) (fun hk1 => ?_)
  · exact EndI.mk fun w3 h3 => err 9 w3 (by rw [Proj.grow, if_pos hc0, if_pos (by simpa using hk1)])
  have hn4 : n ≠ 4 := by simpa using hk1
  obtain ⟨c1, c2, c3, c4⟩ := Dbm.chk_iff.1 hc0
  obtain ⟨N, rfl⟩ : ∃ N : Nat, n = N := ⟨n.toNat, by omega⟩
  have hlen : L.length = N * N := by exact_mod_cast c3
  have hN1 : 1 ≤ N := by omega
  have hN3 : N ≤ 3 := by omega
  refine Need.mk (by show _ ∧ _; omega) ?_
  have hFlt : ∀ k, k < (N + 1) * (N + 1) → Proj.growF N k < L.length := fun k hk => by
    have h1 : k / (N + 1) < N + 1 := Nat.div_lt_of_lt_mul hk
    have h2 : k % (N + 1) < N + 1 := Nat.mod_lt _ (by omega)
    unfold Proj.growF
    split
    · omega
    · rename_i h3
      have h4 : k / (N + 1) < N := by omega
      have h5 : k % (N + 1) < N := by omega
      rw [hlen]
      refine Int.ofNat_lt.2 ?_
      calc _ < k / (N + 1) * N + N := by omega
        _ = (k / (N + 1) + 1) * N := by rw [Nat.succ_mul]
        _ ≤ N * N := Nat.mul_le_mul_right _ h4
  apply CallI.use
  · intro w3 h3
    refine pmade_any N L a cap (N + 1) (by omega) (by omega) 31 #[.pointer (some ⟨b1, 0, none⟩)] Try.call31 (Proj.growF N) w3 (Sl.at h3 hS) hFlt (fun k W' hk hW' => ?_)
    have h1 : k / (N + 1) < N + 1 := Nat.div_lt_of_lt_mul hk
    have h2 : k % (N + 1) < N + 1 := Nat.mod_lt _ (by omega)
    exact grow1_any (k / (N + 1)) (k % (N + 1)) N b1 (by omega) W' ((hW'.cell (p := ⟨b1, 0, none⟩) (h3.lt b1 (by simp))).trans (h3.own (i := 0) (o := 0) rfl rfl rfl))
  rintro v w3 w4 h3 hB4 ⟨am, cm, rfl, hF⟩
  have hml := madeL_len L (Proj.growF N) ((N + 1) * (N + 1))
  have hpos : 0 < (N + 1) * (N + 1) := Nat.mul_pos (by omega) (by omega)
  have hle : (N + 1) * (N + 1) ≤ 4 * 4 := Nat.mul_le_mul (by omega) (by omega)
  rcases hF with ⟨_, e0⟩ | ⟨g, cg, e0, f1, f2, f3, f4⟩
  · rw [e0] at hml; simp at hml
  injection e0 with e0 e1 e2
  subst e0; subst e2
  refine NewI.mk fun b3 hb3 => ?_
  rw [hml]
  refine Need.mk (by show _ ∧ _; omega) ?_
  refine IdxI.mk ⟨_, ⟨rfl, by omega, by omega⟩, ?_⟩
  have hgw : w.heap.size ≤ g := Nat.le_trans h3.below.size f3
  have hgr : ∀ b, b ∈ [b1, b2, b3] → b ≠ g := by
    intro b hb e
    subst e
    simp only [List.mem_cons, List.not_mem_nil, or_false] at hb
    have := f4.lt
    rcases hb with rfl | rfl | rfl
    · have := h3.lt b (by simp); omega
    · have := h3.lt b (by simp); omega
    · omega
  refine StoreI.mk fun w5 h5 => ?_
  have r5 := f4.at h5 (fun e => hgr b3 (by simp) (List.mem_singleton.1 e).symm)
  have eidx : ((⟨g, 0, none⟩ : Addr).add (((((N + 1) * (N + 1) : Nat) : Int) - 1).toNat * 1)) = ⟨g, (N + 1) * (N + 1) - 1, none⟩ := by
    rw [addr_addL]
    generalize (N + 1) * (N + 1) = M at *
    congr 1
    omega
  rw [eidx]
  have hj : (N + 1) * (N + 1) - 1 < (madeL L (Proj.growF N) ((N + 1) * (N + 1))).length := by rw [hml]; omega
  refine ⟨⟨⟨_, r5.cell hj⟩, r5.frozen _⟩, keep_set hgw hgr, ?_⟩
  refine EndI.mk fun w6 h6 => ?_
  have hgo : Proj.grow N L = ((N : Int) + 1, Proj.growL N L, 0) := by rw [Proj.grow, if_pos hc0, if_neg hn4]; rfl
  rw [hgo]
  have hgl : (Proj.growL N L).length = (N + 1) * (N + 1) := by rw [Proj.growL, List.length_set, hml]
  rw [hgl]
  refine ⟨_, _, rfl, .inr ⟨g, cm, by rw [hgl], by rw [hgl, ← hml]; exact f1, f2, hgw, ?_⟩⟩
  exact (r5.set hj 1).at h6 (fun e => hgr b2 (by simp) (List.mem_singleton.1 e).symm)
end Go.Proofs.Ytnhfkodjphplfaa
