/-
  The walk of rallentandolaw12.CoverLong, by the engine.
-/
import Derived.Test.YthajkhbeehiepaaGreatCoverMany
namespace Go.Proofs.YthajkhbeehiepaaGreat
set_option linter.unusedVariables false
set_option linter.unusedSimpArgs false
set_option maxRecDepth 100000
open Go.RowKit Go.Proofs.YthajkhbeehiepaaGreat.Eng Enc

theorem coverLong_walk (z : Zn) (m : Int) (hm : 0 ≤ m ∧ m ≤ 255) (w : World) :
    Calls Tryz.prog 9 #[.agg #[.int .i64 z.a, .int .i64 z.b, .int .i64 z.c, .int .i64 z.d, .int .i64 z.e, .int .i64 z.f], .int .u8 m] w fun e w' => e = .returned (.bool true) ∧ Below w.heap.size w w' := by
  refine fun_eq 0 w Tryz.func9 (args := [.agg [.val (.int .i64 z.a), .val (.int .i64 z.b), .val (.int .i64 z.c), .val (.int .i64 z.d), .val (.int .i64 z.e), .val (.int .i64 z.f)], .val (.int .u8 m)]) rfl rfl ?_
  refine NewI.mk fun b1 hb1 => ?_
  refine Need.mk (by simp only [inK]; omega) ?_
  refine Need.mk (by simp only [inK]; omega) ?_
  obtain ⟨M, rfl⟩ : ∃ M : Nat, m = M := ⟨m.toNat, by omega⟩
  refine GenV.mks (α := Zn) elZ ⟨0, 0, 0, 0, 0, 0⟩ infoZ0 (4097 + M) (by simp) (by show (4097 + M) * 6 ≤ _; omega) (by omega) fun v w1 w2 h1 hB2 hO => ?_
  obtain ⟨g, cg, rfl, hgb⟩ : ∃ g c, v = .slice (some ⟨g, 0, none⟩) (4097 + M) c ∧ w1.heap.size ≤ g := by
    obtain ⟨_, ⟨_, h0⟩ | ⟨g', cap', cur, h0, hb, _⟩⟩ := id hO
    · rw [List.length_replicate] at h0; omega
    · rw [List.length_replicate] at h0; exact ⟨g', cap', h0, hb⟩
  have hgw : w.heap.size ≤ g := Nat.le_trans h1.below.size hgb
  have hgr : ∀ k, (Value.slice (some ⟨g, 0, none⟩) (4097 + M) cg).ownBlock = some k → w.heap.size ≤ k ∧ k ∉ [b1] := fun k hk => by
    injection hk with hk; subst hk
    have := h1.lt b1 (by simp)
    exact ⟨hgw, by simp; omega⟩
  have hw2 : Below w.heap.size w w2 := h1.below.trans (hB2.mono h1.below.size)
  refine LoopI.invC (α := Nat × World × List Zn) (fun y => [(6, .val (.int .i64 y.1))]) (fun y => y.2.1) (fun y => y.1 ≤ 4097 + M ∧ Below w.heap.size w y.2.1 ∧ Own TZ w1.heap.size y.2.1 (.slice (some ⟨g, 0, none⟩) (4097 + M) cg) y.2.2 ∧ y.2.2.length = 4097 + M) (fun y => 4097 + M - y.1) ?_ ?_
  · intro w5 h5
    exact ⟨(0, w5, List.replicate (4097 + M) ⟨0, 0, 0, 0, 0, 0⟩), Cov.mk (by repeat' (first | exact trivial | refine And.intro rfl ?_)) rfl rfl rfl rfl rfl, rfl, Nat.zero_le _, h5.below, hO.at h5 (by simp), by simp⟩
  rintro ⟨k, W, l⟩ ⟨hk, hW, hOl, hl⟩
  have hOl : Own TZ w1.heap.size W (.slice (some ⟨g, 0, none⟩) (4097 + M) cg) l := hOl
  have hl : l.length = 4097 + M := hl
  refine Branch.mk (fun hc => ?_) (fun hc => ?_)
  · have hlt : k < 4097 + M := by have : (k : Int) < ((4097 + M : Nat) : Int) := by simpa using hc
                                  omega
    refine IdxI.mk ⟨_, ⟨rfl, by omega, by omega⟩, ?_⟩
    refine Need.mk rfl ?_
    refine StoreA.mk fun w5 h5 => ?_
    have hO5 := hOl.below h5.go
    obtain ⟨_, _, _, cur, hg5, hn5, hm5, hs5, _⟩ := hO5.at0
    have hkk : (k + 1) * 6 ≤ l.length * 6 := Nat.mul_le_mul_right _ (by omega)
    have hcl : l.length * 6 ≤ cg * 6 := Nat.mul_le_mul_right _ hn5
    have hs5' : cur.size = cg * 6 := hs5
    have hset := hO5.set hg5 k (by omega) z
    have hgr5 : w5.grownBy (w5.setRow g (cur.toList.take (k * 6) ++ enc z ++ cur.toList.drop (k * 6 + (enc z).length)).toArray) (some g) := grown_setRow _ _ _
    refine ⟨g, k * 6, cur, _, ?_, hg5, ?_, keep_grown h5 hgr5 (fun k hk => hgr k hk), ?_⟩
    · simp [addr_addL]
    · show k * 6 + 6 ≤ cur.size
      rw [Nat.succ_mul] at hkk; omega
    · refine Need.mk (by simp only [inK]; omega) (EndI.mk fun w7 h7 => ⟨(k + 1, w7, l.set k z), Cov.mk (by repeat' (first | exact trivial | refine And.intro rfl ?_)) rfl rfl rfl rfl rfl, rfl, ⟨hlt, h7.below, hset.at h7 (by simp), by rw [List.length_set]; exact hl⟩, by simp only; omega⟩)
  have hbig : 4096 < 4097 + M := by omega
  refine CallI.to1 (fun w => cin_many z _ _ _ hbig w) fun w3 => ?_
  refine CallI.to1 (fun w => call_many _ _ _ _ _ _ (.inl hbig) w) fun w4 => ?_
  refine CallI.to1 (fun w => call_many _ _ _ _ _ _ (.inr hbig) w) fun w5 => ?_
  refine CallI.to1 (fun w => cprune_many _ _ _ hbig w) fun w6 => ?_
  refine CallI.to1 (fun w => cwitness_many z _ _ _ hbig w) fun w7 => ?_
  refine NewI.mk fun b2 hb2 => ?_
  refine Branch.yes (by decide) ?_
  refine Branch.yes (by decide) ?_
  refine Branch.yes (by decide) ?_
  refine Branch.yes (by decide) ?_
  exact EndI.mk fun w9 h9 => congrArg Value.bool (by decide)
end Go.Proofs.YthajkhbeehiepaaGreat
