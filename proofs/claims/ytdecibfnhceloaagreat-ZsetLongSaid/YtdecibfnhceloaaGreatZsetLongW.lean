/-
  Lists of zones that are too long: zset.checked and what asks it, by the engine.
-/
import Derived.Test.YtdecibfnhceloaaGreatRow
namespace Go.Proofs.YtdecibfnhceloaaGreat
set_option linter.unusedVariables false
set_option linter.unusedSimpArgs false
set_option maxRecDepth 100000
open Go.RowKit Go.Proofs.YtdecibfnhceloaaGreat.Eng Enc

theorem zchecked_many (ls : List Svl) (hm : ∃ x ∈ ls, 4096 < x.len) (a : Option Addr) (cap : Nat) (w : World) (hS : Sl w.heap.size w (.slice a ls.length cap) ls) :
    Calls Tryz.prog 12 #[.slice a ls.length cap] w fun e w' => e = .returned (.int .i64 4) ∧ Below w.heap.size w w' := by
  refine fun_eq 0 w Tryz.func12 (args := [.val (.slice a ls.length cap)]) rfl rfl ?_
  refine LoopI.invC (α := Nat × World) (fun y => [(10, .val (.int .i64 y.1))]) (fun y => y.2) (fun y => y.1 ≤ ls.length ∧ Below w.heap.size w y.2 ∧ ∀ j x, j < y.1 → ls[j]? = some x → x.len ≤ 4096) (fun y => ls.length - y.1) ?_ ?_
  · intro w1 h1
    exact ⟨(0, w1), Cov.mk (by repeat' (first | exact trivial | refine And.intro rfl ?_)) rfl rfl rfl rfl rfl, rfl, Nat.zero_le _, h1.below, fun j x hj => by omega⟩
  rintro ⟨k, W⟩ ⟨hk, hW, hall⟩
  refine Branch.mk (fun hc => ?_) (fun hc => ?_)
  · have hlt : k < ls.length := by simpa using hc
    have hg := List.getElem?_eq_getElem (l := ls) (i := k) hlt
    have hSW := hS.go hW hW.size
    refine hSW.idx hg fun ad had => ?_
    refine hSW.ldv hg rfl had (Below.refl _ _) (by simp) ?_
    refine Branch.mk (fun hc2 => ?_) (fun hc2 => ?_)
    · exact EndI.mk fun w3 h3 => rfl
    · have hle : (ls[k]'hlt).len ≤ 4096 := by have : ¬ (4096 : Int) < (ls[k]'hlt).len := by simpa using hc2
                                              omega
      refine Need.mk (by have := hS.form; obtain ⟨_, _, e, h1, h2, _⟩ := this; simp only [maxLen] at h2; simp only [inK]; omega) (EndI.mk fun w7 h7 => ⟨(k + 1, w7), Cov.mk (by repeat' (first | exact trivial | refine And.intro rfl ?_)) rfl rfl rfl rfl rfl, rfl, ⟨hlt, h7.below, fun j x hj hx => ?_⟩, by simp only; omega⟩)
      rcases Nat.lt_succ_iff_lt_or_eq.1 hj with h | h
      · exact hall j x h hx
      · subst h; rw [hg] at hx; injection hx with hx; subst hx; exact hle
  · exfalso
    have hge : k = ls.length := by have : ¬ (k : Int) < ls.length := by simpa using hc
                                   omega
    obtain ⟨x, hx, hlt⟩ := hm
    obtain ⟨j, hj, rfl⟩ := List.getElem_of_mem hx
    have := hall j _ (by show j < k; omega) (List.getElem?_eq_getElem hj)
    omega

theorem paired_many (a b : Option Addr) (la ca lb cb : Nat) (h : 4096 < la ∨ 4096 < lb) (fid : FuncId) (w : World) :
    Calls Tryz.prog 9 #[.slice a la ca, .slice b lb cb, .func (.func fid) #[] #[]] w fun e w' => e = .returned (.tuple #[.slice none 0 0, .int .i64 4]) ∧ Below w.heap.size w w' := by
  refine fun_eq 0 w Tryz.func9 (args := [.val (.slice a la ca), .val (.slice b lb cb), .fn fid []]) rfl rfl ?_
  refine NewI.mk fun b1 hb1 => ?_
  refine NewI.mk fun b2 hb2 => ?_
  apply CallI.use1
  · exact fun w1 h1 => zchecked_many [⟨a, la, ca⟩, ⟨b, lb, cb⟩] (by rcases h with h | h; exact ⟨⟨a, la, ca⟩, by simp, h⟩; exact ⟨⟨b, lb, cb⟩, by simp, h⟩) _ _ w1 (Sl.own (l := [(⟨a, la, ca⟩ : Svl), ⟨b, lb, cb⟩]) h1 1 rfl rfl rfl (Nat.le_refl _) (by simp [maxLen]))
  intro w1 w2 h1 hB2
  refine Branch.yes rfl ?_
  exact EndI.mk fun w3 h3 => rfl
theorem zand_many (a b : Option Addr) (la ca lb cb : Nat) (h : 4096 < la ∨ 4096 < lb) (w : World) :
    Calls Tryz.prog 4 #[.slice a la ca, .slice b lb cb] w fun e w' => e = .returned (.tuple #[.slice none 0 0, .int .i64 4]) ∧ Below w.heap.size w w' := by
  refine fun_eq 0 w Tryz.func4 (args := [.val (.slice a la ca), .val (.slice b lb cb)]) rfl rfl ?_
  refine CallI.to1 (fun w => paired_many a b la ca lb cb h _ w) fun w1 => ?_
  exact EndI.mk fun w3 h3 => rfl
theorem zcomp_many (a b : Option Addr) (la ca lb cb : Nat) (h : 4096 < la ∨ 4096 < lb) (w : World) :
    Calls Tryz.prog 5 #[.slice a la ca, .slice b lb cb] w fun e w' => e = .returned (.tuple #[.slice none 0 0, .int .i64 4]) ∧ Below w.heap.size w w' := by
  refine fun_eq 0 w Tryz.func5 (args := [.val (.slice a la ca), .val (.slice b lb cb)]) rfl rfl ?_
  refine CallI.to1 (fun w => paired_many a b la ca lb cb h _ w) fun w1 => ?_
  exact EndI.mk fun w3 h3 => rfl
theorem zor_many (a b : Option Addr) (la ca lb cb : Nat) (h : 4096 < la ∨ 4096 < lb) (w : World) :
    Calls Tryz.prog 6 #[.slice a la ca, .slice b lb cb] w fun e w' => e = .returned (.tuple #[.slice none 0 0, .int .i64 4]) ∧ Below w.heap.size w w' := by
  refine fun_eq 0 w Tryz.func6 (args := [.val (.slice a la ca), .val (.slice b lb cb)]) rfl rfl ?_
  refine NewI.mk fun b1 hb1 => ?_
  apply CallI.use1
  · exact fun w1 h1 => zchecked_many [⟨a, la, ca⟩, ⟨b, lb, cb⟩] (by rcases h with h | h; exact ⟨⟨a, la, ca⟩, by simp, h⟩; exact ⟨⟨b, lb, cb⟩, by simp, h⟩) _ _ w1 (Sl.own (l := [(⟨a, la, ca⟩ : Svl), ⟨b, lb, cb⟩]) h1 0 rfl rfl rfl (Nat.le_refl _) (by simp [maxLen]))
  intro w1 w2 h1 hB2
  refine Branch.yes rfl ?_
  exact EndI.mk fun w3 h3 => rfl
theorem each_many (a : Option Addr) (la ca : Nat) (h : 4096 < la) (fid : FuncId) (caps : Array Value) (w : World) :
    Calls Tryz.prog 15 #[.slice a la ca, .func (.func fid) #[] caps] w fun e w' => e = .returned (.tuple #[.slice none 0 0, .int .i64 4]) ∧ Below w.heap.size w w' := by
  refine fun_eq 0 w Tryz.func15 (args := [.val (.slice a la ca), .val (.func (.func fid) #[] caps)]) rfl rfl ?_
  refine NewI.mk fun b1 hb1 => ?_
  apply CallI.use1
  · exact fun w1 h1 => zchecked_many [⟨a, la, ca⟩] ⟨⟨a, la, ca⟩, by simp, h⟩ _ _ w1 (Sl.own (l := [(⟨a, la, ca⟩ : Svl)]) h1 0 rfl rfl rfl (Nat.le_refl _) (by simp [maxLen]))
  intro w1 w2 h1 hB2
  refine Branch.yes rfl ?_
  exact EndI.mk fun w3 h3 => rfl
theorem zwithin_many (a : Option Addr) (la ca : Nat) (h : 4096 < la) (lo hi : Int) (sl sh op : Bool) (w : World) :
    Calls Tryz.prog 7 #[.slice a la ca, .agg #[.int .i64 lo, .bool sl, .int .i64 hi, .bool sh, .bool op]] w fun e w' => e = .returned (.tuple #[.slice none 0 0, .int .i64 4]) ∧ Below w.heap.size w w' := by
  refine fun_eq 0 w Tryz.func7 (args := [.val (.slice a la ca), .agg [.val (.int .i64 lo), .val (.bool sl), .val (.int .i64 hi), .val (.bool sh), .val (.bool op)]]) rfl rfl ?_
  refine NewI.mk fun b1 hb1 => ?_
  refine CallI.to1 (fun w => each_many a la ca h _ _ w) fun w1 => ?_
  exact EndI.mk fun w3 h3 => rfl
theorem zhas_many (a : Option Addr) (la ca : Nat) (h : 4096 < la) (x1 x2 x3 x4 : Int) (w : World) :
    Calls Tryz.prog 8 #[.slice a la ca, .agg #[.int .i64 x1, .int .i64 x2, .int .i64 x3, .int .i64 x4]] w fun e w' => e = .returned (.tuple #[.bool false, .int .i64 4]) ∧ Below w.heap.size w w' := by
  refine fun_eq 0 w Tryz.func8 (args := [.val (.slice a la ca), .agg [.val (.int .i64 x1), .val (.int .i64 x2), .val (.int .i64 x3), .val (.int .i64 x4)]]) rfl rfl ?_
  refine NewI.mk fun b1 hb1 => ?_
  refine NewI.mk fun b2 hb2 => ?_
  apply CallI.use1
  · exact fun w1 h1 => zchecked_many [⟨a, la, ca⟩] ⟨⟨a, la, ca⟩, by simp, h⟩ _ _ w1 (Sl.own (l := [(⟨a, la, ca⟩ : Svl)]) h1 1 rfl rfl rfl (Nat.le_refl _) (by simp [maxLen]))
  intro w1 w2 h1 hB2
  refine Branch.yes rfl ?_
  exact EndI.mk fun w3 h3 => rfl

theorem zsetLong_walk (m : Int) (hm : 0 ≤ m ∧ m ≤ 255) (w : World) :
    Calls Tryz.prog 3 #[.int .u8 m] w fun e w' => e = .returned (.bool true) ∧ Below w.heap.size w w' := by
  refine fun_eq 0 w Tryz.func3 (args := [.val (.int .u8 m)]) rfl rfl ?_
  refine Need.mk (by simp only [inK]; omega) ?_
  refine Need.mk (by simp only [inK]; omega) ?_
  obtain ⟨M, rfl⟩ : ∃ M : Nat, m = M := ⟨m.toNat, by omega⟩
  refine GenV.mks (α := Zn) elZ ⟨0, 0, 0, 0, 0, 0⟩ infoZ0 (4097 + M) (by simp) (by show (4097 + M) * 6 ≤ _; omega) (by omega) fun v w1 w2 h1 hB2 hO => ?_
  obtain ⟨av, cv, rfl⟩ := hO.form
  rw [List.length_replicate]
  have hbig : 4096 < 4097 + M := by omega
  refine CallI.to1 (fun w => zand_many _ _ _ _ _ _ (.inl hbig) w) fun w3 => ?_
  refine CallI.to1 (fun w => zcomp_many _ _ _ _ _ _ (.inr hbig) w) fun w4 => ?_
  refine CallI.to1 (fun w => zor_many _ _ _ _ _ _ (.inl hbig) w) fun w5 => ?_
  refine CallI.to1 (fun w => zwithin_many _ _ _ hbig _ _ _ _ _ w) fun w6 => ?_
  refine CallI.to1 (fun w => zhas_many _ _ _ hbig _ _ _ _ w) fun w7 => ?_
  refine Branch.yes (by decide) ?_
  refine Branch.yes (by decide) ?_
  refine Branch.yes (by decide) ?_
  refine Branch.yes (by decide) ?_
  exact EndI.mk fun w9 h9 => congrArg Value.bool (by decide)
end Go.Proofs.YtdecibfnhceloaaGreat
