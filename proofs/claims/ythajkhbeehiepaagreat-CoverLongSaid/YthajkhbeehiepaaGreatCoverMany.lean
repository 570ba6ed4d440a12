/-
  Lists of zones that are too long: cover.checked and what asks it, by the engine.
-/
import Derived.Test.YthajkhbeehiepaaGreatRow
namespace Go.Proofs.YthajkhbeehiepaaGreat
set_option linter.unusedVariables false
set_option linter.unusedSimpArgs false
set_option maxRecDepth 100000
open Go.RowKit Go.Proofs.YthajkhbeehiepaaGreat.Eng Enc

theorem checked_many (ls : List Svl) (hm : ∃ x ∈ ls, 4096 < x.len) (a : Option Addr) (cap : Nat) (w : World) (hS : Sl w.heap.size w (.slice a ls.length cap) ls) :
    Calls Tryz.prog 96 #[.slice a ls.length cap] w fun e w' => e = .returned (.int .i64 4) ∧ Below w.heap.size w w' := by
  refine fun_eq 0 w Tryz.func96 (args := [.val (.slice a ls.length cap)]) rfl rfl ?_
  refine LoopI.invC (α := Nat × World) (fun y => [(10, .val (.int .i64 y.1))]) (fun y => y.2) (fun y => y.1 ≤ ls.length ∧ Below w.heap.size w y.2 ∧ ∀ j x, j < y.1 → ls[j]? = some x → x.len ≤ 4096) (fun y => ls.length - y.1) ?_ ?_
  · intro w1 h1
    exact ⟨(0, w1), Cov.mk (by repeat' (first | exact trivial | refine And.intro rfl ?_)) rfl rfl rfl rfl rfl, rfl, Nat.zero_le _, h1.below, fun j x hj => by omega⟩
  rintro ⟨k, W⟩ ⟨hk, hW, hall⟩
  refine Branch.mk (fun hc => ?_) (fun hc => ?_)
  · have hlt : k < ls.length := by simpa using hc
    have hg := List.getElem?_eq_getElem (l := ls) (i := k) hlt
    have hSW := hS.go hW hW.size
    refine hSW.idx hg fun ad had => ?_
    refine hSW.ldv hg rfl had (Below.refl _ _) (by simp) ?_
    refine Branch.mk (fun hc2 => ?_) (fun hc2 => ?_)
    · exact EndI.mk fun w3 h3 => rfl
    · have hle : (ls[k]'hlt).len ≤ 4096 := by have : ¬ (4096 : Int) < (ls[k]'hlt).len := by simpa using hc2
                                              omega
      refine Need.mk (by have := hS.form; obtain ⟨_, _, e, h1, h2, _⟩ := this; simp only [maxLen] at h2; simp only [inK]; omega) (EndI.mk fun w7 h7 => ⟨(k + 1, w7), Cov.mk (by repeat' (first | exact trivial | refine And.intro rfl ?_)) rfl rfl rfl rfl rfl, rfl, ⟨hlt, h7.below, fun j x hj hx => ?_⟩, by simp only; omega⟩)
      rcases Nat.lt_succ_iff_lt_or_eq.1 hj with h | h
      · exact hall j x h hx
      · subst h; rw [hg] at hx; injection hx with hx; subst hx; exact hle
  · exfalso
    have hge : k = ls.length := by have : ¬ (k : Int) < ls.length := by simpa using hc
                                   omega
    obtain ⟨x, hx, hlt⟩ := hm
    obtain ⟨j, hj, rfl⟩ := List.getElem_of_mem hx
    have := hall j _ (by show j < k; omega) (List.getElem?_eq_getElem hj)
    omega
def Zn.val (z : Zn) : Value := .agg #[.int .i64 z.a, .int .i64 z.b, .int .i64 z.c, .int .i64 z.d, .int .i64 z.e, .int .i64 z.f]
theorem cin_many (z : Zn) (a : Option Addr) (len cap : Nat) (h : 4096 < len) (w : World) :
    Calls Tryz.prog 38 #[.agg #[.int .i64 z.a, .int .i64 z.b, .int .i64 z.c, .int .i64 z.d, .int .i64 z.e, .int .i64 z.f], .slice a len cap] w fun e w' => e = .returned (.tuple #[.bool false, .int .i64 4]) ∧ Below w.heap.size w w' := by
  refine fun_eq 0 w Tryz.func38 (args := [.agg [.val (.int .i64 z.a), .val (.int .i64 z.b), .val (.int .i64 z.c), .val (.int .i64 z.d), .val (.int .i64 z.e), .val (.int .i64 z.f)], .val (.slice a len cap)]) rfl rfl ?_
  refine NewI.mk fun b1 hb1 => ?_
  refine NewI.mk fun b2 hb2 => ?_
  refine NewI.mk fun b3 hb3 => ?_
  apply CallI.use1
  · exact fun w1 h1 => checked_many [⟨a, len, cap⟩, ⟨some ⟨b2, 0, none⟩, 1, 1⟩] ⟨⟨a, len, cap⟩, by simp, h⟩ _ _ w1 (Sl.own (l := [(⟨a, len, cap⟩ : Svl), ⟨some ⟨b2, 0, none⟩, 1, 1⟩]) h1 2 rfl rfl rfl (Nat.le_refl _) (by simp [maxLen]))
  intro w1 w2 h1 hB2
  refine Branch.yes rfl ?_
  exact EndI.mk fun w3 h3 => rfl
theorem call_many (a b : Option Addr) (la ca lb cb : Nat) (h : 4096 < la ∨ 4096 < lb) (w : World) :
    Calls Tryz.prog 39 #[.slice a la ca, .slice b lb cb] w fun e w' => e = .returned (.tuple #[.bool false, .int .i64 4]) ∧ Below w.heap.size w w' := by
  refine fun_eq 0 w Tryz.func39 (args := [.val (.slice a la ca), .val (.slice b lb cb)]) rfl rfl ?_
  refine NewI.mk fun b1 hb1 => ?_
  refine NewI.mk fun b2 hb2 => ?_
  apply CallI.use1
  · exact fun w1 h1 => checked_many [⟨a, la, ca⟩, ⟨b, lb, cb⟩] (by rcases h with h | h; exact ⟨⟨a, la, ca⟩, by simp, h⟩; exact ⟨⟨b, lb, cb⟩, by simp, h⟩) _ _ w1 (Sl.own (l := [(⟨a, la, ca⟩ : Svl), ⟨b, lb, cb⟩]) h1 1 rfl rfl rfl (Nat.le_refl _) (by simp [maxLen]))
  intro w1 w2 h1 hB2
  refine Branch.yes rfl ?_
  exact EndI.mk fun w3 h3 => rfl
theorem cprune_many (a : Option Addr) (len cap : Nat) (h : 4096 < len) (w : World) :
    Calls Tryz.prog 35 #[.slice a len cap] w fun e w' => e = .returned (.tuple #[.slice none 0 0, .int .i64 4]) ∧ Below w.heap.size w w' := by
  refine fun_eq 0 w Tryz.func35 (args := [.val (.slice a len cap)]) rfl rfl ?_
  refine NewI.mk fun b1 hb1 => ?_
  apply CallI.use1
  · exact fun w1 h1 => checked_many [⟨a, len, cap⟩] ⟨⟨a, len, cap⟩, by simp, h⟩ _ _ w1 (Sl.own (l := [(⟨a, len, cap⟩ : Svl)]) h1 0 rfl rfl rfl (Nat.le_refl _) (by simp [maxLen]))
  intro w1 w2 h1 hB2
  refine Branch.yes rfl ?_
  exact EndI.mk fun w3 h3 => rfl
theorem cwitness_many (z : Zn) (a : Option Addr) (len cap : Nat) (h : 4096 < len) (w : World) :
    Calls Tryz.prog 49 #[.agg #[.int .i64 z.a, .int .i64 z.b, .int .i64 z.c, .int .i64 z.d, .int .i64 z.e, .int .i64 z.f], .slice a len cap] w fun e w' => e = .returned (.tuple #[.agg #[.int .i64 0, .int .i64 0, .int .i64 0, .int .i64 0], .int .i64 4]) ∧ Below w.heap.size w w' := by
  refine fun_eq 0 w Tryz.func49 (args := [.agg [.val (.int .i64 z.a), .val (.int .i64 z.b), .val (.int .i64 z.c), .val (.int .i64 z.d), .val (.int .i64 z.e), .val (.int .i64 z.f)], .val (.slice a len cap)]) rfl rfl ?_
  refine NewI.mk fun b1 hb1 => ?_
  refine NewI.mk fun b4 hb4 => ?_
  refine NewI.mk fun b2 hb2 => ?_
  refine NewI.mk fun b3 hb3 => ?_
  apply CallI.use1
  · exact fun w1 h1 => checked_many [⟨a, len, cap⟩, ⟨some ⟨b2, 0, none⟩, 1, 1⟩] ⟨⟨a, len, cap⟩, by simp, h⟩ _ _ w1 (Sl.own (l := [(⟨a, len, cap⟩ : Svl), ⟨some ⟨b2, 0, none⟩, 1, 1⟩]) h1 3 rfl rfl rfl (Nat.le_refl _) (by simp [maxLen]))
  intro w1 w2 h1 hB2
  refine Branch.yes rfl ?_
  exact EndI.mk fun w3 h3 => rfl
end Go.Proofs.YthajkhbeehiepaaGreat
