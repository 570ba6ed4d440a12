/-
  The contract of dbm.pairs: all pairs of clocks, row by row.
-/
import Derived.Test.YtdecibfnhceloaaGreatKit
import Derived.RangeFuncNested
import Derived.RangeFuncBound
import Derived.RangeFuncCalls
import Derived.RangeFuncLeaves
import Derived.RangeFuncWrites
import Derived.RangeFuncBox
import Derived.Shelf.Abstract
import Derived.Shelf.RegionOpen
import Derived.OwnWalkIn
import Derived.TacticsInMore
import Derived.LoopNIn
import Derived.LoopIn
import Derived.IntWalk
namespace Go.Proofs.YtdecibfnhceloaaGreat
set_option linter.unusedVariables false
open Go.RowKit Go.Shelf
attribute [local go_sem] Oper.semAt_some

/-- pairs(n): n is boxed; the closure captures the box. -/
theorem pairs_any (n : Int) (w : World) :
    CallsIn Fence.wide 8 Tryz.prog 37 #[.int .i64 n] w fun e w' => e = .returned (.func (.func 60) #[] #[.pointer (some ⟨w.heap.size, 0, none⟩)]) ∧ w' = w.alloc (.cells #[.int .i64 n] 3) := by
  refine callsIn_of_wp Tryz.func37 rfl trivial ?_ rfl
  simp only [Tryz.ntmps37, List.size_toArray, List.length_cons, List.length_nil, Nat.reduceAdd, Nat.reduceSub, Array.replicate_succ, Array.replicate_zero, List.push_toArray, List.append_toArray, List.nil_append, List.cons_append]
  gi_wp2
  go_ret
  exact ⟨rfl, rfl⟩

abbrev encPr (n : Int) (k : Nat) : Array Value := #[.int .i64 ((k : Int) / n), .int .i64 ((k : Int) % n)]
/-- what a round keeps for the iterator: its box. -/
def KeepsBox (Bs : Nat) (W W' : World) : Prop := W'.cell? ⟨Bs, 0, none⟩ = W.cell? ⟨Bs, 0, none⟩

theorem one_bool {e : Ending} {p q : Prop} (h : (e = .returned (.bool true) ∧ p) ∨ (e = .returned (.bool false) ∧ q)) : ∃ b, e = .returned (.bool b) ∧ ((b = true ∧ p) ∨ (b = false ∧ q)) := by
  rcases h with ⟨rfl, h⟩ | ⟨rfl, h⟩
  · exact ⟨true, rfl, .inl ⟨rfl, h⟩⟩
  · exact ⟨false, rfl, .inr ⟨rfl, h⟩⟩

set_option maxRecDepth 100000 in
set_option maxHeartbeats 2000000 in
theorem pairs1_in (n : Int) (hn1 : 1 ≤ n) (hn4 : n ≤ 4) (l Bs : Nat) (J Jx : List Nat → World → Prop)
    (hY : ∀ pre x W, J pre W → pre.length < (n * n).toNat → x < (n * n).toNat → YieldAt Fence.wide 7 Tryz.prog l (encPr n x) W fun e W' =>
      (e = .returned (.bool true) ∧ J (pre ++ [x]) W' ∧ KeepsBox Bs W W') ∨ (e = .returned (.bool false) ∧ Jx (pre ++ [x]) W'))
    (hJd : ∀ pre W, J pre W → J pre W.drew)
    (W : World) (hBs : W.cell? ⟨Bs, 0, none⟩ = some (.int .i64 n)) (h0 : J [] W) :
    CallsIn Fence.wide 8 Tryz.prog 60 #[.func (.yield l) #[] #[], .pointer (some ⟨Bs, 0, none⟩)] W fun e W' => (∃ v, e = .returned v) ∧
      ((∃ ys, ys = List.range (n * n).toNat ∧ J ys W') ∨ (∃ pre, (∃ k, k ≤ (n * n).toNat ∧ pre = List.range k) ∧ Jx pre W')) := by
  rcases (by omega : n = 1 ∨ n = 2 ∨ n = 3 ∨ n = 4) with rfl | rfl | rfl | rfl
  · refine callsIn_of_wp Tryz.func60 rfl trivial ?_ rfl
    simp only [Tryz.ntmps60, List.size_toArray, List.length_cons, List.length_nil, Nat.reduceAdd, Nat.reduceSub, Array.replicate_succ, Array.replicate_zero, List.push_toArray, List.append_toArray, List.nil_append, List.cons_append]
    simp only [Int.reduceMul, Int.reduceToNat] at hY ⊢
    gi_wp2
    gi_loopw [7] (fun i wr => ∃ k : Nat, k ≤ 1 ∧ i = .int .i64 k ∧ J (List.range k) wr ∧ wr.cell? ⟨Bs, 0, none⟩ = some (.int .i64 1)) (fun i _ => 1 - (intOf i).toNat)
    case atStart => exact ⟨0, Nat.zero_le _, rfl, h0, hBs⟩
    case round =>
      obtain ⟨k, hk, rfl, hJs, hc⟩ := hrel
      have hmix : Tryz.prog.follows .mixedOrders = true := by kernel_rfl
      by_cases hlt : k < 1
      · obtain ⟨fn, tmps, assign, body, hy, hR⟩ := hY _ k wr.drew (hJd _ _ hJs) (by simpa using hlt) hlt
        simp only [encPr, Int.ediv_one, Int.emod_one] at hy
        gi_wp2
        have hw : IntKind.i64.wrap (k : Int) = k := IntWalk.i64_in _ (by omega)
        gi_region_with_o (refine hR.mono ?_; intro e W3 h3; obtain ⟨bb, rfl, hbb⟩ := one_bool h3)
        all_goals clear hw
        all_goals rcases hbb with ⟨rfl, hJ3, hk3⟩ | ⟨rfl, hJx3⟩
        all_goals gi_wp2
        all_goals first
          | (go_roundw
             case rel => exact ⟨k + 1, by omega, by go_num, by rw [List.range_succ]; exact hJ3, hk3.trans hc⟩
             case measure => simp [intOf]; omega)
          | (refine bodyPost_ret (results_none rfl _ _ _) rfl ?_
             exact ⟨⟨_, rfl⟩, .inr ⟨_, ⟨k + 1, by omega, (List.range_succ).symm⟩, hJx3⟩⟩)
      · obtain rfl : k = 1 := by omega
        gi_wp2
        go_end0
        exact ⟨⟨_, rfl⟩, .inl ⟨_, rfl, hJs⟩⟩
  · refine callsIn_of_wp Tryz.func60 rfl trivial ?_ rfl
    simp only [Tryz.ntmps60, List.size_toArray, List.length_cons, List.length_nil, Nat.reduceAdd, Nat.reduceSub, Array.replicate_succ, Array.replicate_zero, List.push_toArray, List.append_toArray, List.nil_append, List.cons_append]
    simp only [Int.reduceMul, Int.reduceToNat] at hY ⊢
    gi_wp2
    gi_loopw [7] (fun i wr => ∃ k : Nat, k ≤ 4 ∧ i = .int .i64 k ∧ J (List.range k) wr ∧ wr.cell? ⟨Bs, 0, none⟩ = some (.int .i64 2)) (fun i _ => 4 - (intOf i).toNat)
    case atStart => exact ⟨0, Nat.zero_le _, rfl, h0, hBs⟩
    case round =>
      obtain ⟨k, hk, rfl, hJs, hc⟩ := hrel
      have hmix : Tryz.prog.follows .mixedOrders = true := by kernel_rfl
      by_cases hlt : k < 4
      · obtain ⟨fn, tmps, assign, body, hy, hR⟩ := hY _ k wr.drew (hJd _ _ hJs) (by simpa using hlt) hlt
        dsimp only [encPr] at hy
        gi_wp2
        have hq : (k : Int).tdiv 2 = (k : Int) / 2 := Int.tdiv_eq_ediv_of_nonneg (by omega)
        have hm : (k : Int).tmod 2 = (k : Int) % 2 := Int.tmod_eq_emod_of_nonneg (by omega)
        have hw : IntKind.i64.wrap ((k : Int) / 2) = (k : Int) / 2 := IntWalk.i64_in _ (by omega)
        gi_region_with_o (refine hR.mono ?_; intro e W3 h3; obtain ⟨bb, rfl, hbb⟩ := one_bool h3)
        all_goals clear hw hq hm
        all_goals rcases hbb with ⟨rfl, hJ3, hk3⟩ | ⟨rfl, hJx3⟩
        all_goals gi_wp2
        all_goals first
          | (go_roundw
             case rel => exact ⟨k + 1, by omega, by go_num, by rw [List.range_succ]; exact hJ3, hk3.trans hc⟩
             case measure => simp [intOf]; omega)
          | (refine bodyPost_ret (results_none rfl _ _ _) rfl ?_
             exact ⟨⟨_, rfl⟩, .inr ⟨_, ⟨k + 1, by omega, (List.range_succ).symm⟩, hJx3⟩⟩)
      · obtain rfl : k = 4 := by omega
        gi_wp2
        go_end0
        exact ⟨⟨_, rfl⟩, .inl ⟨_, rfl, hJs⟩⟩
  · refine callsIn_of_wp Tryz.func60 rfl trivial ?_ rfl
    simp only [Tryz.ntmps60, List.size_toArray, List.length_cons, List.length_nil, Nat.reduceAdd, Nat.reduceSub, Array.replicate_succ, Array.replicate_zero, List.push_toArray, List.append_toArray, List.nil_append, List.cons_append]
    simp only [Int.reduceMul, Int.reduceToNat] at hY ⊢
    gi_wp2
    gi_loopw [7] (fun i wr => ∃ k : Nat, k ≤ 9 ∧ i = .int .i64 k ∧ J (List.range k) wr ∧ wr.cell? ⟨Bs, 0, none⟩ = some (.int .i64 3)) (fun i _ => 9 - (intOf i).toNat)
    case atStart => exact ⟨0, Nat.zero_le _, rfl, h0, hBs⟩
    case round =>
      obtain ⟨k, hk, rfl, hJs, hc⟩ := hrel
      have hmix : Tryz.prog.follows .mixedOrders = true := by kernel_rfl
      by_cases hlt : k < 9
      · obtain ⟨fn, tmps, assign, body, hy, hR⟩ := hY _ k wr.drew (hJd _ _ hJs) (by simpa using hlt) hlt
        dsimp only [encPr] at hy
        gi_wp2
        have hq : (k : Int).tdiv 3 = (k : Int) / 3 := Int.tdiv_eq_ediv_of_nonneg (by omega)
        have hm : (k : Int).tmod 3 = (k : Int) % 3 := Int.tmod_eq_emod_of_nonneg (by omega)
        have hw : IntKind.i64.wrap ((k : Int) / 3) = (k : Int) / 3 := IntWalk.i64_in _ (by omega)
        gi_region_with_o (refine hR.mono ?_; intro e W3 h3; obtain ⟨bb, rfl, hbb⟩ := one_bool h3)
        all_goals clear hw hq hm
        all_goals rcases hbb with ⟨rfl, hJ3, hk3⟩ | ⟨rfl, hJx3⟩
        all_goals gi_wp2
        all_goals first
          | (go_roundw
             case rel => exact ⟨k + 1, by omega, by go_num, by rw [List.range_succ]; exact hJ3, hk3.trans hc⟩
             case measure => simp [intOf]; omega)
          | (refine bodyPost_ret (results_none rfl _ _ _) rfl ?_
             exact ⟨⟨_, rfl⟩, .inr ⟨_, ⟨k + 1, by omega, (List.range_succ).symm⟩, hJx3⟩⟩)
      · obtain rfl : k = 9 := by omega
        gi_wp2
        go_end0
        exact ⟨⟨_, rfl⟩, .inl ⟨_, rfl, hJs⟩⟩
  · refine callsIn_of_wp Tryz.func60 rfl trivial ?_ rfl
    simp only [Tryz.ntmps60, List.size_toArray, List.length_cons, List.length_nil, Nat.reduceAdd, Nat.reduceSub, Array.replicate_succ, Array.replicate_zero, List.push_toArray, List.append_toArray, List.nil_append, List.cons_append]
    simp only [Int.reduceMul, Int.reduceToNat] at hY ⊢
    gi_wp2
    gi_loopw [7] (fun i wr => ∃ k : Nat, k ≤ 16 ∧ i = .int .i64 k ∧ J (List.range k) wr ∧ wr.cell? ⟨Bs, 0, none⟩ = some (.int .i64 4)) (fun i _ => 16 - (intOf i).toNat)
    case atStart => exact ⟨0, Nat.zero_le _, rfl, h0, hBs⟩
    case round =>
      obtain ⟨k, hk, rfl, hJs, hc⟩ := hrel
      have hmix : Tryz.prog.follows .mixedOrders = true := by kernel_rfl
      by_cases hlt : k < 16
      · obtain ⟨fn, tmps, assign, body, hy, hR⟩ := hY _ k wr.drew (hJd _ _ hJs) (by simpa using hlt) hlt
        dsimp only [encPr] at hy
        gi_wp2
        have hq : (k : Int).tdiv 4 = (k : Int) / 4 := Int.tdiv_eq_ediv_of_nonneg (by omega)
        have hm : (k : Int).tmod 4 = (k : Int) % 4 := Int.tmod_eq_emod_of_nonneg (by omega)
        have hw : IntKind.i64.wrap ((k : Int) / 4) = (k : Int) / 4 := IntWalk.i64_in _ (by omega)
        gi_region_with_o (refine hR.mono ?_; intro e W3 h3; obtain ⟨bb, rfl, hbb⟩ := one_bool h3)
        all_goals clear hw hq hm
        all_goals rcases hbb with ⟨rfl, hJ3, hk3⟩ | ⟨rfl, hJx3⟩
        all_goals gi_wp2
        all_goals first
          | (go_roundw
             case rel => exact ⟨k + 1, by omega, by go_num, by rw [List.range_succ]; exact hJ3, hk3.trans hc⟩
             case measure => simp [intOf]; omega)
          | (refine bodyPost_ret (results_none rfl _ _ _) rfl ?_
             exact ⟨⟨_, rfl⟩, .inr ⟨_, ⟨k + 1, by omega, (List.range_succ).symm⟩, hJx3⟩⟩)
      · obtain rfl : k = 16 := by omega
        gi_wp2
        go_end0
        exact ⟨⟨_, rfl⟩, .inl ⟨_, rfl, hJs⟩⟩

/-- a pair's number: below so many. -/
abbrev PIdx (N : Nat) := { k : Nat // k < N }
abbrev encPI (n : Int) {N : Nat} (k : PIdx N) : Array Value := encPr n k.1

theorem pairs_stops (n : Int) (hn1 : 1 ≤ n) (hn4 : n ≤ 4) (N : Nat) (hN : N = (n * n).toNat) (Bs : Nat) (w : World) (hBs : Bs < w.heap.size) (hc : w.cell? ⟨Bs, 0, none⟩ = some (.int .i64 n)) :
    SeqStopsK Fence.wide 8 Tryz.prog 60 #[.pointer (some ⟨Bs, 0, none⟩)] (encPI n (N := N)) (KeepsBox Bs) (fun ys => ys.map (·.1) = List.range N) (fun pre => ∃ k, k ≤ N ∧ pre.map (·.1) = List.range k) N w := fun l J Jx W hW hJ _ hY h0 => by
  subst hN
  have hc' := (hW.cell (p := ⟨Bs, 0, none⟩) hBs).trans hc
  -- the numbers' own list, of those below so many
  refine (pairs1_in n hn1 hn4 l Bs (fun pre W => ∃ pre' : List (PIdx (n * n).toNat), pre'.map (·.1) = pre ∧ J pre' W) (fun pre W => ∃ pre' : List (PIdx (n * n).toNat), pre'.map (·.1) = pre ∧ Jx pre' W)
    ?_ ?_ W hc' ⟨[], rfl, h0⟩).mono ?_
  · rintro pre x W1 ⟨pre', h1, h2⟩ hlen hx
    have hl : pre'.length < (n * n).toNat := by rw [← h1] at hlen; simpa using hlen
    obtain ⟨fn, tmps, assign, body, hy, hR⟩ := hY pre' ⟨x, hx⟩ W1 h2 hl
    refine ⟨fn, tmps, assign, body, hy, hR.mono ?_⟩
    rintro e W' (⟨rfl, h3, h4⟩ | ⟨rfl, h3⟩)
    · exact .inl ⟨rfl, ⟨_, by simp [h1], h3⟩, h4⟩
    · exact .inr ⟨rfl, _, by simp [h1], h3⟩
  · rintro pre W1 ⟨pre', h1, h2⟩
    exact ⟨pre', h1, hJ pre' W1 W1.drew none h2 ⟨rfl, rfl, rfl, Nat.le_refl _, fun _ _ _ => rfl⟩ (fun r e => by cases e)⟩
  · rintro e W1 ⟨he, ⟨ys, rfl, pre', h1, h2⟩ | ⟨pre, ⟨k, hk, rfl⟩, pre', h1, h3⟩⟩
    · exact ⟨he, .inl ⟨pre', h1, h2⟩⟩
    · exact ⟨he, .inr ⟨pre', ⟨k, hk, h1⟩, h3⟩⟩

end Go.Proofs.YtdecibfnhceloaaGreat
