/-
  The contracts of package rat that ask whether fractions may be, by the engine.
-/
import Derived.Test.YtdecibfnhceloaaGreatBound
import Derived.Test.YtdecibfnhceloaaGreatPlainRat
import Derived.Test.YtdecibfnhceloaaGreatSl
namespace Go.Proofs.YtdecibfnhceloaaGreat
set_option linter.unusedVariables false
set_option linter.unusedSimpArgs false
set_option maxRecDepth 100000
open Go.RowKit Go.Proofs.YtdecibfnhceloaaGreat.Eng Enc

theorem gcd_any (a b : Nat) (ha : a < 18446744073709551616) (hb : b < 18446744073709551616) (w : World) :
    Calls Tryz.prog 68 #[.int .u64 a, .int .u64 b] w fun e w' => e = .returned (.int .u64 (Nat.gcd a b)) ∧ Below w.heap.size w w' := by
  refine fun_eq 0 w Tryz.func68 (args := [.val (.int .u64 a), .val (.int .u64 b)]) rfl rfl ?_
  refine LoopI.invC (α := (Nat × Nat) × World) (fun y => [(0, .val (.int .u64 y.1.1)), (1, .val (.int .u64 y.1.2))]) (fun y => y.2) (fun y => y.1.1 < 18446744073709551616 ∧ y.1.2 < 18446744073709551616 ∧ Nat.gcd y.1.1 y.1.2 = Nat.gcd a b) (fun y => y.1.2) ?_ ?_
  · intro w1 h1
    exact ⟨((a, b), w1), Cov.mk (by repeat' (first | exact trivial | refine And.intro rfl ?_)) rfl rfl rfl rfl rfl, rfl, ha, hb, rfl⟩
  rintro ⟨⟨x, y⟩, W⟩ ⟨hx, hy, hg⟩
  refine Branch.mk (fun hc => ?_) (fun hc => ?_)
  · have hy0 : 0 < y := by simpa using hc
    have em : ((x : Int)).tmod y = ((x % y : Nat) : Int) := rfl
    have hm : x % y < y := Nat.mod_lt _ hy0
    refine DrawI.go (.tk 0 (.tk 1 (.tk 2 (.tk 3 (.tk 4 (.tk 5 .done)))))) (by kernel_rfl) fun w1 h1 => ?_
    refine Need.mk ?_ ?_
    · show (y : Int) ≠ 0
      omega
    refine EndI.mk fun w2 h2 => ⟨((y, x % y), w2), Cov.mk (by repeat' (first | exact trivial | refine And.intro rfl ?_)) rfl rfl rfl rfl rfl, rfl, ⟨hy, ?_, ?_⟩, hm⟩
    · exact Nat.lt_trans hm hy
    · refine Eq.trans ?_ hg
      show Nat.gcd y (x % y) = Nat.gcd x y
      rw [Nat.gcd_comm x y, Nat.gcd_comm y (x % y)]; exact (Nat.gcd_rec y x).symm
  · refine EndI.mk fun w1 h1 => ?_
    have hy0 : y = 0 := by simpa using hc
    subst hy0
    rw [← hg]
    simp

theorem size_any (n : Int) (hn : inK .i64 n) (w : World) :
    Calls Tryz.prog 69 #[.int .i64 n] w fun e w' => e = .returned (.int .u64 (n.natAbs : Nat)) ∧ Below w.heap.size w w' := by
  refine fun_eq 0 w Tryz.func69 (args := [.val (.int .i64 n)]) rfl rfl ?_
  simp only [inK] at hn
  repeat' (first
    | (refine Branch.yes rfl ?_)
    | (refine Branch.no rfl ?_)
    | (refine Branch.mk (fun hb => ?_) (fun hb => ?_))
    | (refine NewI.mk fun nb hnb => ?_)
    | (refine Need.mk (by show _ ∧ _; omega) ?_)
    | (refine Need.mk (by omega) ?_)
    | (refine Need.mk ?_ ?_)
    | (refine EndI.mk fun w1 h1 => ?_))
  all_goals
    congr 1
    simp only [decide_eq_true_eq, decide_eq_false_iff_not] at hb
    omega

theorem Fr.ediv_in {n d : Int} (hd : 1 ≤ d) (hn : inK .i64 n) : inK .i64 (n / d) := by
  simp only [inK] at hn ⊢
  have e := Int.emod_add_mul_ediv n d
  have h3 := Int.emod_nonneg n (by omega : d ≠ 0)
  have h4 := Int.emod_lt_of_pos n (by omega : 0 < d)
  constructor
  · have : (-9223372036854775808) / d ≤ n / d := Int.ediv_le_ediv (by omega) hn.1
    have h5 : (-9223372036854775808) * 1 ≤ (-9223372036854775808) / d := by
      rw [Int.le_ediv_iff_mul_le (by omega)]
      have : 1 ≤ d := hd
      omega
    omega
  · have : n / d ≤ 9223372036854775807 / d := Int.ediv_le_ediv (by omega) hn.2
    have h5 : 9223372036854775807 / d ≤ 9223372036854775807 := Int.ediv_le_self _ (by omega)
    omega
theorem floor_any (n d : Int) (hd : 1 ≤ d) (hn : inK .i64 n) (hd2 : inK .i64 d) (w : World) :
    Calls Tryz.prog 85 #[.int .i64 n, .int .i64 d] w fun e w' => e = .returned (.tuple #[.int .i64 (n / d), .int .i64 (n % d)]) ∧ Below w.heap.size w w' := by
  refine fun_eq 0 w Tryz.func85 (args := [.val (.int .i64 n), .val (.int .i64 d)]) rfl rfl ?_
  obtain ⟨k1, k2⟩ := Fr.floor_eq (n := n) hd
  have k3 : inK .i64 (n.tdiv d) ∧ (n.tmod d < 0 → inK .i64 (n.tdiv d - 1)) := by
    have hq := Fr.ediv_in hd hn
    refine ⟨?_, fun h => by rw [(k1 h).1]; exact hq⟩
    by_cases h : n.tmod d < 0
    · have e := (k1 h).1
      have h0 : n < 0 := by
        rcases Int.lt_or_le n 0 with h | h'
        · exact h
        · have := Int.tmod_nonneg d h'; omega
      have : n / d < 0 := Int.ediv_neg_of_neg_of_pos h0 (by omega)
      simp only [inK] at hq ⊢; omega
    · rw [(k2 h).1]; exact hq
  have k4 := Int.emod_nonneg n (by omega : d ≠ 0)
  have k5 := Int.emod_lt_of_pos n (by omega : 0 < d)
  refine DrawI.go (.tk 0 (.tk 1 (.tk 2 (.tk 3 (.tk 4 (.tk 5 (.tk 6 (.tk 7 .done)))))))) (by kernel_rfl) fun w1 h1 => ?_
  refine Need.mk ⟨by omega, k3.1⟩ ?_
  refine Need.mk (by omega) ?_
  refine Branch.mk (fun hb => ?_) (fun hb => ?_)
  · obtain ⟨e1, e2⟩ := k1 (by simpa using hb)
    refine Need.mk (k3.2 (by simpa using hb)) ?_
    refine Need.mk ?_ ?_
    · simp only [inK] at hd2 ⊢; omega
    exact EndI.mk fun w1 h1 => by rw [e1, e2]
  · obtain ⟨e1, e2⟩ := k2 (by simpa using hb)
    exact EndI.mk fun w1 h1 => by rw [e1, e2]

theorem within_any (n d : Int) (hd : 1 ≤ d) (hn : inK .i64 n) (hd2 : inK .i64 d) (w : World) :
    Calls Tryz.prog 67 #[.agg #[.int .i64 n, .int .i64 d]] w fun e w' => e = .returned (.bool (Fr.inB n d)) ∧ Below w.heap.size w w' := by
  refine fun_eq 0 w Tryz.func67 (args := [.agg [.val (.int .i64 n), .val (.int .i64 d)]]) rfl rfl ?_
  repeat' (first
    | (refine CallI.to1 (floor_any n d hd hn hd2) fun w2 => ?_)
    | (refine Branch.yes rfl ?_)
    | (refine Branch.no rfl ?_)
    | (refine Branch.mk (fun hb => ?_) (fun hb => ?_))
    | (refine NewI.mk fun nb hnb => ?_)
    | (refine Need.mk (by show _ ∧ _; omega) ?_)
    | (refine Need.mk (by omega) ?_)
    | (refine Need.mk ?_ ?_)
    | (refine EndI.mk fun w1 h1 => ?_))
  all_goals
    congr 1
    simp only [decide_eq_true_eq, decide_eq_false_iff_not] at *
    simp only [Fr.inB]
    grind

theorem rcheck_any (n d : Int) (hn : inK .i64 n) (hd : inK .i64 d) (w : World) :
    Calls Tryz.prog 40 #[.agg #[.int .i64 n, .int .i64 d]] w fun e w' => e = .returned (.int .i64 (Fr.chk n d)) ∧ Below w.heap.size w w' := by
  refine fun_eq 0 w Tryz.func40 (args := [.agg [.val (.int .i64 n), .val (.int .i64 d)]]) rfl rfl ?_
  refine NewI.mk fun b1 hb1 => ?_
  refine DrawI.go (.tk 0 (.tk 1 (.tk 2 (.tk 3 (.tk 4 (.tk 5 (.tk 6 (.tk 7 (.tk 8 (.tk 9 (.ev 10 (.tk 11 (.tk 12 (.tk 13 (.tk 14 (.tk 15 (.tk 17 (.tk 18 (.tk 19 (.ev 16 (.ev 20 (.tk 21 (.tk 22 .done))))))))))))))))))))))) (by kernel_rfl) fun w1 h1 => ?_
  refine Branch.mk (fun hb => ?_) (fun hb => ?_)
  · refine EndI.mk fun w2 h2 => ?_
    congr 1; simp only [decide_eq_true_eq] at hb; rw [Fr.chk_no]; simp [Fr.okB]; omega
  have hd1 : 1 ≤ d := by simp only [decide_eq_false_iff_not] at hb; omega
  refine Branch.mk (fun hb2 => ?_) (fun hb2 => ?_)
  · refine EndI.mk fun w2 h2 => ?_
    congr 1; simp only [decide_eq_true_eq] at hb2; rw [Fr.chk_no]; simp [Fr.okB]; omega
  have hd2 : d ≤ 1048576 := by simp only [decide_eq_false_iff_not] at hb2; omega
  apply CallI.use1
  · exact fun w2 h2 => within_any n d hd1 hn hd w2
  intro w2 w3 h2 hB3
  have key : ∀ w4, Calls Tryz.prog 68 #[.int .u64 (n.natAbs : Nat), .int .u64 (d % 18446744073709551616)] w4 fun e w' => e = .returned (.int .u64 (Nat.gcd n.natAbs d.natAbs)) ∧ Below w4.heap.size w4 w' := fun w4 => by
    have h := gcd_any n.natAbs d.natAbs (by simp only [inK] at hn; omega) (by omega) w4
    rwa [show ((d.natAbs : Nat) : Int) = d % 18446744073709551616 by omega] at h
  refine Branch.mk (fun hb3 => ?_) (fun hb3 => ?_)
  · refine EndI.mk fun w4 h4 => ?_
    congr 1; rw [Fr.chk_no]; simp [Fr.okB]; simp at hb3; simp [hb3]
  have hi : Fr.inB n d = true := by simpa using hb3
  apply CallI.use1
  · exact fun w4 h4 => size_any n hn w4
  intro w4 w5 h4 hB5
  apply CallI.use1
  · exact fun w6 h6 => key w6
  intro w6 w7 h6 hB7
  refine Branch.mk (fun hb4 => ?_) (fun hb4 => ?_)
  · refine EndI.mk fun w8 h8 => ?_
    congr 1; rw [Fr.chk_no]; simp [Fr.okB]
    simp at hb4; intros; omega
  · refine EndI.mk fun w8 h8 => ?_
    congr 1; rw [Fr.chk_yes]; simp [Fr.okB, hi]
    simp at hb4; refine ⟨by omega, by omega⟩

/-- the numbers of a fraction are ints. -/
def Rt.ins (x : Rt) : Prop := inK .i64 x.num ∧ inK .i64 x.den
def Rt.ok (x : Rt) : Bool := Fr.okB x.num x.den

theorem rchecked_any (l : List Rt) (hl : ∀ x ∈ l, x.ins) (a : Option Addr) (cap : Nat) (w : World) (hS : Sl w.heap.size w (.slice a l.length cap) l) :
    Calls Tryz.prog 87 #[.slice a l.length cap] w fun e w' => e = .returned (.int .i64 (if l.all Rt.ok then 0 else 8)) ∧ Below w.heap.size w w' := by
  refine fun_eq 0 w Tryz.func87 (args := [.val (.slice a l.length cap)]) rfl rfl ?_
  refine LoopI.invC (α := Nat × World) (fun y => [(8, .val (.int .i64 y.1))]) (fun y => y.2) (fun y => y.1 ≤ l.length ∧ Below w.heap.size w y.2 ∧ (l.take y.1).all Rt.ok = true) (fun y => l.length - y.1) ?_ ?_
  · intro w1 h1
    exact ⟨(0, w1), Cov.mk (by repeat' (first | exact trivial | refine And.intro rfl ?_)) rfl rfl rfl rfl rfl, rfl, Nat.zero_le _, h1.below, by simp⟩
  rintro ⟨i, W⟩ ⟨hi, hW, hok⟩
  refine Branch.mk (fun hc => ?_) (fun hc => ?_)
  · have hlt : i < l.length := by simpa using hc
    have hx := List.getElem?_eq_getElem hlt
    generalize l[i] = x at hx
    have hxi := hl x (List.mem_of_getElem? hx)
    refine hS.idx hx fun ad had => ?_
    refine hS.ld hx had hW (by simp) ?_
    refine NewI.mk fun b1 hb1 => ?_
    apply CallI.use1
    · exact fun w2 h2 => rcheck_any x.num x.den hxi.1 hxi.2 w2
    intro w2 w3 h2 hB3
    refine Branch.mk (fun hc2 => ?_) (fun hc2 => ?_)
    · have hx0 : Rt.ok x = false := by
        cases h : Rt.ok x
        · rfl
        · exact absurd (Fr.chk_yes h) (by simpa using hc2)
      refine EndI.mk fun w4 h4 => ?_
      rw [Fr.chk_no hx0, if_neg]
      rw [List.all_eq_true]
      intro h
      rw [h x (List.mem_of_getElem? hx)] at hx0
      cases hx0
    · have hx1 : Rt.ok x = true := Fr.chk_eq.1 (by simpa using hc2)
      obtain ⟨_, _, e0, h1, h2, _⟩ := hS.form
      unfold maxLen at h2
      injection e0 with _ _ e0
      refine Need.mk (by show _ ∧ _; omega) (EndI.mk fun w4 h4 => ⟨(i + 1, w4), Cov.mk (by repeat' (first | exact trivial | refine And.intro rfl ?_)) rfl rfl rfl rfl rfl, rfl, ⟨hlt, h4.below, ?_⟩, by simp only; omega⟩)
      have e : l.take (i + 1) = l.take i ++ [x] := by rw [List.take_add_one, hx]; rfl
      show (l.take (i + 1)).all Rt.ok = true
      rw [e, List.all_append, hok]
      simp [hx1]
  · have hge : i = l.length := by have : ¬ i < l.length := by simpa using hc
                                  omega
    refine EndI.mk fun w4 h4 => ?_
    rw [hge, List.take_length] at hok
    rw [if_pos hok]

def cmpI (a b : Int) : Int := if a < b then -1 else if b < a then 1 else 0
theorem nan_any (a : Int) (w : World) : Calls Tryz.prog 102 #[.int .i64 a] w fun e w' => e = .returned (.bool false) ∧ Below w.heap.size w w' := by
  refine fun_eq 0 w Tryz.func102 (args := [.val (.int .i64 a)]) rfl rfl ?_
  repeat' (first
    | (refine Branch.yes rfl ?_)
    | (refine Branch.no rfl ?_)
    | (refine Branch.mk (fun hb => ?_) (fun hb => ?_))
    | (refine NewI.mk fun nb hnb => ?_)
    | (refine Need.mk (by show _ ∧ _; omega) ?_)
    | (refine Need.mk (by omega) ?_)
    | (refine Need.mk ?_ ?_)
    | (refine EndI.mk fun w1 h1 => ?_))
  simp
theorem cmp_any (a b : Int) (w : World) : Calls Tryz.prog 91 #[.int .i64 a, .int .i64 b] w fun e w' => e = .returned (.int .i64 (cmpI a b)) ∧ Below w.heap.size w w' := by
  refine fun_eq 0 w Tryz.func91 (args := [.val (.int .i64 a), .val (.int .i64 b)]) rfl rfl ?_
  repeat' (first
    | (refine CallI.to1 (nan_any _) fun w2 => ?_)
    | (refine Branch.yes rfl ?_)
    | (refine Branch.no rfl ?_)
    | (refine Branch.mk (fun hb => ?_) (fun hb => ?_))
    | (refine NewI.mk fun nb hnb => ?_)
    | (refine Need.mk (by show _ ∧ _; omega) ?_)
    | (refine Need.mk (by omega) ?_)
    | (refine Need.mk ?_ ?_)
    | (refine EndI.mk fun w1 h1 => ?_))
  all_goals
    simp only [decide_eq_true_eq, decide_eq_false_iff_not] at *
    simp [cmpI, *]
theorem first_any (a b : Int) (fid : FuncId) (caps : Array Value) (en : Enters Tryz.prog fid) (c : Int) (w : World)
    (hcall : ∀ W, Below w.heap.size w W → Calls Tryz.prog fid caps W fun e W' => e = .returned (.int .i64 c) ∧ Below W.heap.size W W') :
    Calls Tryz.prog 89 #[.int .i64 a, .int .i64 b, .func (.func fid) #[] caps] w fun e w' => e = .returned (.int .i64 (if cmpI a b ≠ 0 then cmpI a b else c)) ∧ Below w.heap.size w w' := by
  refine fun_eq 0 w Tryz.func89 (args := [.val (.int .i64 a), .val (.int .i64 b), .val (.func (.func fid) #[] caps)]) rfl rfl ?_
  apply CallI.use1
  · exact fun w1 h1 => cmp_any a b w1
  intro w1 w2 h1 hB2
  refine Branch.mk (fun hc => ?_) (fun hc => ?_)
  · refine EndI.mk fun w3 h3 => ?_
    rw [if_pos (by simpa using hc)]
  refine Need.mk en ?_
  apply CallI.use1
  · exact fun w3 h3 => hcall w3 h3.below
  intro w3 w4 h3 hB4
  refine EndI.mk fun w3 h3 => ?_
  rw [if_neg (by simpa using hc)]

namespace Fr
def sign (x y c : Int) : Int := if cmpI x y ≠ 0 then cmpI x y else c
/-- the last of three comparisons: of what is left over. -/
def rest (a b : Rt) : Int := cmpI (a.num % a.den * b.den) (b.num % b.den * a.den)
def kept (a b : Rt) (x : Int) : Bool :=
  decide (sign (a.num / a.den - b.num / b.den) (x / 2) (rest a b) < 0) || (decide (sign (a.num / a.den - b.num / b.den) (x / 2) (rest a b) = 0) && !(Bd.st x))
def keeps (a b : Rt) (x : Int) : Bool × Int :=
  if a.ok && b.ok && Bd.may x then (if x = 9223372036854775807 then (true, 0) else (kept a b x, 0)) else (false, 8)
end Fr
theorem Fr.rest_in {a b : Rt} (ha : a.ok = true) (hb : b.ok = true) : inK .i64 (a.num % a.den * b.den) := by
  have h1 := Fr.ok_den ha
  have h2 := Fr.ok_den hb
  have k4 := Int.emod_nonneg a.num (by omega : a.den ≠ 0)
  have k5 := Int.emod_lt_of_pos a.num (by omega : 0 < a.den)
  have h3 : a.num % a.den * b.den ≤ 1048576 * 1048576 := Int.mul_le_mul (by omega) (by omega) (by omega) (by omega)
  have h4 : 0 ≤ a.num % a.den * b.den := Int.mul_nonneg k4 (by omega)
  simp only [inK]; omega
theorem rkeeps1_any (a b : Rt) (ha : a.ok = true) (hb : b.ok = true) (p q s t : Nat) (w : World) (c0 : w.cell? ⟨p, 0, none⟩ = some (.int .i64 (a.num % a.den))) (c1 : w.cell? ⟨q, 1, none⟩ = some (.int .i64 b.den))
    (c2 : w.cell? ⟨s, 0, none⟩ = some (.int .i64 (b.num % b.den))) (c3 : w.cell? ⟨t, 1, none⟩ = some (.int .i64 a.den)) :
    Calls Tryz.prog 90 #[.pointer (some ⟨p, 0, none⟩), .pointer (some ⟨q, 0, none⟩), .pointer (some ⟨s, 0, none⟩), .pointer (some ⟨t, 0, none⟩)] w fun e w' => e = .returned (.int .i64 (Fr.rest a b)) ∧ Below w.heap.size w w' := by
  refine fun_eq 0 w Tryz.func90 (args := [.val (.pointer (some ⟨p, 0, none⟩)), .val (.pointer (some ⟨q, 0, none⟩)), .val (.pointer (some ⟨s, 0, none⟩)), .val (.pointer (some ⟨t, 0, none⟩))]) rfl rfl ?_
  have m1 : inK .i64 (a.num % a.den * b.den) := Fr.rest_in ha hb
  have m2 : inK .i64 (b.num % b.den * a.den) := Fr.rest_in hb ha
  refine LoadI.mk ⟨_, ⟨c0, by simp⟩, ?_⟩
  refine LoadI.mk ⟨_, ⟨c1, by simp⟩, ?_⟩
  refine Need.mk m1 ?_
  refine LoadI.mk ⟨_, ⟨c2, by simp⟩, ?_⟩
  refine LoadI.mk ⟨_, ⟨c3, by simp⟩, ?_⟩
  refine Need.mk m2 ?_
  apply CallI.use1
  · exact fun w3 h3 => cmp_any _ _ w3
  intro w3 w4 h3 hB4
  exact EndI.mk fun w5 h5 => rfl

theorem rkeeps_any (a b : Rt) (ha : a.ins) (hb : b.ins) (x : Int) (w : World) :
    Calls Tryz.prog 72 #[.agg #[.int .i64 a.num, .int .i64 a.den], .agg #[.int .i64 b.num, .int .i64 b.den], .int .i64 x] w fun e w' => e = .returned (.tuple #[.bool (Fr.keeps a b x).1, .int .i64 (Fr.keeps a b x).2]) ∧ Below w.heap.size w w' := by
  refine fun_eq 0 w Tryz.func72 (args := [.agg [.val (.int .i64 a.num), .val (.int .i64 a.den)], .agg [.val (.int .i64 b.num), .val (.int .i64 b.den)], .val (.int .i64 x)]) rfl rfl ?_
  refine NewI.mk fun b1 hb1 => ?_
  refine NewI.mk fun b2 hb2 => ?_
  refine NewI.mk fun b3 hb3 => ?_
  apply CallI.use1
  · exact fun w1 h1 => rchecked_any [a, b] (by intro y hy; simp at hy; rcases hy with rfl | rfl <;> assumption) _ _ w1 (Sl.own (l := [a, b]) h1 2 rfl rfl rfl (Nat.le_refl _) (by simp [maxLen]))
  intro w1 w2 h1 hB2
  refine Branch.mk (fun hc => ?_) (fun hc => ?_)
  · refine EndI.mk fun w3 h3 => ?_
    have : (a.ok && b.ok) = false := by simp at hc; simp; intro h; simp_all
    rw [Fr.keeps, this]; rfl
  have hok : (a.ok && b.ok) = true := by simpa using hc
  have hoa : a.ok = true := by simp at hok; exact hok.1
  have hob : b.ok = true := by simp at hok; exact hok.2
  apply CallI.use1
  · exact fun w3 h3 => bcheck_any x w3
  intro w3 w4 h3 hB4
  refine Branch.mk (fun hc2 => ?_) (fun hc2 => ?_)
  · refine EndI.mk fun w5 h5 => ?_
    have : Bd.may x = false := by
      cases h : Bd.may x
      · rfl
      · rw [Bd.chk_yes h] at hc2; cases hc2
    rw [Fr.keeps, this]; simp
  have hm : Bd.may x = true := by
    cases h : Bd.may x
    · rw [Bd.chk_no h] at hc2; cases hc2
    · rfl
  apply CallI.use1
  · exact fun w5 h5 => value_any x w5
  intro w5 w6 h5 hB6
  refine Branch.mk (fun hc3 => ?_) (fun hc3 => ?_)
  · refine EndI.mk fun w7 h7 => ?_
    have hx : x = 9223372036854775807 := by
      rcases Classical.em (x = 9223372036854775807) with h | h
      · exact h
      · rw [Bd.value_yes hm h] at hc3; cases hc3
    subst hx; simp [Fr.keeps, hoa, hob, Bd.may_none]
  have hx : x ≠ 9223372036854775807 := by
    rintro rfl
    rw [Bd.value_none] at hc3; cases hc3
  have ea := Fr.ok_den hoa
  have eb := Fr.ok_den hob
  apply CallI.use1
  · exact fun w7 h7 => floor_any a.num a.den ea.1 ha.1 ha.2 w7
  intro w7 w8 h7 hB8
  refine NewI.mk fun b4 hb4 => ?_
  apply CallI.use1
  · exact fun w9 h9 => floor_any b.num b.den eb.1 hb.1 hb.2 w9
  intro w9 w10 h9 hB10
  refine NewI.mk fun b5 hb5 => ?_
  have ia := Fr.in_iff.1 (Fr.ok_in hoa)
  have ib := Fr.in_iff.1 (Fr.ok_in hob)
  refine Need.mk (by simp only [inK]; omega) ?_
  apply CallI.use1
  · refine fun w11 h11 => first_any _ _ _ _ Tryz.call90 (Fr.rest a b) w11 fun W hW => ?_
    refine rkeeps1_any a b hoa hob _ _ _ _ W ?_ ?_ ?_ ?_
    · exact (hW.cell (p := ⟨b4, 0, none⟩) (h11.lt b4 (by simp))).trans (h11.own (i := 3) (o := 0) rfl rfl rfl)
    · exact (hW.cell (p := ⟨b2, 1, none⟩) (h11.lt b2 (by simp))).trans (h11.own (i := 1) (o := 1) rfl rfl rfl)
    · exact (hW.cell (p := ⟨b5, 0, none⟩) (h11.lt b5 (by simp))).trans (h11.own (i := 4) (o := 0) rfl rfl rfl)
    · exact (hW.cell (p := ⟨b1, 1, none⟩) (h11.lt b1 (by simp))).trans (h11.own (i := 0) (o := 1) rfl rfl rfl)
  intro w11 w12 h11 hB12
  have hk : Fr.keeps a b x = (Fr.kept a b x, 0) := by simp [Fr.keeps, hoa, hob, hm, hx]
  rw [hk]
  have hv := Bd.value_yes hm hx
  simp only [hv]
  refine Branch.mk (fun hc4 => ?_) (fun hc4 => ?_)
  · refine EndI.mk fun w13 h13 => ?_
    have : Fr.kept a b x = true := by
      rw [Fr.kept, show (decide (Fr.sign (a.num / a.den - b.num / b.den) (x / 2) (Fr.rest a b) < 0)) = true by exact hc4]; rfl
    rw [this]
  have n1 : (decide (Fr.sign (a.num / a.den - b.num / b.den) (x / 2) (Fr.rest a b) < 0)) = false := by exact hc4
  refine Branch.mk (fun hc5 => ?_) (fun hc5 => ?_)
  · refine EndI.mk fun w13 h13 => ?_
    have n2 : (decide (Fr.sign (a.num / a.den - b.num / b.den) (x / 2) (Fr.rest a b) = 0)) = true := by exact hc5
    rw [Fr.kept, n1, n2]
    simp
  · refine EndI.mk fun w13 h13 => ?_
    have n2 : (decide (Fr.sign (a.num / a.den - b.num / b.den) (x / 2) (Fr.rest a b) = 0)) = false := by exact hc5
    rw [Fr.kept, n1, n2]
    simp
end Go.Proofs.YtdecibfnhceloaaGreat
