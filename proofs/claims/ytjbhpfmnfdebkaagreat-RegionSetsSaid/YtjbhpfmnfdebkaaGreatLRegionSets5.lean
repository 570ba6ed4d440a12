/-
  Merged texts of this law (each with its own head below).
-/
import Derived.Test.YtjbhpfmnfdebkaaGreatLRegionSets4
import Derived.Shelf.Bits.Mul64
import Derived.Shelf.Spec.BitsCarry
import Derived.Ground.NamesProg
import Derived.Test.YtjbhpfmnfdebkaaGreatProg
import Derived.Test.YtjbhpfmnfdebkaaGreatLRegionSets3
import Derived.Laws.StructEq
import Derived.Test.YtjbhpfmnfdebkaaGreatLRegionSets1
import Derived.RangeFuncBox
import Derived.RangeFuncBound
import Derived.RangeFuncLeaves
import Derived.Shelf.Abstract
import Derived.WalkKit
import Derived.OwnWalkIn
import Derived.TacticsInMore
import Derived.LoopNIn
import Derived.LoopIn
import Derived.Deep.QuietTactic
import Derived.BigQuiet
import Derived.Sort.Grow
import Derived.Shelf.SlSortCmp.NoneTotal
import Derived.Ground.SlsfProg
import Derived.Sort.OwnSorted
namespace Go.Proofs.YtjbhpfmnfdebkaaGreat
set_option linter.unusedVariables false
set_option linter.unusedSimpArgs false
set_option maxRecDepth 100000
open Go.RowKit Go.Proofs.YtjbhpfmnfdebkaaGreat.Eng Enc

namespace Cv
def odd (z : Zn) : Bool := decide (Zo.chk z ≠ 0)
def checked (ls : List (List Zn)) : Int := if ls.any (fun l => decide (4096 < l.length)) = true then 4 else if ls.any (fun l => l.any odd) = true then 8 else 0
def in_ (z : Zn) (l : List Zn) : Bool × Int :=
  if checked [l, [z]] = 0 then (decide ((Mi.left z l).2 = 0) && decide ((Mi.left z l).1.length = 0), (Mi.left z l).2) else (false, checked [l, [z]])
end Cv
def Shown (n : Nat) (W : World) (ss : List Svl) (ls : List (List Zn)) : Prop := ss.length = ls.length ∧ ∀ (k : Nat) (s : Svl) (l : List Zn), ss[k]? = some s → ls[k]? = some l → Sl n W (.slice s.a s.len s.cap) l ∧ s.len = l.length
theorem codd_any (z : Zn) (w : World) : Calls Tryz.prog 248 #[.agg #[.int .i64 z.a, .int .i64 z.b, .int .i64 z.c, .int .i64 z.d, .int .i64 z.e, .int .i64 z.f]] w fun e w' => e = .returned (.bool (Cv.odd z)) ∧ Below w.heap.size w w' := by
  refine fun_eq 0 w Tryz.func248 (args := [.agg [.val (.int .i64 z.a), .val (.int .i64 z.b), .val (.int .i64 z.c), .val (.int .i64 z.d), .val (.int .i64 z.e), .val (.int .i64 z.f)]]) rfl rfl ?_
  refine NewI.mk fun b1 hb1 => ?_
  refine CallI.to1 (fun w => zcheck_any z w) fun w2 => ?_
  exact EndI.mk fun w9 h9 => rfl
theorem checked_any (ss : List Svl) (ls : List (List Zn)) (a : Option Addr) (cap : Nat) (w : World) (hA : Shown w.heap.size w ss ls) (hS : Sl w.heap.size w (.slice a ss.length cap) ss) :
    Calls Tryz.prog 190 #[.slice a ss.length cap] w fun e w' => e = .returned (.int .i64 (Cv.checked ls)) ∧ Below w.heap.size w w' := by
  refine fun_eq 0 w Tryz.func190 (args := [.val (.slice a ss.length cap)]) rfl rfl ?_
  obtain ⟨hlen, hA⟩ := hA
  have hform := hS.form
  obtain ⟨_, _, hfe, hcap1, hcap2, _⟩ := hform
  injection hfe with _ _ hfe
  subst hfe
  unfold maxLen at hcap2
  unfold Cv.checked
  refine LoopI.invC (α := Nat × World) (fun y => [(10, .val (.int .i64 y.1))]) (fun y => y.2) (fun y => y.1 ≤ ss.length ∧ Below w.heap.size w y.2 ∧ ∀ l, l ∈ ls.take y.1 → l.length ≤ 4096) (fun y => ss.length - y.1) ?_ ?_
  · intro w1 h1
    exact ⟨(0, w1), Cov.mk (by repeat' (first | exact trivial | refine And.intro rfl ?_)) rfl rfl rfl rfl rfl, rfl, Nat.zero_le _, h1.below, by simp⟩
  rintro ⟨k, W⟩ ⟨hk, hW, hall⟩
  refine Branch.mk (fun hc => ?_) (fun hc => ?_)
  · have hlt : k < ss.length := by simpa using hc
    have hg := List.getElem?_eq_getElem (l := ss) (i := k) hlt
    have hl := List.getElem?_eq_getElem (l := ls) (i := k) (by omega)
    obtain ⟨hs1, hs2⟩ := hA k _ _ hg hl
    generalize ls[k]'(by omega) = l at hl hs1 hs2
    have hSW := hS.go hW hW.size
    refine hSW.idx hg fun ad had => ?_
    refine hSW.ldv hg rfl had (Below.refl _ _) (by simp) ?_
    refine Branch.mk (fun hc2 => ?_) (fun hc2 => ?_)
    · have h4 : 4096 < l.length := by have : (4096 : Int) < (ss[k]'hlt).len := by simpa using hc2
                                      omega
      rw [if_pos (by rw [List.any_eq_true]; exact ⟨l, List.mem_of_getElem? hl, by simpa using h4⟩)]
      exact EndI.mk fun w3 h3 => rfl
    · have hle : l.length ≤ 4096 := by have : ¬ (4096 : Int) < (ss[k]'hlt).len := by simpa using hc2
                                       omega
      refine Need.mk (by simp only [inK]; omega) (EndI.mk fun w7 h7 => ⟨(k + 1, w7), Cov.mk (by repeat' (first | exact trivial | refine And.intro rfl ?_)) rfl rfl rfl rfl rfl, rfl, ⟨hlt, h7.below, fun y hy => ?_⟩, by simp only; omega⟩)
      have e : ls.take (k + 1) = ls.take k ++ [l] := by rw [List.take_add_one, hl]; rfl
      rw [e] at hy
      rcases List.mem_append.1 hy with hy | hy
      · exact hall y hy
      · rw [List.mem_singleton.1 hy]; exact hle
  have hge : k = ls.length := by have : ¬ k < ss.length := by simpa using hc
                                 omega
  subst hge
  rw [List.take_length] at hall
  rw [if_neg (by rw [List.any_eq_true]; rintro ⟨x, hx, h⟩; have := hall x hx; simp at h; omega)]
  clear hall hc hk
  refine LoopI.invC (α := Nat × World) (fun y => [(20, .val (.int .i64 y.1))]) (fun y => y.2) (fun y => y.1 ≤ ss.length ∧ Below w.heap.size w y.2 ∧ ∀ l, l ∈ ls.take y.1 → l.any Cv.odd = false) (fun y => ss.length - y.1) ?_ ?_
  · intro w1 h1
    exact ⟨(0, w1), Cov.mk (by repeat' (first | exact trivial | refine And.intro rfl ?_)) rfl rfl rfl rfl rfl, rfl, Nat.zero_le _, h1.below, by simp⟩
  rintro ⟨k, V⟩ ⟨hk, hV, hall⟩
  refine Branch.mk (fun hc => ?_) (fun hc => ?_)
  · have hlt : k < ss.length := by simpa using hc
    have hg := List.getElem?_eq_getElem (l := ss) (i := k) hlt
    have hl := List.getElem?_eq_getElem (l := ls) (i := k) (by omega)
    obtain ⟨hs1, hs2⟩ := hA k _ _ hg hl
    generalize ls[k]'(by omega) = l at hl hs1 hs2
    rw [hs2] at hs1
    have hSW := hS.go hV hV.size
    refine hSW.idx hg fun ad had => ?_
    refine hSW.ldv hg rfl had (Below.refl _ _) (by simp) ?_
    rw [hs2]
    apply CallI.use1
    focus (exact fun w4 h4 => containsZ_pure l Cv.odd _ _ 248 #[] w4 (hs1.go h4.below h4.below.size) Tryz.call248 fun x W _ _ => codd_any x W)
    intro w4 v4 h4 hB4
    refine Branch.mk (fun hc2 => ?_) (fun hc2 => ?_)
    · have h4 : l.any Cv.odd = true := by simpa using hc2
      rw [if_pos (by rw [List.any_eq_true]; exact ⟨l, List.mem_of_getElem? hl, h4⟩)]
      exact EndI.mk fun w3 h3 => rfl
    · have hle : l.any Cv.odd = false := by simpa using hc2
      refine Need.mk (by simp only [inK]; omega) (EndI.mk fun w7 h7 => ⟨(k + 1, w7), Cov.mk (by repeat' (first | exact trivial | refine And.intro rfl ?_)) rfl rfl rfl rfl rfl, rfl, ⟨hlt, h7.below, fun y hy => ?_⟩, by simp only; omega⟩)
      have e : ls.take (k + 1) = ls.take k ++ [l] := by rw [List.take_add_one, hl]; rfl
      rw [e] at hy
      rcases List.mem_append.1 hy with hy | hy
      · exact hall y hy
      · rw [List.mem_singleton.1 hy]; exact hle
  have hge : k = ls.length := by have : ¬ k < ss.length := by simpa using hc
                                 omega
  subst hge
  rw [List.take_length] at hall
  rw [if_neg (by rw [List.any_eq_true]; rintro ⟨x, hx, h⟩; rw [hall x hx] at h; cases h)]
  exact EndI.mk fun w9 h9 => rfl
theorem shown_two {n : Nat} {W : World} {s t : Svl} {l m : List Zn} (h1 : Sl n W (.slice s.a s.len s.cap) l) (e1 : s.len = l.length) (h2 : Sl n W (.slice t.a t.len t.cap) m) (e2 : t.len = m.length) : Shown n W [s, t] [l, m] := by
  refine ⟨rfl, fun k s' l' hs hl => ?_⟩
  have hk : k < 2 := (List.getElem?_eq_some_iff.1 hs).1
  have : k = 0 ∨ k = 1 := by omega
  rcases this with rfl | rfl
  · simp at hs hl; subst hs; subst hl; exact ⟨h1, e1⟩
  · simp at hs hl; subst hs; subst hl; exact ⟨h2, e2⟩
theorem shown_one {n : Nat} {W : World} {s : Svl} {l : List Zn} (h1 : Sl n W (.slice s.a s.len s.cap) l) (e1 : s.len = l.length) : Shown n W [s] [l] := by
  refine ⟨rfl, fun k s' l' hs hl => ?_⟩
  have hk : k < 1 := (List.getElem?_eq_some_iff.1 hs).1
  have : k = 0 := by omega
  subst this
  simp at hs hl; subst hs; subst hl; exact ⟨h1, e1⟩
theorem cin_any (z : Zn) (l : List Zn) (a : Option Addr) (cap : Nat) (w : World) (hS : Sl w.heap.size w (.slice a l.length cap) l) :
    Calls Tryz.prog 192 #[.agg #[.int .i64 z.a, .int .i64 z.b, .int .i64 z.c, .int .i64 z.d, .int .i64 z.e, .int .i64 z.f], .slice a l.length cap] w fun e w' => e = .returned (.tuple #[.bool (Cv.in_ z l).1, .int .i64 (Cv.in_ z l).2]) ∧ Below w.heap.size w w' := by
  refine fun_eq 0 w Tryz.func192 (args := [.agg [.val (.int .i64 z.a), .val (.int .i64 z.b), .val (.int .i64 z.c), .val (.int .i64 z.d), .val (.int .i64 z.e), .val (.int .i64 z.f)], .val (.slice a l.length cap)]) rfl rfl ?_
  have st := Stay.first (w := w)
  refine NewI.mk fun b1 hb1 => ?_
  refine NewI.mk fun b2 hb2 => ?_
  refine NewI.mk fun b3 hb3 => ?_
  unfold Cv.in_
  apply CallI.use1
  · exact fun w1 h1 => checked_any [⟨a, l.length, cap⟩, ⟨some ⟨b2, 0, none⟩, 1, 1⟩] [l, [z]] _ _ w1 (shown_two (hS.go h1.below h1.below.size) rfl (Sl.own (l := [z]) h1 1 rfl rfl rfl (Nat.le_refl _) (by simp [maxLen])) rfl) (Sl.own (l := [(⟨a, l.length, cap⟩ : Svl), ⟨some ⟨b2, 0, none⟩, 1, 1⟩]) h1 2 rfl rfl rfl (Nat.le_refl _) (by simp [maxLen]))
  intro w1 v1 h1 hB1
  have hv1 : Below w.heap.size w v1 := h1.below.trans (hB1.mono h1.below.size)
  refine Branch.mk (fun hc => ?_) (fun hc => ?_)
  · have h0 : ¬ Cv.checked [l, [z]] = 0 := by simpa using hc
    rw [if_neg h0]
    exact EndI.mk fun w3 h3 => rfl
  have h0 : Cv.checked [l, [z]] = 0 := by simpa using hc
  rw [if_pos h0]
  apply CallI.use
  focus (exact fun w2 h2 => left_any z l a cap w2 (hS.go h2.below h2.below.size))
  rintro v w2 v2 h2 hB2 ⟨a2, c2, rfl, hS2⟩
  generalize Mi.left z l = X at *
  obtain ⟨x, e⟩ := X
  refine Branch.mk (fun hc2 => ?_) (fun hc2 => ?_)
  · have h1 : e = 0 := by simpa using hc2
    subst h1
    refine EndI.mk fun w3 h3 => ?_
    simp
  · have h1 : ¬ e = 0 := by simpa using hc2
    refine EndI.mk fun w3 h3 => ?_
    simp [h1]
end Go.Proofs.YtjbhpfmnfdebkaaGreat

namespace Go.Proofs
open Go.Shelf
def Tryz.mul64_ren : Go.Shelf.Ren := ⟨fun | 264 => 264 | n => n, fun | 53 => 245 | 46 => 271 | n => n, fun | n => n⟩
theorem Tryz.mul64 : Go.Proofs.Lays.n264 Tryz.prog Tryz.mul64_ren := {
  mixed := by kernel_rfl
  f264 := Tryz.func264.trans (congrArg some (by kernel_rfl))
  t46 := Tryz.underlying271
  a46 := Tryz.isAgg271
  z46 := Tryz.sizeOf271
  v46 := Tryz.zeroValue271
  t53 := Tryz.underlying245
  a53 := Tryz.isAgg245
  z53 := Tryz.sizeOf245
  v53 := Tryz.zeroValue245 }
end Go.Proofs

namespace Go.Proofs.YtjbhpfmnfdebkaaGreat
set_option linter.unusedVariables false
set_option linter.unusedSimpArgs false
set_option maxRecDepth 100000
open Go.RowKit Go.Proofs.YtjbhpfmnfdebkaaGreat.Eng Enc

theorem mul64_any (x y : Nat) (hx : x < 18446744073709551616) (hy : y < 18446744073709551616) (w : World) :
    Calls Tryz.prog 264 #[.int .u64 x, .int .u64 y] w fun e w' => e = .returned (.tuple #[.int .u64 ((x * y / 18446744073709551616 : Nat) : Int), .int .u64 ((x * y % 18446744073709551616 : Nat) : Int)]) ∧ w = w' :=
  (Any.bits_Mul64 Tryz.mul64 x y hx hy w).mono fun e w' ⟨h1, h2⟩ => ⟨h1, h2.symm⟩

theorem tupP {a b c d : Int} (h : a = c) (k : b = d) : Value.tuple #[.int .i64 a, .int .u64 b] = .tuple #[.int .i64 c, .int .u64 d] := by rw [h, k]
theorem sub64_run (x y b : Nat) (hb : b ≤ 1) (w : World) : (callFunc 265 #[.int .u64 x, .int .u64 y, .int .u64 b]).run Tryz.prog w = .ok (.value (.tuple #[.int .u64 (((x + 18446744073709551616 - y - b) % 18446744073709551616 : Nat) : Int), .int .u64 ((if x < y + b then 1 else 0 : Nat) : Int)])) w := by
  rw [run_callFunc_extern Tryz.func265 (by kernel_rfl) (by kernel_rfl) (by kernel_rfl) (e := sub64Entry) (by kernel_rfl), run_sub64 x y b hb]; rfl

theorem product_any (a b : Int) (ha : inK .i64 a) (hb : inK .i64 b) (w : World) :
    Calls Tryz.prog 224 #[.int .i64 a, .int .i64 b] w fun e w' => e = .returned (.tuple #[.int .i64 (a * b / 18446744073709551616), .int .u64 (a * b % 18446744073709551616)]) ∧ Below w.heap.size w w' := by
  refine fun_eqW 0 w Tryz.func224 (args := [.val (.int .i64 a), .val (.int .i64 b)]) rfl rfl ?_
  simp only [inK] at ha hb
  (first
    | (refine CallI.to1 (size_any a ha) fun w2 => ?_)
    | (refine Branch.yes rfl ?_)
    | (refine Branch.no rfl ?_)
    | (refine Branch.mk (fun hb => ?_) (fun hb => ?_))
    | (refine NewI.mk fun nb hnb => ?_)
    | (refine Need.mk (by show _ ∧ _; omega) ?_)
    | (refine Need.mk (by omega) ?_)
    | (refine Need.mk ?_ ?_)
    | (refine EndI.mk fun w1 h1 => ?_))
  (first
    | (refine CallI.to1 (size_any b hb) fun w2 => ?_)
    | (refine Branch.yes rfl ?_)
    | (refine Branch.no rfl ?_)
    | (refine Branch.mk (fun hb => ?_) (fun hb => ?_))
    | (refine NewI.mk fun nb hnb => ?_)
    | (refine Need.mk (by show _ ∧ _; omega) ?_)
    | (refine Need.mk (by omega) ?_)
    | (refine Need.mk ?_ ?_)
    | (refine EndI.mk fun w1 h1 => ?_))
  refine CallI.to0 (mul64_any a.natAbs b.natAbs (by omega) (by omega)) fun w2 => ?_
  have hP : a.natAbs * b.natAbs ≤ 9223372036854775808 * 9223372036854775808 := Nat.mul_le_mul (by omega) (by omega)
  have habs : (a * b).natAbs = a.natAbs * b.natAbs := Int.natAbs_mul a b
  have hneg : a * b < 0 → (a < 0 ↔ ¬ b < 0) := fun h => by
    constructor
    · intro h1 h2
      have := Int.mul_pos_of_neg_of_neg h1 h2; omega
    · intro h1
      rcases Int.lt_or_le a 0 with h2 | h2
      · exact h2
      · have := Int.mul_nonneg h2 (by omega : 0 ≤ b); omega
  have hpos : 0 < a * b → (a < 0 ↔ b < 0) := fun h => by
    rcases Int.lt_or_le a 0 with h1 | h1 <;> rcases Int.lt_or_le b 0 with h2 | h2
    · simp [h1, h2]
    · have := Int.mul_nonpos_of_nonpos_of_nonneg (Int.le_of_lt h1) h2; omega
    · have := Int.mul_nonpos_of_nonneg_of_nonpos h1 (Int.le_of_lt h2); omega
    · omega
  generalize a.natAbs * b.natAbs = Q at *
  generalize a * b = Z at *
  refine Branch.mk (fun hc => ?_) (fun hc => ?_)
  · have hs : ¬ (a < 0 ↔ b < 0) := by simpa using hc
    refine GenN.to (fun w1 => sub64_run 0 (Q % 18446744073709551616) 0 (by decide) w1) fun w3 h3 => ?_
    refine GenN.to (fun w1 => sub64_run 0 (Q / 18446744073709551616) (if 0 < Q % 18446744073709551616 + 0 then 1 else 0) (by split <;> decide) w1) fun w4 h4 => ?_
    refine EndI.mk fun w5 h5 => ?_
    have hZ : Z = -(Q : Int) := by
      rcases Int.lt_or_le 0 Z with h | h
      · exact absurd (hpos h) hs
      · omega
    refine tupP ?_ ?_
    · split <;> omega
    · omega
  · have hs : (a < 0 ↔ b < 0) := by simpa using hc
    have hZ : Z = (Q : Int) := by
      rcases Int.lt_or_le Z 0 with h | h
      · have := hneg h; omega
      · omega
    refine EndI.mk fun w5 h5 => ?_
    refine tupP ?_ ?_
    · omega
    · omega

theorem nanU_any (a : Int) (w : World) : Calls Tryz.prog 310 #[.int .u64 a] w fun e w' => e = .returned (.bool false) ∧ Below w.heap.size w w' := by
  refine fun_eq 0 w Tryz.func310 (args := [.val (.int .u64 a)]) rfl rfl ?_
  repeat' (first
    | (refine Branch.yes rfl ?_)
    | (refine Branch.no rfl ?_)
    | (refine Branch.mk (fun hb => ?_) (fun hb => ?_))
    | (refine NewI.mk fun nb hnb => ?_)
    | (refine Need.mk (by show _ ∧ _; omega) ?_)
    | (refine Need.mk (by omega) ?_)
    | (refine Need.mk ?_ ?_)
    | (refine EndI.mk fun w1 h1 => ?_))
  simp
theorem cmpU_any (a b : Int) (w : World) : Calls Tryz.prog 290 #[.int .u64 a, .int .u64 b] w fun e w' => e = .returned (.int .i64 (cmpI a b)) ∧ Below w.heap.size w w' := by
  refine fun_eq 0 w Tryz.func290 (args := [.val (.int .u64 a), .val (.int .u64 b)]) rfl rfl ?_
  repeat' (first
    | (refine CallI.to1 (nanU_any _) fun w2 => ?_)
    | (refine Branch.yes rfl ?_)
    | (refine Branch.no rfl ?_)
    | (refine Branch.mk (fun hb => ?_) (fun hb => ?_))
    | (refine NewI.mk fun nb hnb => ?_)
    | (refine Need.mk (by show _ ∧ _; omega) ?_)
    | (refine Need.mk (by omega) ?_)
    | (refine Need.mk ?_ ?_)
    | (refine EndI.mk fun w1 h1 => ?_))
  all_goals
    simp only [decide_eq_true_eq, decide_eq_false_iff_not] at *
    simp [cmpI, *]
theorem firstU_any (a b : Int) (fid : FuncId) (caps : Array Value) (en : Enters Tryz.prog fid) (c : Int) (w : World)
    (hcall : ∀ W, Below w.heap.size w W → Calls Tryz.prog fid caps W fun e W' => e = .returned (.int .i64 c) ∧ Below W.heap.size W W') :
    Calls Tryz.prog 262 #[.int .u64 a, .int .u64 b, .func (.func fid) #[] caps] w fun e w' => e = .returned (.int .i64 (if cmpI a b ≠ 0 then cmpI a b else c)) ∧ Below w.heap.size w w' := by
  refine fun_eq 0 w Tryz.func262 (args := [.val (.int .u64 a), .val (.int .u64 b), .val (.func (.func fid) #[] caps)]) rfl rfl ?_
  apply CallI.use1
  · exact fun w1 h1 => cmpU_any a b w1
  intro w1 w2 h1 hB2
  refine Branch.mk (fun hc => ?_) (fun hc => ?_)
  · refine EndI.mk fun w3 h3 => ?_
    rw [if_pos (by simpa using hc)]
  refine Need.mk en ?_
  apply CallI.use1
  · exact fun w3 h3 => hcall w3 h3.below
  intro w3 w4 h3 hB4
  refine EndI.mk fun w3 h3 => ?_
  rw [if_neg (by simpa using hc)]
theorem zero_any (w : World) : Calls Tryz.prog 263 #[] w fun e w' => e = .returned (.int .i64 0) ∧ Below w.heap.size w w' := by
  refine fun_eq 0 w Tryz.func263 (args := []) rfl rfl ?_
  repeat' (first
    | (refine Branch.yes rfl ?_)
    | (refine Branch.no rfl ?_)
    | (refine Branch.mk (fun hb => ?_) (fun hb => ?_))
    | (refine NewI.mk fun nb hnb => ?_)
    | (refine Need.mk (by show _ ∧ _; omega) ?_)
    | (refine Need.mk (by omega) ?_)
    | (refine Need.mk ?_ ?_)
    | (refine EndI.mk fun w1 h1 => ?_))
  rfl
theorem compare1_any (p q : Nat) (l m : Int) (w : World) (hp : w.cell? ⟨p, 0, none⟩ = some (.int .u64 l)) (hq : w.cell? ⟨q, 0, none⟩ = some (.int .u64 m)) :
    Calls Tryz.prog 261 #[.pointer (some ⟨p, 0, none⟩), .pointer (some ⟨q, 0, none⟩)] w fun e w' => e = .returned (.int .i64 (cmpI l m)) ∧ Below w.heap.size w w' := by
  refine fun_eq 0 w Tryz.func261 (args := [.val (.pointer (some ⟨p, 0, none⟩)), .val (.pointer (some ⟨q, 0, none⟩))]) rfl rfl ?_
  refine LoadI.mk ⟨_, ⟨hp, by simp⟩, ?_⟩
  refine LoadI.mk ⟨_, ⟨hq, by simp⟩, ?_⟩
  apply CallI.use1
  · exact fun w1 h1 => firstU_any l m 263 #[] Tryz.call263 0 w1 fun W _ => zero_any W
  intro w1 w2 h1 hB2
  refine EndI.mk fun w3 h3 => ?_
  split
  · rfl
  · rename_i h
    rw [Decidable.not_not] at h
    rw [h]
theorem cmp_words (P Q : Int) : (if cmpI (P / 18446744073709551616) (Q / 18446744073709551616) ≠ 0 then cmpI (P / 18446744073709551616) (Q / 18446744073709551616) else cmpI (P % 18446744073709551616) (Q % 18446744073709551616)) = cmpI P Q := by
  have e1 := Int.mul_ediv_add_emod P 18446744073709551616
  have e2 := Int.mul_ediv_add_emod Q 18446744073709551616
  have h1 := Int.emod_nonneg P (b := 18446744073709551616) (by decide)
  have h2 := Int.emod_lt_of_pos P (b := 18446744073709551616) (by decide)
  have h3 := Int.emod_nonneg Q (b := 18446744073709551616) (by decide)
  have h4 := Int.emod_lt_of_pos Q (b := 18446744073709551616) (by decide)
  generalize P / 18446744073709551616 = p at *
  generalize Q / 18446744073709551616 = q at *
  generalize P % 18446744073709551616 = r at *
  generalize Q % 18446744073709551616 = s at *
  subst e1; subst e2
  have lt : ∀ {x y : Int}, x < y → cmpI x y = -1 := fun h => if_pos h
  have gt : ∀ {x y : Int}, y < x → cmpI x y = 1 := fun h => by unfold cmpI; rw [if_neg (by omega), if_pos h]
  have eq : ∀ x : Int, cmpI x x = 0 := fun x => by unfold cmpI; rw [if_neg (by omega), if_neg (by omega)]
  rcases Int.lt_trichotomy p q with h | h | h
  · rw [lt h, if_pos (by decide), lt (by omega)]
  · subst h
    rw [eq p, if_neg (by decide)]
    rcases Int.lt_trichotomy r s with h | h | h
    · rw [lt h, lt (by omega)]
    · subst h; rw [eq, eq]
    · rw [gt h, gt (by omega)]
  · rw [gt h, if_pos (by decide), gt (by omega)]
theorem compare_any (a b : Rt) (ha : a.ins) (hb : b.ins) (w : World) :
    Calls Tryz.prog 220 #[.agg #[.int .i64 a.num, .int .i64 a.den], .agg #[.int .i64 b.num, .int .i64 b.den]] w fun e w' => e = .returned (.int .i64 (Fr.cmpR a b)) ∧ Below w.heap.size w w' := by
  refine fun_eq 0 w Tryz.func220 (args := [.agg [.val (.int .i64 a.num), .val (.int .i64 a.den)], .agg [.val (.int .i64 b.num), .val (.int .i64 b.den)]]) rfl rfl ?_
  refine NewI.mk fun b1 hb1 => ?_
  refine NewI.mk fun b2 hb2 => ?_
  (first
    | (apply CallI.use1; (focus (exact fun w1 h1 => product_any a.num b.den ha.1 hb.2 w1)); intro w1 w2 h1 hB)
    | (refine Branch.yes rfl ?_)
    | (refine Branch.no rfl ?_)
    | (refine Branch.mk (fun hb => ?_) (fun hb => ?_))
    | (refine NewI.mk fun nb hnb => ?_)
    | (refine Need.mk (by show _ ∧ _; omega) ?_)
    | (refine Need.mk (by omega) ?_)
    | (refine Need.mk ?_ ?_)
    | (refine EndI.mk fun w1 h1 => ?_))
  refine NewI.mk fun b3 hb3 => ?_
  apply CallI.use1
  · exact fun w3 h3 => product_any b.num a.den hb.1 ha.2 w3
  intro w3 w4 h3 hB4
  refine NewI.mk fun b4 hb4 => ?_
  apply CallI.use1
  · exact fun w5 h5 => first_any _ _ 261 #[.pointer (some ⟨b3, 0, none⟩), .pointer (some ⟨b4, 0, none⟩)] Tryz.call261 (cmpI (a.num * b.den % 18446744073709551616) (b.num * a.den % 18446744073709551616)) w5 fun W hW =>
      compare1_any b3 b4 _ _ W ((hW.cell (p := ⟨b3, 0, none⟩) (h5.lt b3 (by simp))).trans (h5.own (i := 2) (o := 0) rfl rfl rfl)) ((hW.cell (p := ⟨b4, 0, none⟩) (h5.lt b4 (by simp))).trans (h5.own (i := 3) (o := 0) rfl rfl rfl))
  intro w5 w6 h5 hB6
  refine EndI.mk fun w7 h7 => ?_
  rw [cmp_words]; rfl
theorem two_all (a b : Rt) : (if [a, b].all Rt.ok = true then (0 : Int) else 8) = if a.ok = true ∧ b.ok = true then 0 else 8 := by simp
theorem rcmp_any (a b : Rt) (ha : a.ins) (hb : b.ins) (w : World) :
    Calls Tryz.prog 153 #[.agg #[.int .i64 a.num, .int .i64 a.den], .agg #[.int .i64 b.num, .int .i64 b.den]] w fun e w' => e = .returned (.tuple #[.int .i64 (Fr.cmp a b).1, .int .i64 (Fr.cmp a b).2]) ∧ Below w.heap.size w w' := by
  refine fun_eq 0 w Tryz.func153 (args := [.agg [.val (.int .i64 a.num), .val (.int .i64 a.den)], .agg [.val (.int .i64 b.num), .val (.int .i64 b.den)]]) rfl rfl ?_
  refine NewI.mk fun b1 hb1 => ?_
  refine NewI.mk fun b2 hb2 => ?_
  refine NewI.mk fun b3 hb3 => ?_
  apply CallI.use1
  · exact fun w1 h1 => rchecked_any [a, b] (by intro y hy; simp at hy; rcases hy with rfl | rfl <;> assumption) _ _ w1 (Sl.own (l := [a, b]) h1 2 rfl rfl rfl (Nat.le_refl _) (by simp [maxLen]))
  intro w1 w2 h1 hB2
  rw [two_all]
  refine Branch.mk (fun hc => ?_) (fun hc => ?_)
  · refine EndI.mk fun w3 h3 => ?_
    have hno : ¬ (a.ok = true ∧ b.ok = true) := fun h => by rw [if_pos h] at hc; cases hc
    rw [Fr.cmp, if_neg hno, if_neg hno]
  have hok : a.ok = true ∧ b.ok = true := by
    by_cases h : a.ok = true ∧ b.ok = true
    · exact h
    · rw [if_neg h] at hc; cases hc
  apply CallI.use1
  · exact fun w3 h3 => compare_any a b ha hb w3
  intro w3 w4 h3 hB4
  refine EndI.mk fun w5 h5 => ?_
  rw [Fr.cmp, if_pos hok]
end Go.Proofs.YtjbhpfmnfdebkaaGreat

namespace Go.Proofs.YtjbhpfmnfdebkaaGreat
set_option linter.unusedVariables false
set_option linter.unusedSimpArgs false
set_option maxRecDepth 100000
open Go.RowKit Go.Proofs.YtjbhpfmnfdebkaaGreat.Eng Enc

theorem div_in {n g : Int} (hn : inK .i64 n) (hg : 1 ≤ g) : inK .i64 (n / g) := Fr.ediv_in hg hn
theorem gcdI_any (x y : Int) (a b : Nat) (hx : x = a) (hy : y = b) (ha : a < 18446744073709551616) (hb : b < 18446744073709551616) (w : World) :
    Calls Tryz.prog 204 #[.int .u64 x, .int .u64 y] w fun e w' => e = .returned (.int .u64 (Nat.gcd a b)) ∧ Below w.heap.size w w' := by
  subst hx; subst hy; exact gcd_any a b ha hb w
theorem low_any (n d : Int) (hd : 1 ≤ d) (hn : inK .i64 n) (hd2 : inK .i64 d) (w : World) :
    Calls Tryz.prog 132 #[.int .i64 n, .int .i64 d] w fun e w' => e = .returned (.tuple #[.agg #[.int .i64 (Fr.low n d).1.num, .int .i64 (Fr.low n d).1.den], .int .i64 (Fr.low n d).2]) ∧ Below w.heap.size w w' := by
  refine fun_eq 0 w Tryz.func132 (args := [.val (.int .i64 n), .val (.int .i64 d)]) rfl rfl ?_
  have hn' := hn
  have hd' := hd2
  simp only [inK] at hn' hd'
  refine NewI.mk fun b1 hb1 => ?_
  (first
    | (refine CallI.to1 (size_any n hn) fun w2 => ?_)
    | (refine Branch.yes rfl ?_)
    | (refine Branch.no rfl ?_)
    | (refine Branch.mk (fun hb => ?_) (fun hb => ?_))
    | (refine NewI.mk fun nb hnb => ?_)
    | (refine Need.mk (by show _ ∧ _; omega) ?_)
    | (refine Need.mk (by omega) ?_)
    | (refine Need.mk ?_ ?_)
    | (refine EndI.mk fun w1 h1 => ?_))
  obtain ⟨D, rfl⟩ : ∃ D : Nat, d = D := ⟨d.toNat, by omega⟩
  (first
    | (refine CallI.to1 (gcdI_any _ _ n.natAbs D rfl (by omega) (by omega) (by omega)) fun w2 => ?_)
    | (refine Branch.yes rfl ?_)
    | (refine Branch.no rfl ?_)
    | (refine Branch.mk (fun hb => ?_) (fun hb => ?_))
    | (refine NewI.mk fun nb hnb => ?_)
    | (refine Need.mk (by show _ ∧ _; omega) ?_)
    | (refine Need.mk (by omega) ?_)
    | (refine Need.mk ?_ ?_)
    | (refine EndI.mk fun w1 h1 => ?_))
  have hgD : (Nat.gcd n.natAbs D : Int) ∣ (D : Int) := Int.natCast_dvd_natCast.2 (Nat.gcd_dvd_right ..)
  have hgn : (Nat.gcd n.natAbs D : Int) ∣ n := Int.ofNat_dvd_left.2 (Nat.gcd_dvd_left ..)
  have hg1 : 1 ≤ (Nat.gcd n.natAbs D : Int) := by
    have : 0 < Nat.gcd n.natAbs D := Nat.gcd_pos_of_pos_right _ (by omega)
    omega
  have hgle : (Nat.gcd n.natAbs D : Int) ≤ D := Int.le_of_dvd (by omega) hgD
  have hl : Fr.low n D = if Fr.okB (n / (Nat.gcd n.natAbs D : Int)) ((D : Int) / (Nat.gcd n.natAbs D : Int)) = true then (⟨n / (Nat.gcd n.natAbs D : Int), (D : Int) / (Nat.gcd n.natAbs D : Int)⟩, 0) else (⟨0, 0⟩, 10) := rfl
  rw [hl]
  generalize (Nat.gcd n.natAbs D : Int) = g at *
  have e1 : n.tdiv g = n / g := Int.tdiv_eq_ediv_of_dvd hgn
  have e2 : (D : Int).tdiv g = (D : Int) / g := Int.tdiv_eq_ediv_of_dvd hgD
  conv => whnf
  rw [show (g + 9223372036854775808) % 18446744073709551616 - 9223372036854775808 = g by omega]
  refine DrawI.go (.tk 0 (.tk 1 (.tk 2 (.tk 3 (.tk 4 (.tk 5 (.tk 6 (.ev 7 (.ev 8 .done))))))))) (by kernel_rfl) fun w1 h1 => ?_
  refine Need.mk ⟨by omega, by rw [e1]; exact div_in hn hg1⟩ ?_
  refine Need.mk ⟨by omega, by rw [e2]; exact div_in hd2 hg1⟩ ?_
  rw [e1, e2]
  refine NewI.mk fun b2 hb2 => ?_
  apply CallI.use1
  · exact fun w3 h3 => rcheck_any (n / g) (D / g) (div_in hn hg1) (div_in hd2 hg1) w3
  intro w3 w4 h3 hB4
  refine Branch.mk (fun hc => ?_) (fun hc => ?_)
  · refine EndI.mk fun w5 h5 => ?_
    rw [if_pos (Fr.chk_eq.1 (by simpa using hc))]
  · refine EndI.mk fun w5 h5 => ?_
    rw [if_neg (fun h => by rw [Fr.chk_yes h] at hc; cases hc)]
theorem rof_any (n d : Int) (hn : inK .i64 n) (hd2 : inK .i64 d) (w : World) :
    Calls Tryz.prog 66 #[.int .i64 n, .int .i64 d] w fun e w' => e = .returned (.tuple #[.agg #[.int .i64 (Fr.of n d).1.num, .int .i64 (Fr.of n d).1.den], .int .i64 (Fr.of n d).2]) ∧ Below w.heap.size w w' := by
  refine fun_eq 0 w Tryz.func66 (args := [.val (.int .i64 n), .val (.int .i64 d)]) rfl rfl ?_
  refine NewI.mk fun b1 hb1 => ?_
  unfold Fr.of
  refine Branch.mk (fun hc => ?_) (fun hc => ?_)
  · refine EndI.mk fun w5 h5 => ?_
    rw [if_pos (by simpa using hc)]
  have hd : ¬ d < 1 := by simpa using hc
  rw [if_neg hd]
  (first
    | (refine CallI.to1 (low_any n d (by omega) hn hd2) fun w2 => ?_)
    | (refine Branch.yes rfl ?_)
    | (refine Branch.no rfl ?_)
    | (refine Branch.mk (fun hb => ?_) (fun hb => ?_))
    | (refine NewI.mk fun nb hnb => ?_)
    | (refine Need.mk (by show _ ∧ _; omega) ?_)
    | (refine Need.mk (by omega) ?_)
    | (refine Need.mk ?_ ?_)
    | (refine EndI.mk fun w1 h1 => ?_))
  exact EndI.mk fun w5 h5 => rfl

theorem sum_any (a b : Rt) (k : Int) (ha : a.ok = true) (hb : b.ok = true) (ia : a.ins) (ib : b.ins) (hk : k = 1 ∨ k = 2) (w : World) :
    Calls Tryz.prog 161 #[.agg #[.int .i64 a.num, .int .i64 a.den], .agg #[.int .i64 b.num, .int .i64 b.den], .int .i64 k] w fun e w' => e = .returned (.tuple #[.agg #[.int .i64 (Fr.sum a b k).1.num, .int .i64 (Fr.sum a b k).1.den], .int .i64 (Fr.sum a b k).2]) ∧ Below w.heap.size w w' := by
  refine fun_eqW 0 w Tryz.func161 (args := [.agg [.val (.int .i64 a.num), .val (.int .i64 a.den)], .agg [.val (.int .i64 b.num), .val (.int .i64 b.den)], .val (.int .i64 k)]) rfl rfl ?_
  have oa := Fr.ok_bd ha
  have ob := Fr.ok_bd hb
  have hd := Fr.dn_pos ha hb hk
  obtain ⟨s1, s2, s3, s4, s5, s6, s7, s8⟩ := Fr.sum_bd ha hb hk
  have hfin := Fr.finish_sum ha hb hk
  obtain ⟨hg, _, _, hp, hd1, hd2⟩ := Fr.red (T := Fr.tn a b) (W := Fr.sW a b k) (D := Fr.sDen a b * k) (p := Fr.sPart a b k) (by omega) (by omega) (Fr.sum_split ha hb hk)
  have hk1 : 1 ≤ k := by omega
  refine NewI.mk fun b1 hb1 => ?_
  refine NewI.mk fun b2 hb2 => ?_
  refine NewI.mk fun b3 hb3 => ?_
  apply CallI.use1
  · exact fun w1 h1 => floor_any a.num a.den oa.1 ia.1 ia.2 w1
  intro w1 w2 h1 hB2
  apply CallI.use1
  · exact fun w3 h3 => floor_any b.num b.den ob.1 ib.1 ib.2 w3
  intro w3 w4 h3 hB4
  refine DrawI.go (.tk 0 (.tk 1 (.tk 2 (.tk 3 (.tk 4 (.tk 5 (.tk 6 (.tk 7 (.tk 8 (.tk 9 (.tk 10 (.tk 11 (.tk 12 (.tk 13 .done)))))))))))))) (by kernel_rfl) fun w5 h5 => ?_
  refine Wr.fit (by have := s1; unfold Fr.sWhole at this; omega) ?_
  refine Wr.fit (by omega) ?_
  refine Wr.fit (by omega) ?_
  refine Wr.fit (by omega) ?_
  refine Wr.fit (by have := hd; unfold Fr.sDen at this; omega) ?_
  apply CallI.use1
  · exact fun w3 h3 => floor_any (Fr.sWhole a b) k (by omega) (by simp only [inK]; omega) (by simp only [inK]; omega) w3
  intro w6 w7 h6 hB7
  refine Wr.fit (by have := s4; unfold Fr.sDen at this; omega) ?_
  refine Wr.fit (by have := s5; unfold Fr.sRest2 Fr.sRest Fr.sDen at this; omega) ?_
  refine Wr.fit (by have := hd; unfold Fr.sDen at this; omega) ?_
  apply CallI.use1
  · exact fun w3 h3 => floor_any (Fr.sRest2 a b k) (Fr.sDen a b * k) (by omega) (by simp only [inK]; omega) (by simp only [inK]; omega) w3
  intro w8 w9 h8 hB9
  refine Wr.fit (by have := hd; unfold Fr.sDen at this; omega) ?_
  apply CallI.use1
  · exact fun w3 h3 => gcdI_any _ _ (Fr.sPart a b k).natAbs (Fr.sDen a b * k).natAbs (by show Fr.sPart a b k % 18446744073709551616 = _; omega) (by show Fr.sDen a b * k % 18446744073709551616 = _; omega) (by omega) (by omega) w3
  intro w10 w11 h10 hB11
  conv => whnf
  rw [show (((Nat.gcd (Fr.sPart a b k).natAbs (Fr.sDen a b * k).natAbs : Nat) : Int) + 9223372036854775808) % 18446744073709551616 - 9223372036854775808 = Int.gcd (Fr.sPart a b k) (Fr.sDen a b * k) by
    have hle : (Int.gcd (Fr.sPart a b k) (Fr.sDen a b * k) : Int) ≤ Fr.sDen a b * k := Int.le_of_dvd (by omega) (Int.gcd_dvd_right ..)
    show ((Int.gcd (Fr.sPart a b k) (Fr.sDen a b * k) : Int) + 9223372036854775808) % 18446744073709551616 - 9223372036854775808 = _
    omega]
  have t1 : (Fr.sPart a b k).tdiv (Int.gcd (Fr.sPart a b k) (Fr.sDen a b * k)) = Fr.sPart a b k / (Int.gcd (Fr.sPart a b k) (Fr.sDen a b * k)) := Int.tdiv_eq_ediv_of_dvd (Int.gcd_dvd_left ..)
  have t2 : (a.den * b.den * k).tdiv (Int.gcd (Fr.sPart a b k) (Fr.sDen a b * k)) = Fr.sDen a b * k / (Int.gcd (Fr.sPart a b k) (Fr.sDen a b * k)) := Int.tdiv_eq_ediv_of_dvd (Int.gcd_dvd_right ..)
  refine DrawI.go (.tk 0 (.tk 1 (.tk 2 (.tk 3 (.tk 4 (.tk 5 (.tk 6 (.tk 7 (.tk 8 (.tk 9 .done)))))))))) (by kernel_rfl) fun w12 h12 => ?_
  refine Need.mk ⟨by omega, by show inK .i64 ((Fr.sPart a b k).tdiv _); rw [t1]; simp only [inK]; omega⟩ ?_
  refine Wr.fit (by have := hd; unfold Fr.sDen at this; omega) ?_
  refine Need.mk ⟨by omega, by rw [t2]; simp only [inK]; omega⟩ ?_
  rw [show ((Fr.sRest2 a b k) % (Fr.sDen a b * k)) = Fr.sPart a b k from rfl, t1, t2]
  rw [← hfin]
  have hW : -4611686018427387904 ≤ Fr.sW a b k ∧ Fr.sW a b k ≤ 4611689316962271232 := by unfold Fr.sW; omega
  generalize Fr.sPart a b k / (Int.gcd (Fr.sPart a b k) (Fr.sDen a b * k) : Int) = p at *
  generalize Fr.sDen a b * k / (Int.gcd (Fr.sPart a b k) (Fr.sDen a b * k) : Int) = d at *
  clear t1 t2 hfin
  unfold Fr.finish
  refine Branch.mk (fun hc => ?_) (fun hc => ?_)
  · refine EndI.mk fun w5 h5 => ?_
    rw [if_pos (by simpa using hc)]
  have hd20 : ¬ 1048576 < d := by simpa using hc
  rw [if_neg hd20]
  refine Wr.fit (by have := hW; unfold Fr.sW at this; omega) ?_
  refine CallI.to0 (check_any (Fr.sW a b k)) fun w14 => ?_
  conv => whnf
  rw [show Fr.sWhole a b / k + Fr.sRest2 a b k / (Fr.sDen a b * k) = Fr.sW a b k from rfl]
  generalize Fr.sW a b k = W at *
  refine Branch.mk (fun hc => ?_) (fun hc => ?_)
  · refine EndI.mk fun w5 h5 => ?_
    rw [if_pos (by simpa using hc)]
  have hW0 : Num.chk W = 0 := by simpa using hc
  rw [if_neg (by omega)]
  have hWb : -2305843009213693952 ≤ W ∧ W ≤ 2305843009213693952 := by
    rcases hk : Num.okB W with _ | _
    · rw [Num.chk_no hk] at hW0; cases hW0
    · exact Num.okB_iff.1 hk
  refine Branch.mk (fun hneg => ?_) (fun hneg => ?_)
  · have hn : W < 0 := by simpa using hneg
    refine Wr.fit (by omega) ?_
    refine Wr.fit (by omega) ?_
    have hP : (W + 1) * d + (p - d) = W * d + p := by grind
    have hs : (W + 1) * d ≤ 0 := Int.mul_nonpos_of_nonpos_of_nonneg (by omega) (by omega)
    apply CallI.use1
    · exact fun w3 h3 => product_any (W + 1) d (by simp only [inK]; omega) (by simp only [inK]; omega) w3
    intro w15 w16 h15 hB16
    generalize (W + 1) * d = P at *
    generalize W * d = WD at *
    have hsg : (0 ≤ P ∧ 0 ≤ p - d) ∨ (P ≤ 0 ∧ p - d < 0) := by omega
    have hqb : -1048576 ≤ p - d ∧ p - d ≤ 1048576 := by omega
    generalize p - d = q at *
    rw [← hP]
    refine Wr.mk ?_
    refine Need.mk (by decide) ?_
    conv => whnf
    rw [show (2 : Int) ^ Int.toNat 63 = 9223372036854775808 by decide, show (P % 18446744073709551616 + 9223372036854775808) % 18446744073709551616 - 9223372036854775808 = Fr.il P from rfl]
    refine Branch.mk (fun hc2 => ?_) (fun hc2 => ?_)
    · refine EndI.mk fun w5 h5 => ?_
      rw [if_neg (fun h => by rw [Fr.il_ne (P := P) (by simpa using hc2) (by omega)] at h; cases h)]
    obtain ⟨hil, hPb⟩ := Fr.il_eq (P := P) (by simpa using hc2)
    rw [hil]
    refine Branch.mk (fun hc3 => ?_) (fun hc3 => ?_)
    · refine Branch.mk (fun hc4 => ?_) (fun hc4 => ?_)
      · refine EndI.mk fun w5 h5 => ?_
        rw [if_neg]
        intro h
        simp only [Fr.inI, Bool.and_eq_true, decide_eq_true_eq] at h
        have hc4 : q ≠ 0 := by simpa using hc4
        simp at hc3
        omega
      · have hq0 : q = 0 := by simpa using hc4
        subst hq0
        rw [if_pos (by simp only [Fr.inI, Bool.and_eq_true, decide_eq_true_eq]; omega)]
        rw [show (P + 0 + 9223372036854775808) % 18446744073709551616 - 9223372036854775808 = P + 0 by omega]
        apply CallI.use1
        · exact fun w3 h3 => low_any (P + 0) d (by omega) (by simp only [inK]; omega) (by simp only [inK]; omega) w3
        intro w17 w18 h17 hB18
        exact EndI.mk fun w19 h19 => rfl
    · simp at hc3
      rw [if_pos (by simp only [Fr.inI, Bool.and_eq_true, decide_eq_true_eq]; omega)]
      rw [show (P + q + 9223372036854775808) % 18446744073709551616 - 9223372036854775808 = P + q by omega]
      apply CallI.use1
      · exact fun w3 h3 => low_any (P + q) d (by omega) (by simp only [inK]; omega) (by simp only [inK]; omega) w3
      intro w17 w18 h17 hB18
      exact EndI.mk fun w19 h19 => rfl
  · have hn : 0 ≤ W := by have : ¬ W < 0 := by simpa using hneg
                          omega
    have hs : 0 ≤ W * d := Int.mul_nonneg hn (by omega)
    apply CallI.use1
    · exact fun w3 h3 => product_any W d (by simp only [inK]; omega) (by simp only [inK]; omega) w3
    intro w15 w16 h15 hB16
    have hsg : (0 ≤ W * d ∧ 0 ≤ p) ∨ (W * d ≤ 0 ∧ p < 0) := by omega
    have hpb : -1048576 ≤ p ∧ p ≤ 1048576 := by omega
    generalize W * d = P at *
    refine Wr.mk ?_
    refine Need.mk (by decide) ?_
    conv => whnf
    rw [show (2 : Int) ^ Int.toNat 63 = 9223372036854775808 by decide, show (P % 18446744073709551616 + 9223372036854775808) % 18446744073709551616 - 9223372036854775808 = Fr.il P from rfl]
    refine Branch.mk (fun hc2 => ?_) (fun hc2 => ?_)
    · refine EndI.mk fun w5 h5 => ?_
      rw [if_neg (fun h => by rw [Fr.il_ne (P := P) (by simpa using hc2) (by omega)] at h; cases h)]
    obtain ⟨hil, hPb⟩ := Fr.il_eq (P := P) (by simpa using hc2)
    rw [hil]
    refine Branch.mk (fun hc3 => ?_) (fun hc3 => ?_)
    · refine Branch.mk (fun hc4 => ?_) (fun hc4 => ?_)
      · refine EndI.mk fun w5 h5 => ?_
        rw [if_neg]
        intro h
        simp only [Fr.inI, Bool.and_eq_true, decide_eq_true_eq] at h
        have hc4 : p ≠ 0 := by simpa using hc4
        simp at hc3
        omega
      · have hp0 : p = 0 := by simpa using hc4
        subst hp0
        rw [if_pos (by simp only [Fr.inI, Bool.and_eq_true, decide_eq_true_eq]; omega)]
        rw [show (P + 0 + 9223372036854775808) % 18446744073709551616 - 9223372036854775808 = P + 0 by omega]
        apply CallI.use1
        · exact fun w3 h3 => low_any (P + 0) d (by omega) (by simp only [inK]; omega) (by simp only [inK]; omega) w3
        intro w17 w18 h17 hB18
        exact EndI.mk fun w19 h19 => rfl
    · simp at hc3
      rw [if_pos (by simp only [Fr.inI, Bool.and_eq_true, decide_eq_true_eq]; omega)]
      rw [show (P + p + 9223372036854775808) % 18446744073709551616 - 9223372036854775808 = P + p by omega]
      apply CallI.use1
      · exact fun w3 h3 => low_any (P + p) d (by omega) (by simp only [inK]; omega) (by simp only [inK]; omega) w3
      intro w17 w18 h17 hB18
      exact EndI.mk fun w19 h19 => rfl

theorem radd_any (a b : Rt) (ha : a.ins) (hb : b.ins) (w : World) :
    Calls Tryz.prog 90 #[.agg #[.int .i64 a.num, .int .i64 a.den], .agg #[.int .i64 b.num, .int .i64 b.den]] w fun e w' => e = .returned (.tuple #[.agg #[.int .i64 (Fr.add a b).1.num, .int .i64 (Fr.add a b).1.den], .int .i64 (Fr.add a b).2]) ∧ Below w.heap.size w w' := by
  refine fun_eq 0 w Tryz.func90 (args := [.agg [.val (.int .i64 a.num), .val (.int .i64 a.den)], .agg [.val (.int .i64 b.num), .val (.int .i64 b.den)]]) rfl rfl ?_
  refine NewI.mk fun b1 hb1 => ?_
  refine NewI.mk fun b2 hb2 => ?_
  refine NewI.mk fun b3 hb3 => ?_
  refine NewI.mk fun b4 hb4 => ?_
  apply CallI.use1
  · exact fun w1 h1 => rchecked_any [a, b] (by intro y hy; simp at hy; rcases hy with rfl | rfl <;> assumption) _ _ w1 (Sl.own (l := [a, b]) h1 3 rfl rfl rfl (Nat.le_refl _) (by simp [maxLen]))
  intro w1 w2 h1 hB2
  rw [two_all]
  refine Branch.mk (fun hc => ?_) (fun hc => ?_)
  · refine EndI.mk fun w3 h3 => ?_
    have hno : ¬ (a.ok = true ∧ b.ok = true) := fun h => by rw [if_pos h] at hc; cases hc
    rw [Fr.add, if_neg hno, if_neg hno]
  have hok : a.ok = true ∧ b.ok = true := by
    by_cases h : a.ok = true ∧ b.ok = true
    · exact h
    · rw [if_neg h] at hc; cases hc
  apply CallI.use1
  · exact fun w3 h3 => sum_any a b 1 hok.1 hok.2 ha hb (.inl rfl) w3
  intro w3 w4 h3 hB4
  refine EndI.mk fun w5 h5 => ?_
  rw [Fr.add, if_pos hok]
end Go.Proofs.YtjbhpfmnfdebkaaGreat

namespace Go.Proofs.YtjbhpfmnfdebkaaGreat
set_option linter.unusedVariables false
set_option linter.unusedSimpArgs false
set_option maxRecDepth 100000
open Go.RowKit Go.Proofs.YtjbhpfmnfdebkaaGreat.Eng Enc

end Go.Proofs.YtjbhpfmnfdebkaaGreat

namespace Go.Proofs.YtjbhpfmnfdebkaaGreat
set_option linter.unusedVariables false
set_option linter.unusedSimpArgs false
set_option maxRecDepth 100000
open Go.RowKit Go.Proofs.YtjbhpfmnfdebkaaGreat.Eng Enc

def Incl.End.val (x : Incl.End) : Value := .agg #[.bool x.is, .int .i64 x.at_.num, .int .i64 x.at_.den, .bool x.strict]

end Go.Proofs.YtjbhpfmnfdebkaaGreat

namespace Go.Proofs.YtjbhpfmnfdebkaaGreat.Dbm
set_option linter.unusedVariables false
set_option linter.unusedSimpArgs false
open Go.Proofs.YtjbhpfmnfdebkaaGreat.Fr

def satO (d : Rat) : OB → Prop
  | none => True
  | some v => if Bd.st v = true then d < ((v / 2 : Int) : Rat) else d ≤ ((v / 2 : Int) : Rat)
theorem sat_iff (d : Rat) (b : Int) : sat d b ↔ satO d (ob b) := by
  unfold sat ob
  by_cases h : b = NO
  · rw [if_pos h]; exact ⟨fun _ => trivial, fun _ => .inl h⟩
  · rw [if_neg h]
    exact ⟨fun k => k.resolve_left h, fun k => .inr k⟩
theorem st_iff (v : Int) : Bd.st v = true ↔ v % 2 = 0 := by simp [Bd.st]
theorem satO_add {d e : Rat} {a b : OB} (h : satO d a) (k : satO e b) : satO (d + e) (oadd a b) := by
  cases a with
  | none => trivial
  | some u =>
    cases b with
    | none => trivial
    | some v =>
      simp only [satO, oadd] at h k ⊢
      rw [bsum_half]
      have hp : Bd.st (bsum u v) = true ↔ (Bd.st u = true ∨ Bd.st v = true) := by
        rw [st_iff, st_iff, st_iff]
        unfold bsum
        rcases parity u with h1 | h1 <;> rcases parity v with h2 | h2 <;> rw [h1, h2] <;> constructor <;> intro h <;> omega
      rw [Rat.intCast_add]
      generalize ((u / 2 : Int) : Rat) = x at *
      generalize ((v / 2 : Int) : Rat) = y at *
      cases hu : Bd.st u <;> cases hv : Bd.st v <;> simp only [hu, hv, Bool.false_eq_true, if_true, if_false, or_self, or_true, true_or, or_false, false_or] at h k hp ⊢
      · rw [if_neg (by rw [hp]; simp)]; grind
      · rw [if_pos (by rw [hp]; trivial)]; grind
      · rw [if_pos (by rw [hp]; trivial)]; grind
      · rw [if_pos (by rw [hp]; trivial)]; grind
theorem satO_mono {d : Rat} {a b : OB} (h : ole a b) (k : satO d a) : satO d b := by
  cases b with
  | none => trivial
  | some v =>
    cases a with
    | none => exact h.elim
    | some u =>
      have huv : u ≤ v := h
      simp only [satO] at k ⊢
      have h1 : u / 2 ≤ v / 2 := by omega
      have h2 : ((u / 2 : Int) : Rat) ≤ ((v / 2 : Int) : Rat) := by exact_mod_cast h1
      cases hu : Bd.st u <;> cases hv : Bd.st v <;> simp only [hu, hv, Bool.false_eq_true, if_true, if_false] at k ⊢
      · grind
      · have h3 : u / 2 < v / 2 := by
          have a1 : ¬ u % 2 = 0 := fun e => by rw [(st_iff u).2 e] at hu; cases hu
          have a2 := (st_iff v).1 hv
          omega
        have h4 : ((u / 2 : Int) : Rat) < ((v / 2 : Int) : Rat) := by exact_mod_cast h3
        grind
      · grind
      · grind
theorem satO_zero {v : Int} : satO 0 (some v) ↔ 1 ≤ v := by
  simp only [satO]
  cases hv : Bd.st v <;> simp only [Bool.false_eq_true, if_true, if_false]
  · have a1 : ¬ v % 2 = 0 := fun e => by rw [(st_iff v).2 e] at hv; cases hv
    constructor
    · intro h
      have : (0 : Int) ≤ v / 2 := by exact_mod_cast h
      omega
    · intro h
      have : (0 : Int) ≤ v / 2 := by omega
      exact_mod_cast this
  · have a1 := (st_iff v).1 hv
    constructor
    · intro h
      have : (0 : Int) < v / 2 := by exact_mod_cast h
      omega
    · intro h
      have : (0 : Int) < v / 2 := by omega
      exact_mod_cast this
def Fits (N : Nat) (E : Mx) (t : Nat → Rat) : Prop := ∀ i j, i < N → j < N → satO (t i - t j) (E i j)
theorem Fits.way {N : Nat} {E : Mx} {t : Nat → Rat} (h : Fits N E t) : ∀ (mid : List Nat) (i j : Nat), i < N → j < N → (∀ a ∈ mid, a < N) → satO (t i - t j) (Dbm.way E (i :: (mid ++ [j])))
  | [], i, j, hi, hj, _ => by
    simp only [List.nil_append, way_two]; exact h i j hi hj
  | a :: mid, i, j, hi, hj, hm => by
    have ha := hm a (by simp)
    have ih := h.way mid a j ha hj (fun b hb => hm b (by simp [hb]))
    simp only [List.cons_append, Dbm.way]
    have := satO_add (h i a hi ha) ih
    rwa [show t i - t a + (t a - t j) = t i - t j by grind] at this
theorem Inv.fits {N : Nat} {E M : Mx} {t : Nat → Rat} {k : Nat} (hk : k ≤ N) (inv : Inv N k E M) (h : Fits N E t) : Fits N M t := fun i j hi hj => by
  by_cases e : i = j
  · subst e
    rw [inv.diag i hi, Rat.sub_self]
    exact satO_zero.2 (by omega)
  · cases hv : M i j with
    | none => trivial
    | some v =>
      obtain ⟨mid, _, hm, hw⟩ := inv.wit i j hi hj e v hv
      rw [← hw]
      exact h.way mid i j hi hj fun a ha => Nat.lt_of_lt_of_le (hm a ha) hk
theorem Inv.fits_back {N : Nat} {E M : Mx} {t : Nat → Rat} {k : Nat} (inv : Inv N k E M) (h : Fits N M t) : Fits N E t := fun i j hi hj => satO_mono (inv.low i j hi hj) (h i j hi hj)

theorem fits_diag {N : Nat} {L L1 : List Int} {t : Nat → Rat} (hd : ∀ i, i < N → 1 ≤ L[i * N + i]?.getD 0) (h : ∀ i j, i < N → j < N → L1[i * N + j]?.getD 0 = if i = j then 1 else L[i * N + j]?.getD 0) :
    Fits N (mx N L1) t ↔ Fits N (mx N L) t := by
  have h1 : ∀ i j, i < N → j < N → i ≠ j → mx N L1 i j = mx N L i j := fun i j hi hj e => by unfold mx; rw [h i j hi hj, if_neg e]
  constructor
  · intro k i j hi hj
    by_cases e : i = j
    · subst e
      rw [Rat.sub_self]
      unfold mx ob
      split
      · trivial
      · exact satO_zero.2 (hd i hi)
    · rw [← h1 i j hi hj e]; exact k i j hi hj
  · intro k i j hi hj
    by_cases e : i = j
    · subst e
      unfold mx
      rw [h i i hi hi, if_pos rfl, Rat.sub_self]
      exact satO_zero.2 (by omega)
    · rw [h1 i j hi hj e]; exact k i j hi hj
theorem close_fits {N : Nat} {L C : List Int} (h0 : chk N L = 0) (h : closeL N L = some C) (t : Nat → Rat) : Fits N (mx N C) t ↔ Fits N (mx N L) t := by
  obtain ⟨L1, a2, a3, inv, hl, hE⟩ := close_inv h0 h
  rw [← fits_diag a2 a3]
  exact ⟨fun k => inv.fits_back k, fun k => inv.fits (Nat.le_refl _) k⟩
theorem close_some {N : Nat} {L : List Int} (h0 : chk N L = 0) {t : Nat → Rat} (ht : Fits N (mx N L) t) : ∃ C, closeL N L = some C := by
  obtain ⟨c1, c2, c3, c4⟩ := chk_iff.1 h0
  have hN4 : N ≤ 4 := by omega
  have hL : L.length = N * N := by exact_mod_cast c3
  have hdL : ∀ i, i < N → 1 ≤ L[i * N + i]?.getD 0 := fun i hi => by
    have := ht i i hi hi
    rw [Rat.sub_self] at this
    unfold mx ob at this
    split at this
    · rename_i h; rw [h]; decide
    · exact satO_zero.1 this
  have hd0 : ∀ n, n ≤ N → ∃ Ln, (List.range n).foldlM (diag1 N) L = some Ln := by
    intro n
    induction n with
    | zero => intro _; exact ⟨L, rfl⟩
    | succ n ih =>
      intro hn
      obtain ⟨Ln, e⟩ := ih (by omega)
      obtain ⟨a1, a2, a3⟩ := diag_spec hL n Ln (by omega) e
      rw [List.range_succ, List.foldlM_append, e]
      have : Ln[n * N + n]?.getD 0 = L[n * N + n]?.getD 0 := by rw [a3 n n (by omega) (by omega), if_neg (by omega)]
      refine ⟨Ln.set (n * N + n) 1, ?_⟩
      simp only [List.foldlM_cons, List.foldlM_nil, Option.bind_eq_bind, Option.bind_some, diag1]
      rw [if_neg (by rw [this]; have := hdL n (by omega); omega)]; rfl
  obtain ⟨L1, e1⟩ := hd0 N (Nat.le_refl _)
  obtain ⟨a1, a2, a3⟩ := diag_spec hL N L1 (Nat.le_refl _) e1
  have a3' : ∀ i j, i < N → j < N → L1[i * N + j]?.getD 0 = if i = j then 1 else L[i * N + j]?.getD 0 := fun i j hi hj => by
    rw [a3 i j hi hj]
    by_cases e : i = j
    · rw [if_pos ⟨e, hi⟩, if_pos e]
    · rw [if_neg (fun h => e h.1), if_neg e]
  have hd1 : ∀ i, i < N → mx N L1 i i = some 1 := fun i hi => by unfold mx; rw [a3' i i hi hi, if_pos rfl]; rfl
  have hE : ∀ i j v, i < N → j < N → mx N L1 i j = some v → -288230376151711744 ≤ v / 2 ∧ v / 2 ≤ 288230376151711744 := fun i j v hi hj hv => by
    obtain ⟨e1, e2⟩ := mx_some hv
    rw [a3' i j hi hj] at e1
    split at e1
    · subst e1; decide
    · have := chk_lim h0 (i * N + j) (by rw [hL]; exact place_lt hi hj)
      rw [e1] at this
      exact this.resolve_left e2
  have ht1 := (fits_diag (t := t) hdL a3').2 ht
  have hst : ∀ n, n ≤ N → ∃ Cn, (List.range n).foldlM (stage N) L1 = some Cn := by
    intro n
    induction n with
    | zero => intro _; exact ⟨L1, rfl⟩
    | succ n ih =>
      intro hn
      obtain ⟨M, e⟩ := ih (by omega)
      obtain ⟨b1, b2⟩ := fold_inv hN4 a1 hd1 hE n M (by omega) e
      rw [List.range_succ, List.foldlM_append, e]
      have hlM := inv_lim b2 (by omega) hN4 hE
      have hMd : M[n * N + n]?.getD 0 = 1 := (mx_some (b2.diag n (by omega))).1
      have hthr : ∀ i j, i < N → j < N → mx N (thrL N n M) i j = thr n (mx N M) i j := fun i j hi hj => thrL_mx (by omega) b1 hMd (fun q hq => lim_mono (hlM q hq) (by omega)) hi hj
      have htM := b2.fits (by omega) ht1
      have hok : diagOk N (thrL N n M) = true := by
        unfold diagOk
        rw [List.all_eq_true]
        intro i hi
        have hi := List.mem_range.1 hi
        refine decide_eq_true ?_
        have h1 : satO 0 (mx N (thrL N n M) i i) := by
          rw [hthr i i hi hi]
          rcases thr_cases n (mx N M) i i with h | ⟨h, _⟩
          · rw [h, b2.diag i hi]; exact satO_zero.2 (by omega)
          · rw [h]
            have := satO_add (htM i n hi (by omega)) (htM n i (by omega) hi)
            rwa [show t i - t n + (t n - t i) = 0 by grind] at this
        unfold mx ob at h1
        split at h1
        · rename_i h; rw [h]; decide
        · exact satO_zero.1 h1
      refine ⟨thrL N n M, ?_⟩
      simp only [List.foldlM_cons, List.foldlM_nil, Option.bind_eq_bind, Option.bind_some, stage]
      rw [if_pos hok]; rfl
  obtain ⟨C, e2⟩ := hst N (Nat.le_refl _)
  refine ⟨C, ?_⟩
  unfold closeL
  rw [e1, Option.bind_some, e2]
end Go.Proofs.YtjbhpfmnfdebkaaGreat.Dbm

namespace Go.Proofs.YtjbhpfmnfdebkaaGreat
set_option linter.unusedVariables false
namespace Dbm
theorem keptK {N : Nat} {L : List Int} {T : List Rt} : keptL N L T = true ↔ ∀ i j, i < N → j < N → (Fr.keeps ((moments T)[i]?.getD ⟨0, 1⟩) ((moments T)[j]?.getD ⟨0, 1⟩) (L[i * N + j]?.getD 0)).1 = true := by
  unfold keptL
  rw [List.all_eq_true]
  constructor
  · intro h i j hi hj
    have := h (i * N + j) (List.mem_range.2 (place_lt hi hj))
    unfold pairOk at this
    rwa [place_div hj, place_mod hj] at this
  · intro h q hq
    have hq := List.mem_range.1 hq
    unfold pairOk
    have := h (q / N) (q % N) (div_lt hq) (mod_lt hq)
    rwa [div_mod] at this
theorem momK {T : List Rt} (h : T.all Rt.ok = true) (i : Nat) : ((moments T)[i]?.getD ⟨0, 1⟩).ok = true := by
  have h0 : (⟨0, 1⟩ : Rt).ok = true := by decide
  cases hg : (moments T)[i]? with
  | none => exact h0
  | some x =>
    rcases List.mem_cons.1 (List.mem_of_getElem? hg) with rfl | hm
    · exact h0
    · exact List.all_eq_true.1 h x hm
def tvs (T : List Rt) (i : Nat) : Rat := Fr.v ((moments T)[i]?.getD ⟨0, 1⟩)
theorem may_limK {b : Int} (h : lim 2305843009213693951 b) : Bd.may b = true := by
  unfold Bd.may
  rcases h with h | h
  · rw [h]; rfl
  · have : Num.okB (b / 2) = true := Num.okB_iff.2 (by omega)
    rw [this]; simp
theorem kept_fitsK {N : Nat} {L : List Int} {T : List Rt} (hl : ∀ i j, i < N → j < N → lim 2305843009213693951 (L[i * N + j]?.getD 0)) (hT : T.all Rt.ok = true) : keptL N L T = true ↔ Fits N (mx N L) (tvs T) := by
  rw [keptK]
  have key : ∀ i j, i < N → j < N → ((Fr.keeps ((moments T)[i]?.getD ⟨0, 1⟩) ((moments T)[j]?.getD ⟨0, 1⟩) (L[i * N + j]?.getD 0)).1 = true ↔ satO (tvs T i - tvs T j) (mx N L i j)) := fun i j hi hj => by
    rw [Fr.keeps_sat (momK hT i) (momK hT j) (may_limK (hl i j hi hj)), sat_iff]; rfl
  exact ⟨fun h i j hi hj => (key i j hi hj).1 (h i j hi hj), fun h i j hi hj => (key i j hi hj).2 (h i j hi hj)⟩
theorem chk_lenK {N : Nat} {L : List Int} (h : chk N L = 0) : L.length = N * N := by have := (chk_iff.1 h).2.2.1; exact_mod_cast this
theorem chk_limK {N : Nat} {L : List Int} (h : chk N L = 0) (i j : Nat) (hi : i < N) (hj : j < N) : lim 2305843009213693951 (L[i * N + j]?.getD 0) :=
  lim_mono (chk_lim h _ (by rw [chk_lenK h]; exact place_lt hi hj)) (by omega)
end Dbm
end Go.Proofs.YtjbhpfmnfdebkaaGreat

namespace Go.Proofs.YtjbhpfmnfdebkaaGreat
set_option linter.unusedVariables false
set_option linter.unusedSimpArgs false
namespace Fr
structure Sm (D M : Int) (a : Rt) : Prop where
  ok : a.ok = true
  den : a.den ≤ D
  lo : -(M * a.den) ≤ a.num
  hi : a.num ≤ M * a.den
theorem Sm.mono {D D' M M' : Int} {a : Rt} (h : Sm D M a) (hD : D ≤ D') (hM : M ≤ M') : Sm D' M' a := by
  have o := ok_bd h.ok
  have hm : M * a.den ≤ M' * a.den := Int.mul_le_mul_of_nonneg_right hM (by omega)
  exact ⟨h.ok, Int.le_trans h.den hD, by have := h.lo; omega, by have := h.hi; omega⟩
theorem v_den {a : Rt} (ha : a.ok = true) : (a.den : Rat) ≠ 0 := by
  have oa := ok_bd ha
  intro h; have : a.den = 0 := by exact_mod_cast h
  omega
theorem low_sm {T D M d : Int} (hD : 1 ≤ D) (hd : D ≤ d) (hd2 : d ≤ 1048576) (hM : 0 ≤ M) (hM2 : M < 2305843009213693952) (hMd : M * d ≤ 9223372036854775807) (h1 : -(M * D) ≤ T) (h2 : T ≤ M * D) :
    okB (T / Int.gcd T D) (D / Int.gcd T D) = true ∧ inI (T / Int.gcd T D) = true ∧ Sm d M ⟨T / Int.gcd T D, D / Int.gcd T D⟩ ∧ T / Int.gcd T D * D = T * (D / Int.gcd T D) := by
  have hg : 1 ≤ (Int.gcd T D : Int) := by
    have : 0 < Int.gcd T D := Int.gcd_pos_of_ne_zero_right _ (by omega)
    omega
  have d1 : (Int.gcd T D : Int) ∣ T := Int.gcd_dvd_left ..
  have d2 : (Int.gcd T D : Int) ∣ D := Int.gcd_dvd_right ..
  have hcop : Int.gcd (T / Int.gcd T D) (D / Int.gcd T D) = 1 := Int.gcd_ediv_gcd_ediv_gcd (i := T) (j := D) (by omega)
  generalize (Int.gcd T D : Int) = g at *
  obtain ⟨u, rfl⟩ := d1
  obtain ⟨x, rfl⟩ := d2
  rw [Int.mul_ediv_cancel_left _ (by omega), Int.mul_ediv_cancel_left _ (by omega)] at *
  have hx : 1 ≤ x := by
    rcases Int.lt_or_le 0 x with h | h
    · omega
    · have := Int.mul_nonpos_of_nonneg_of_nonpos (a := g) (b := x) (by omega) h
      omega
  have hxd : x ≤ d := by
    have := Int.mul_le_mul_of_nonneg_right hg (show 0 ≤ x by omega)
    omega
  have k1 : -(M * x) ≤ u := by
    refine Int.le_of_mul_le_mul_left (a := g) ?_ (by omega)
    rw [Int.mul_neg, Int.mul_left_comm]; exact h1
  have k2 : u ≤ M * x := by
    refine Int.le_of_mul_le_mul_left (a := g) ?_ (by omega)
    rw [Int.mul_left_comm g M x]; exact h2
  have hMx : M * x ≤ M * d := Int.mul_le_mul_of_nonneg_left hxd hM
  have hin : inB u x = true := by
    apply in_iff.2
    have a1 : -M ≤ u / x := by
      refine (Int.le_ediv_iff_mul_le (by omega)).2 ?_
      rw [Int.neg_mul]; exact k1
    have a2 : u / x ≤ M := by
      have := Int.ediv_le_ediv (c := x) (by omega) k2
      rwa [Int.mul_ediv_cancel _ (by omega)] at this
    omega
  have hok : okB u x = true := by
    unfold okB
    rw [hin]
    have hc2 : Nat.gcd u.natAbs x.natAbs = 1 := hcop
    simp only [hc2]; simp; omega
  refine ⟨hok, ?_, ⟨hok, hxd, k1, k2⟩, ?_⟩
  · unfold inI; simp; omega
  · rw [Int.mul_left_comm, ← Int.mul_assoc]
theorem v_of_mul {a : Rt} (ha : a.ok = true) {T D : Int} (hD : 1 ≤ D) (h : a.num * D = T * a.den) : v a * (D : Rat) = T := by
  have h1 := v_den ha
  have h2 : (a.num : Rat) * (D : Rat) = (T : Rat) * (a.den : Rat) := by exact_mod_cast h
  unfold v
  grind
theorem sum_sm {a b : Rt} {k Da Db Ma Mb d M : Int} (ha : Sm Da Ma a) (hb : Sm Db Mb b) (hk : k = 1 ∨ k = 2) (hMa : 0 ≤ Ma) (hMb : 0 ≤ Mb) (hd : Da * Db * k ≤ d) (hd2 : d ≤ 1048576) (hM : Ma + Mb ≤ M * k) (hM2 : M < 2305843009213693952) (hMd : M * d ≤ 9223372036854775807) :
    (sum a b k).2 = 0 ∧ Sm d M (sum a b k).1 ∧ v (sum a b k).1 * (k : Rat) = v a + v b := by
  have oa := ok_bd ha.ok
  have ob := ok_bd hb.ok
  have hM0 : 0 ≤ M := by rcases hk with rfl | rfl <;> omega
  have e1 : a.den * b.den ≤ Da * Db := Int.mul_le_mul ha.den hb.den (by omega) (by have := ha.den; omega)
  have e2 : 1 ≤ a.den * b.den := by
    have := Int.mul_le_mul (a := 1) (b := 1) oa.1 ob.1 (by omega) (by omega)
    omega
  have hdn : 1 ≤ dn a b k ∧ dn a b k ≤ d := by
    unfold dn
    rcases hk with rfl | rfl <;> omega
  have hT : -(M * dn a b k) ≤ tn a b ∧ tn a b ≤ M * dn a b k := by
    have p1 : a.num * b.den ≤ Ma * a.den * b.den := Int.mul_le_mul_of_nonneg_right ha.hi (by omega)
    have p2 : b.num * a.den ≤ Mb * b.den * a.den := Int.mul_le_mul_of_nonneg_right hb.hi (by omega)
    have p3 : -(Ma * a.den) * b.den ≤ a.num * b.den := Int.mul_le_mul_of_nonneg_right ha.lo (by omega)
    have p4 : -(Mb * b.den) * a.den ≤ b.num * a.den := Int.mul_le_mul_of_nonneg_right hb.lo (by omega)
    have p5 : (Ma + Mb) * (a.den * b.den) ≤ M * k * (a.den * b.den) := Int.mul_le_mul_of_nonneg_right hM (by omega)
    have q1 : M * dn a b k = M * k * (a.den * b.den) := by unfold dn; grind
    have q2 : Ma * a.den * b.den + Mb * b.den * a.den = (Ma + Mb) * (a.den * b.den) := by grind
    have q3 : -(Ma * a.den) * b.den + -(Mb * b.den) * a.den = -((Ma + Mb) * (a.den * b.den)) := by grind
    rw [q1]; unfold tn
    omega
  obtain ⟨l1, l2, l3, l4⟩ := low_sm hdn.1 hdn.2 hd2 hM0 hM2 hMd hT.1 hT.2
  unfold sum
  rw [if_pos ⟨l1, l2⟩]
  refine ⟨rfl, l3, ?_⟩
  have hv := v_of_mul l3.ok hdn.1 l4
  have h1 := v_den ha.ok
  have h2 := v_den hb.ok
  simp only at hv ⊢
  have hk0 : (k : Rat) ≠ 0 := by rcases hk with rfl | rfl <;> decide
  generalize v (⟨tn a b / Int.gcd (tn a b) (dn a b k), dn a b k / Int.gcd (tn a b) (dn a b k)⟩ : Rt) = x at *
  unfold dn tn at hv
  push_cast at hv
  unfold v
  grind
theorem of_sm {c M : Int} (h : -M ≤ c ∧ c ≤ M) (hM : M < 2305843009213693952) : Sm 1 M (of c 1).1 ∧ v (of c 1).1 = c := by
  have hok : okB c 1 = true := by
    unfold okB
    have : inB c 1 = true := in_iff.2 (by simp; omega)
    rw [this]; simp
  have e : of c 1 = (⟨c, 1⟩, 0) := by
    unfold of low
    have hg : Int.gcd c 1 = 1 := by simp
    rw [if_neg (by omega), hg]
    simp only [Int.cast_ofNat_Int, Int.ediv_one]
    rw [if_pos hok]
  rw [e]
  refine ⟨⟨hok, by simp, by simp; omega, by simp; omega⟩, ?_⟩
  show (c : Rat) / ((1 : Int) : Rat) = c
  have h1 : ((1 : Int) : Rat) = 1 := rfl
  rw [h1]; grind
theorem shift_sm {a : Rt} {D M c m d : Int} (ha : Sm D M a) (hM : 0 ≤ M) (hc : -m ≤ c ∧ c ≤ m) (hd : D ≤ d) (hd2 : d ≤ 1048576) (hM2 : M + m < 2305843009213693952) (hMd : (M + m) * d ≤ 9223372036854775807) : Sm d (M + m) (shift a c) ∧ v (shift a c) = v a + c := by
  obtain ⟨h1, h2⟩ := of_sm hc (by omega)
  have h := sum_sm (k := 1) (d := d) (M := M + m) ha h1 (.inl rfl) hM (by omega) (by omega) hd2 (by omega) hM2 hMd
  unfold shift add
  rw [if_pos ⟨ha.ok, h1.ok⟩]
  refine ⟨h.2.1, ?_⟩
  have := h.2.2
  rw [h2] at this
  grind
theorem mid_sm {a b : Rt} {D M d : Int} (ha : Sm D M a) (hb : Sm D M b) (hM : 0 ≤ M) (hd : D * D * 2 ≤ d) (hd2 : d ≤ 1048576) (hM2 : M < 2305843009213693952) (hMd : M * d ≤ 9223372036854775807) : Sm d M (mid a b).1 ∧ v (mid a b).1 * 2 = v a + v b := by
  have h := sum_sm (k := 2) (d := d) (M := M) ha hb (.inr rfl) hM hM hd hd2 (by omega) hM2 hMd
  unfold mid
  rw [if_pos ⟨ha.ok, hb.ok⟩]
  exact ⟨h.2.1, by have := h.2.2; exact_mod_cast this⟩
theorem cmp_v {a b : Rt} (ha : a.ok = true) (hb : b.ok = true) : ((cmp a b).1 < 0 ∧ v a < v b) ∨ ((cmp a b).1 = 0 ∧ v a = v b) ∨ (0 < (cmp a b).1 ∧ v b < v a) := by
  unfold cmp
  rw [if_pos ⟨ha, hb⟩]
  simp only
  have hD := den_pos ha hb
  have hs := v_sub ha hb
  have key : ∀ x : Int, (v a - v b) * ((a.den * b.den : Int) : Rat) = ((a.num * b.den - b.num * a.den : Int) : Rat) := fun _ => by
    rw [hs]
    exact Rat.div_mul_cancel (by intro h; rw [h] at hD; exact absurd hD (by decide))
  have k0 := key 0
  unfold cmpR cmpI
  split
  · rename_i h
    refine .inl ⟨by omega, ?_⟩
    have : ((a.num * b.den - b.num * a.den : Int) : Rat) < 0 := by exact_mod_cast (by omega : a.num * b.den - b.num * a.den < 0)
    rw [← k0] at this
    rcases Classical.em (v a < v b) with hh | hh
    · exact hh
    · have h2 : 0 ≤ v a - v b := by grind
      have := Rat.mul_nonneg h2 (Rat.le_of_lt hD)
      grind
  · split
    · rename_i h
      refine .inr (.inr ⟨by omega, ?_⟩)
      have : (0 : Rat) < ((a.num * b.den - b.num * a.den : Int) : Rat) := by exact_mod_cast (by omega : 0 < a.num * b.den - b.num * a.den)
      rw [← k0] at this
      rcases Classical.em (v b < v a) with hh | hh
      · exact hh
      · have h2 : 0 ≤ v b - v a := by grind
        have := Rat.mul_nonneg h2 (Rat.le_of_lt hD)
        grind
    · refine .inr (.inl ⟨rfl, ?_⟩)
      have : ((a.num * b.den - b.num * a.den : Int) : Rat) = 0 := by exact_mod_cast (by omega : a.num * b.den - b.num * a.den = 0)
      rw [this] at k0
      rcases Rat.mul_eq_zero.1 k0 with h | h
      · grind
      · rw [h] at hD; exact absurd hD (by decide)
end Fr

namespace Incl
open Fr Dbm
def loQ (E : End) (x : Rat) : Prop := E.is = true → (if E.strict = true then v E.at_ < x else v E.at_ ≤ x)
def hiQ (E : End) (x : Rat) : Prop := E.is = true → (if E.strict = true then x < v E.at_ else x ≤ v E.at_)
def Att (P : Rat → Int → Prop) (s : Int) (E : End) : Prop := E.is = true → ∃ r b, P r b ∧ b ≠ NO ∧ v E.at_ = r - (s : Rat) * ((b / 2 : Int) : Rat) ∧ (E.strict = true ↔ Bd.st b = true)
structure EOk (D M : Int) (P : Rat → Int → Prop) (s : Int) (E : End) : Prop where
  sm : E.is = true → Sm D M E.at_
  att : Att P s E
theorem value_no : Bd.value NO = (0, false, 6) := by decide
theorem value_of {b : Int} (h : lim 288230376151711744 b) (hn : b ≠ NO) : Bd.value b = (b / 2, Bd.st b, 0) := by
  have hb := h.resolve_left hn
  have hm : Bd.may b = true := by
    unfold Bd.may Num.okB
    simp; right; omega
  have hn' : ¬ b = 9223372036854775807 := hn
  unfold Bd.value
  rw [if_pos hm, if_neg hn']
theorem near_lo {P : Rat → Int → Prop} {E : End} {D M Dr Mr b : Int} {r : Rt} (hE : EOk D M P 1 E) (hr : Sm Dr Mr r) (hMr : 0 ≤ Mr) (hDr : Dr ≤ D) (hD : D ≤ 1048576) (hMM : Mr + 288230376151711744 ≤ M) (hM2 : M < 2305843009213693952) (hMd : M * D ≤ 9223372036854775807) (hb : lim 288230376151711744 b) (hP : P (v r) b) :
    EOk D M P 1 (nearer E b r 1) ∧ ∀ x, loQ (nearer E b r 1) x ↔ (loQ E x ∧ satO (v r - x) (ob b)) := by
  unfold nearer
  by_cases hn : b = NO
  · subst hn
    rw [value_no]
    rw [if_pos (by decide)]
    refine ⟨hE, fun x => ⟨fun h => ⟨h, ?_⟩, fun h => h.1⟩⟩
    simp [ob, satO]
  have hbb := hb.resolve_left hn
  rw [value_of hb hn]
  simp only [ne_eq, not_true_eq_false, if_false]
  have hDp : 1 ≤ D := by have := (ok_bd hr.ok).1; have := hr.den; omega
  have hMd2 : (Mr + 288230376151711744) * D ≤ 9223372036854775807 := Int.le_trans (Int.mul_le_mul_of_nonneg_right hMM (by omega)) hMd
  obtain ⟨s1, s2⟩ := shift_sm (c := -1 * (b / 2)) (m := 288230376151711744) (d := D) hr hMr (by omega) hDr hD (by omega) hMd2
  have s1 := s1.mono (Int.le_refl D) hMM
  have s3 : v (shift r (-1 * (b / 2))) = v r - ((b / 2 : Int) : Rat) := by rw [s2]; push_cast; grind
  generalize shift r (-1 * (b / 2)) = at_ at *
  have hob : ob b = some b := by unfold ob; rw [if_neg hn]
  rw [hob]
  have hnew : EOk D M P 1 ⟨true, at_, Bd.st b⟩ := ⟨fun _ => s1, fun _ => ⟨v r, b, hP, hn, by rw [s3]; push_cast; grind, Iff.rfl⟩⟩
  have hsat : ∀ x, satO (v r - x) (some b) ↔ (if Bd.st b = true then v at_ < x else v at_ ≤ x) := fun x => by
    simp only [satO, s3]
    cases Bd.st b <;> simp <;> constructor <;> intro h <;> grind
  by_cases hi : E.is = false
  · rw [if_pos (.inl hi)]
    refine ⟨hnew, fun x => ?_⟩
    rw [hsat]
    unfold loQ
    rw [hi]; simp
  have hi : E.is = true := by simpa using hi
  have hc := cmp_v s1.ok (hE.sm hi).ok
  rcases hc with ⟨c1, c2⟩ | ⟨c1, c2⟩ | ⟨c1, c2⟩
  · rw [if_neg (by rw [hi]; simp; omega), if_neg (by omega)]
    refine ⟨hE, fun x => ⟨fun h => ⟨h, ?_⟩, fun h => h.1⟩⟩
    rw [hsat]
    have h' := h hi
    split at h' <;> split <;> grind
  · rw [if_neg (by rw [hi, c1]; simp), if_pos c1]
    refine ⟨⟨fun _ => hE.sm hi, fun _ => ?_⟩, fun x => ?_⟩
    · obtain ⟨r', b', p1, p2, p3, p4⟩ := hE.att hi
      cases hs : Bd.st b
      · exact ⟨r', b', p1, p2, p3, by simp only [Bool.or_false]; exact p4⟩
      · exact ⟨v r, b, hP, hn, by simp only; rw [← c2, s3]; push_cast; grind, by simp [hs]⟩
    · rw [hsat]
      unfold loQ
      simp only [hi, true_implies]
      cases hs : E.strict <;> cases hs2 : Bd.st b <;> simp <;> rw [c2] <;> (try constructor) <;> grind
  · rw [if_pos (.inr (by omega))]
    refine ⟨hnew, fun x => ?_⟩
    rw [hsat]
    unfold loQ
    simp only [hi, true_implies]
    constructor
    · intro h
      refine ⟨?_, h⟩
      split at h <;> split <;> grind
    · exact fun h => h.2
theorem near_hi {P : Rat → Int → Prop} {E : End} {D M Dr Mr b : Int} {r : Rt} (hE : EOk D M P (-1) E) (hr : Sm Dr Mr r) (hMr : 0 ≤ Mr) (hDr : Dr ≤ D) (hD : D ≤ 1048576) (hMM : Mr + 288230376151711744 ≤ M) (hM2 : M < 2305843009213693952) (hMd : M * D ≤ 9223372036854775807) (hb : lim 288230376151711744 b) (hP : P (v r) b) :
    EOk D M P (-1) (nearer E b r (-1)) ∧ ∀ x, hiQ (nearer E b r (-1)) x ↔ (hiQ E x ∧ satO (x - v r) (ob b)) := by
  unfold nearer
  by_cases hn : b = NO
  · subst hn
    rw [value_no]
    rw [if_pos (by decide)]
    refine ⟨hE, fun x => ⟨fun h => ⟨h, ?_⟩, fun h => h.1⟩⟩
    simp [ob, satO]
  have hbb := hb.resolve_left hn
  rw [value_of hb hn]
  simp only [ne_eq, not_true_eq_false, if_false]
  have hDp : 1 ≤ D := by have := (ok_bd hr.ok).1; have := hr.den; omega
  have hMd2 : (Mr + 288230376151711744) * D ≤ 9223372036854775807 := Int.le_trans (Int.mul_le_mul_of_nonneg_right hMM (by omega)) hMd
  obtain ⟨s1, s2⟩ := shift_sm (c := - -1 * (b / 2)) (m := 288230376151711744) (d := D) hr hMr (by omega) hDr hD (by omega) hMd2
  have s1 := s1.mono (Int.le_refl D) hMM
  have s3 : v (shift r (- -1 * (b / 2))) = v r + ((b / 2 : Int) : Rat) := by rw [s2]; push_cast; grind
  generalize shift r (- -1 * (b / 2)) = at_ at *
  have hob : ob b = some b := by unfold ob; rw [if_neg hn]
  rw [hob]
  have hnew : EOk D M P (-1) ⟨true, at_, Bd.st b⟩ := ⟨fun _ => s1, fun _ => ⟨v r, b, hP, hn, by rw [s3]; push_cast; grind, Iff.rfl⟩⟩
  have hsat : ∀ x, satO (x - v r) (some b) ↔ (if Bd.st b = true then x < v at_ else x ≤ v at_) := fun x => by
    simp only [satO, s3]
    cases Bd.st b <;> simp <;> constructor <;> intro h <;> grind
  by_cases hi : E.is = false
  · rw [if_pos (.inl hi)]
    refine ⟨hnew, fun x => ?_⟩
    rw [hsat]
    unfold hiQ
    rw [hi]; simp
  have hi : E.is = true := by simpa using hi
  have hc := cmp_v s1.ok (hE.sm hi).ok
  rcases hc with ⟨c1, c2⟩ | ⟨c1, c2⟩ | ⟨c1, c2⟩
  · rw [if_pos (.inr (by omega))]
    refine ⟨hnew, fun x => ?_⟩
    rw [hsat]
    unfold hiQ
    simp only [hi, true_implies]
    constructor
    · intro h
      refine ⟨?_, h⟩
      split at h <;> split <;> grind
    · exact fun h => h.2
  · rw [if_neg (by rw [hi, c1]; simp), if_pos c1]
    refine ⟨⟨fun _ => hE.sm hi, fun _ => ?_⟩, fun x => ?_⟩
    · obtain ⟨r', b', p1, p2, p3, p4⟩ := hE.att hi
      cases hs : Bd.st b
      · exact ⟨r', b', p1, p2, p3, by simp only [Bool.or_false]; exact p4⟩
      · exact ⟨v r, b, hP, hn, by simp only; rw [← c2, s3]; push_cast; grind, by simp [hs]⟩
    · rw [hsat]
      unfold hiQ
      simp only [hi, true_implies]
      cases hs : E.strict <;> cases hs2 : Bd.st b <;> simp <;> rw [c2] <;> (try constructor) <;> grind
  · rw [if_neg (by rw [hi]; simp; omega), if_neg (by omega)]
    refine ⟨hE, fun x => ⟨fun h => ⟨h, ?_⟩, fun h => h.1⟩⟩
    rw [hsat]
    have h' := h hi
    split at h' <;> split <;> grind
theorem st_bsum (u v : Int) : Bd.st (bsum u v) = true ↔ (Bd.st u = true ∨ Bd.st v = true) := by
  rw [st_iff, st_iff, st_iff]
  unfold bsum
  rcases parity u with h1 | h1 <;> rcases parity v with h2 | h2 <;> rw [h1, h2] <;> constructor <;> intro h <;> omega
theorem ends_room {P Q : Rat → Int → Prop} {l h : End} {D M : Int} (hl : EOk D M P 1 l) (hh : EOk D M Q (-1) h) (hc : ∀ r b r' b', P r b → Q r' b' → b ≠ NO → b' ≠ NO → satO (r - r') (some (bsum b b'))) (h1 : l.is = true) (h2 : h.is = true) :
    v l.at_ ≤ v h.at_ ∧ ((l.strict = true ∨ h.strict = true) → v l.at_ < v h.at_) := by
  obtain ⟨r, b, p1, p2, p3, p4⟩ := hl.att h1
  obtain ⟨r', b', q1, q2, q3, q4⟩ := hh.att h2
  have hs := hc r b r' b' p1 q1 p2 q2
  have hst := st_bsum b b'
  rw [← p4, ← q4] at hst
  simp only [satO, bsum_half] at hs
  rw [p3, q3]
  push_cast at hs ⊢
  generalize ((b / 2 : Int) : Rat) = x at *
  generalize ((b' / 2 : Int) : Rat) = y at *
  split at hs
  · rename_i hk
    exact ⟨by grind, fun _ => by grind⟩
  · rename_i hk
    exact ⟨by grind, fun hh => absurd (hst.2 hh) hk⟩
theorem choose_ok {P Q : Rat → Int → Prop} {l h : End} {D M : Int} (hl : EOk D M P 1 l) (hh : EOk D M Q (-1) h) (hc : ∀ r b r' b', P r b → Q r' b' → b ≠ NO → b' ≠ NO → satO (r - r') (some (bsum b b')))
    (hD : 1 ≤ D) (hD2 : D * D * 2 ≤ 1048576) (hM : 0 ≤ M) (hM2 : M + 1 < 2305843009213693952) (hMd : (M + 1) * (D * D * 2) ≤ 9223372036854775807) :
    Sm (D * D * 2) (M + 1) (choose l h) ∧ loQ l (v (choose l h)) ∧ hiQ h (v (choose l h)) := by
  have hDD : D ≤ D * D * 2 := by
    have := Int.mul_le_mul_of_nonneg_right hD (show 0 ≤ D by omega)
    omega
  have hroom := ends_room hl hh hc
  unfold choose
  split
  · rename_i h1
    refine ⟨(hl.sm h1.1).mono hDD (by omega), fun _ => by rw [h1.2]; simp, fun h2 => ?_⟩
    obtain ⟨r1, r2⟩ := hroom h1.1 h2
    split
    · exact r2 (.inr (by assumption))
    · exact r1
  · rename_i n1
    split
    · rename_i h2
      refine ⟨(hh.sm h2.1).mono hDD (by omega), fun h1 => ?_, fun _ => by rw [h2.2]; simp⟩
      obtain ⟨r1, r2⟩ := hroom h1 h2.1
      split
      · exact r2 (.inl (by assumption))
      · exact r1
    · rename_i n2
      split
      · rename_i h3
        obtain ⟨r1, r2⟩ := hroom h3.1 h3.2
        have s1 : l.strict = true := by
          cases hs : l.strict
          · exact absurd ⟨h3.1, hs⟩ n1
          · rfl
        have r3 := r2 (.inl s1)
        obtain ⟨m1, m2⟩ := mid_sm (d := D * D * 2) (hl.sm h3.1) (hh.sm h3.2) hM (Int.le_refl _) hD2 (by omega) (Int.le_trans (Int.mul_le_mul_of_nonneg_right (show M ≤ M + 1 by omega) (by omega)) hMd)
        refine ⟨m1.mono (Int.le_refl _) (by omega), fun _ => ?_, fun _ => ?_⟩
        · split <;> grind
        · split <;> grind
      · rename_i n3
        split
        · rename_i h1
          have h2 : h.is = false := by
            cases hs : h.is
            · rfl
            · exact absurd ⟨h1, hs⟩ n3
          obtain ⟨m1, m2⟩ := shift_sm (c := 1) (m := 1) (d := D * D * 2) (hl.sm h1) hM (by omega) hDD hD2 hM2 hMd
          refine ⟨m1, fun _ => ?_, fun hh2 => by rw [h2] at hh2; cases hh2⟩
          rw [m2]
          split <;> grind
        · rename_i n4
          have h1 : l.is = false := by simpa using n4
          split
          · rename_i h2
            obtain ⟨m1, m2⟩ := shift_sm (c := -1) (m := 1) (d := D * D * 2) (hh.sm h2) hM (by omega) hDD hD2 hM2 hMd
            refine ⟨m1, fun hh2 => absurd hh2 (by rw [h1]; decide), fun _ => ?_⟩
            rw [m2]
            split <;> grind
          · rename_i n5
            have h2 : h.is = false := by simpa using n5
            refine ⟨⟨by decide, by simp only; omega, by simp only; omega, by simp only; omega⟩, fun hh2 => absurd hh2 (by rw [h1]; decide), fun hh2 => absurd hh2 (by rw [h2]; decide)⟩
theorem ends_ok {n : Nat} {C : List Int} {so : List Rt} {D M Dr Mr : Int} (hso : ∀ j, j < so.length → Sm Dr Mr (so[j]?.getD ⟨0, 1⟩)) (hMr : 0 ≤ Mr) (hDr : Dr ≤ D) (hD : D ≤ 1048576) (hMM : Mr + 288230376151711744 ≤ M) (hM2 : M < 2305843009213693952) (hMd : M * D ≤ 9223372036854775807)
    (hb : ∀ j, j < so.length → lim 288230376151711744 (C[j * n + so.length]?.getD 0) ∧ lim 288230376151711744 (C[so.length * n + j]?.getD 0)) : ∀ k, k ≤ so.length →
    (EOk D M (fun r b => ∃ j, j < so.length ∧ r = v (so[j]?.getD ⟨0, 1⟩) ∧ b = C[j * n + so.length]?.getD 0) 1 (ends n C so k).1 ∧ ∀ x, loQ (ends n C so k).1 x ↔ ∀ j, j < k → satO (v (so[j]?.getD ⟨0, 1⟩) - x) (ob (C[j * n + so.length]?.getD 0))) ∧
    (EOk D M (fun r b => ∃ j, j < so.length ∧ r = v (so[j]?.getD ⟨0, 1⟩) ∧ b = C[so.length * n + j]?.getD 0) (-1) (ends n C so k).2 ∧ ∀ x, hiQ (ends n C so k).2 x ↔ ∀ j, j < k → satO (x - v (so[j]?.getD ⟨0, 1⟩)) (ob (C[so.length * n + j]?.getD 0)))
  | 0, _ => by
    exact ⟨⟨⟨fun h => by simp [ends, End.none] at h, fun h => by simp [ends, End.none] at h⟩, fun x => ⟨fun _ j hj => by omega, fun _ h => by simp [ends, End.none] at h⟩⟩, ⟨⟨fun h => by simp [ends, End.none] at h, fun h => by simp [ends, End.none] at h⟩, fun x => ⟨fun _ j hj => by omega, fun _ h => by simp [ends, End.none] at h⟩⟩⟩
  | k + 1, hk => by
    obtain ⟨⟨l1, l2⟩, ⟨h1, h2⟩⟩ := ends_ok hso hMr hDr hD hMM hM2 hMd hb k (by omega)
    obtain ⟨a1, a2⟩ := near_lo l1 (hso k (by omega)) hMr hDr hD hMM hM2 hMd (hb k (by omega)).1 ⟨k, by omega, rfl, rfl⟩
    obtain ⟨b1, b2⟩ := near_hi h1 (hso k (by omega)) hMr hDr hD hMM hM2 hMd (hb k (by omega)).2 ⟨k, by omega, rfl, rfl⟩
    have key : ∀ (p : Nat → Prop), (∀ j, j < k + 1 → p j) ↔ ((∀ j, j < k → p j) ∧ p k) := fun p => by
      constructor
      · exact fun h => ⟨fun j hj => h j (by omega), h k (by omega)⟩
      · rintro ⟨h, h'⟩ j hj
        rcases Nat.lt_succ_iff_lt_or_eq.1 hj with hj | rfl
        · exact h j hj
        · exact h'
    refine ⟨⟨a1, fun x => ?_⟩, ⟨b1, fun x => ?_⟩⟩
    · show loQ (nearer _ _ _ 1) x ↔ _
      rw [a2, l2, key (fun j => satO (v (so[j]?.getD ⟨0, 1⟩) - x) (ob (C[j * n + so.length]?.getD 0)))]
    · show hiQ (nearer _ _ _ (-1)) x ↔ _
      rw [b2, h2, key (fun j => satO (x - v (so[j]?.getD ⟨0, 1⟩)) (ob (C[so.length * n + j]?.getD 0)))]
theorem pick_ok {N : Nat} {C : List Int} {so : List Rt} {D M : Int} (hC : Clo N C) (hlim : ∀ i j, i < N → j < N → lim 288230376151711744 (C[i * N + j]?.getD 0)) (hm : so.length < N) (hso : ∀ j, j < so.length → Sm D M (so[j]?.getD ⟨0, 1⟩))
    (hf : ∀ i j, i < so.length → j < so.length → satO (v (so[i]?.getD ⟨0, 1⟩) - v (so[j]?.getD ⟨0, 1⟩)) (mx N C i j)) (hM : 0 ≤ M) (hD : 1 ≤ D) (hD2 : D * D * 2 ≤ 1048576) (hM2 : M + 288230376151711744 + 1 < 2305843009213693952) (hMd : (M + 288230376151711744 + 1) * (D * D * 2) ≤ 9223372036854775807) :
    Sm (D * D * 2) (M + 288230376151711744 + 1) (pick N C so) ∧ ∀ j, j < so.length → satO (v (so[j]?.getD ⟨0, 1⟩) - v (pick N C so)) (mx N C j so.length) ∧ satO (v (pick N C so) - v (so[j]?.getD ⟨0, 1⟩)) (mx N C so.length j) := by
  have hDD : D ≤ D * D * 2 := by
    have := Int.mul_le_mul_of_nonneg_right hD (show 0 ≤ D by omega)
    omega
  have hq : (M + 288230376151711744) * D ≤ 9223372036854775807 := Int.le_trans (Int.mul_le_mul (show M + 288230376151711744 ≤ M + 288230376151711744 + 1 by omega) hDD (by omega) (by omega)) hMd
  obtain ⟨⟨l1, l2⟩, ⟨h1, h2⟩⟩ := ends_ok (n := N) (C := C) (D := D) (M := M + 288230376151711744) hso hM (Int.le_refl _) (by omega) (Int.le_refl _) (by omega) hq (fun j hj => ⟨hlim j _ (by omega) hm, hlim _ j hm (by omega)⟩) so.length (Nat.le_refl _)
  have hc : ∀ r b r' b', (∃ j, j < so.length ∧ r = v (so[j]?.getD ⟨0, 1⟩) ∧ b = C[j * N + so.length]?.getD 0) → (∃ j, j < so.length ∧ r' = v (so[j]?.getD ⟨0, 1⟩) ∧ b' = C[so.length * N + j]?.getD 0) → b ≠ NO → b' ≠ NO → satO (r - r') (some (bsum b b')) := by
    rintro r b r' b' ⟨j, hj, rfl, rfl⟩ ⟨i, hi, rfl, rfl⟩ n1 n2
    have ht := hC.tri j i so.length (by omega) (by omega) hm
    have := satO_mono ht (hf j i hj hi)
    have e1 : mx N C j so.length = some (C[j * N + so.length]?.getD 0) := by unfold mx ob; rw [if_neg n1]
    have e2 : mx N C so.length i = some (C[so.length * N + i]?.getD 0) := by unfold mx ob; rw [if_neg n2]
    rw [e1, e2] at this
    exact this
  obtain ⟨c1, c2, c3⟩ := choose_ok l1 h1 hc hD hD2 (by omega) hM2 hMd
  exact ⟨c1, fun j hj => ⟨(l2 _).1 c2 j hj, (h2 _).1 c3 j hj⟩⟩
theorem picks_in {C : List Int} (hc : chk 3 C = 0) (hC : Clo 3 C) : ∃ t u : Rt, picks 3 C = ([t, u], 0) ∧ t.ok = true ∧ u.ok = true ∧ Fits 3 (mx 3 C) (tvs [t, u]) := by
  have hlen : C.length = 9 := hC.len
  have hlim : ∀ i j, i < 3 → j < 3 → lim 288230376151711744 (C[i * 3 + j]?.getD 0) := fun i j hi hj => chk_lim hc _ (by omega)
  have s0 : Sm 1 0 ⟨0, 1⟩ := ⟨by decide, by decide, by decide, by decide⟩
  have v0 : v ⟨0, 1⟩ = 0 := by
    show ((0 : Int) : Rat) / ((1 : Int) : Rat) = 0
    have h1 : ((1 : Int) : Rat) = 1 := rfl
    have h2 : ((0 : Int) : Rat) = 0 := rfl
    rw [h1, h2]; grind
  have d1 : ∀ i, i < 3 → satO 0 (mx 3 C i i) := fun i hi => by
    unfold mx ob
    rw [hC.diag i hi]
    exact satO_zero.2 (by omega)
  obtain ⟨a1, a2⟩ := pick_ok (so := [⟨0, 1⟩]) (D := 1) (M := 0) hC hlim (by decide) (fun j hj => by
      have hj : j < 1 := hj
      have e0 : j = 0 := by omega
      rw [e0]; exact s0)
    (fun i j hi hj => by
      have hi : i < 1 := hi
      have hj : j < 1 := hj
      have e0 : i = 0 := by omega
      have e1 : j = 0 := by omega
      rw [e0, e1, Rat.sub_self]; exact d1 0 (by decide)) (by decide) (by decide) (by decide) (by decide) (by decide)
  generalize ht : pick 3 C [⟨0, 1⟩] = t at *
  have b1 := a2 0 (by decide)
  have a1' : Sm 2 288230376151711745 t := a1
  have s0' := s0.mono (show (1 : Int) ≤ 2 by decide) (show (0 : Int) ≤ 288230376151711745 by decide)
  obtain ⟨c1, c2⟩ := pick_ok (so := [⟨0, 1⟩, t]) (D := 2) (M := 288230376151711745) hC hlim (by simp) (fun j hj => by
      have hj : j < 2 := hj
      have : j = 0 ∨ j = 1 := by omega
      rcases this with rfl | rfl
      · exact s0'
      · exact a1')
    (fun i j hi hj => by
      have hi : i < 2 := hi
      have hj : j < 2 := hj
      have : i = 0 ∨ i = 1 := by omega
      have : j = 0 ∨ j = 1 := by omega
      rcases ‹i = 0 ∨ _› with rfl | rfl <;> rcases ‹j = 0 ∨ _› with rfl | rfl
      · rw [Rat.sub_self]; exact d1 0 (by decide)
      · exact b1.1
      · exact b1.2
      · rw [Rat.sub_self]; exact d1 1 (by decide)) (by decide) (by decide) (by decide) (by decide) (by decide)
  generalize hu : pick 3 C [⟨0, 1⟩, t] = u at *
  have b2 := c2 0 (by simp)
  have b3 := c2 1 (by simp)
  have hp : picked 3 C = [t, u] := by
    unfold picked
    show (sofar 3 C 2).drop 1 = _
    simp only [sofar, List.singleton_append, List.cons_append, List.nil_append, ht, hu, List.drop_succ_cons, List.drop_zero]
  refine ⟨t, u, ?_, a1.ok, c1.ok, ?_⟩
  · unfold picks
    rw [if_pos hc]
    have e3 : Int.toNat 3 = 3 := rfl
    rw [e3, hC.close]
    simp only [hp]
  · intro i j hi hj
    have : i = 0 ∨ i = 1 ∨ i = 2 := by omega
    have : j = 0 ∨ j = 1 ∨ j = 2 := by omega
    rcases ‹i = 0 ∨ _› with rfl | rfl | rfl <;> rcases ‹j = 0 ∨ _› with rfl | rfl | rfl
    · rw [Rat.sub_self]; exact d1 0 (by decide)
    · exact b1.1
    · exact b2.1
    · exact b1.2
    · rw [Rat.sub_self]; exact d1 1 (by decide)
    · exact b3.1
    · exact b2.2
    · exact b3.2
    · rw [Rat.sub_self]; exact d1 2 (by decide)
end Incl
end Go.Proofs.YtjbhpfmnfdebkaaGreat

namespace Go.Proofs.YtjbhpfmnfdebkaaGreat
set_option linter.unusedVariables false
set_option linter.unusedSimpArgs false
set_option maxRecDepth 100000
open Go.RowKit Go.Proofs.YtjbhpfmnfdebkaaGreat.Eng Enc

namespace Zo
theorem clo {z : Zn} (h : chk z = 0) : Dbm.chk 3 (matL z) = 0 ∧ Dbm.Clo 3 (matL z) := by
  have hk := chk_eq.1 h
  unfold Dbm.close at hk
  split at hk
  · rename_i h0
    split at hk
    · rename_i C hC
      have : C = matL z := by simpa using hk
      subst this
      exact ⟨h0, Dbm.close_clo h0 hC⟩
    · simp at hk
  · simp at hk
def pick (z : Zn) : Pt × Int := if chk z = 0 then (match (Incl.picks 3 (matL z)).1 with | [t, u] => (⟨t, u⟩, 0) | _ => (⟨⟨0, 0⟩, ⟨0, 0⟩⟩, 0)) else (⟨⟨0, 0⟩, ⟨0, 0⟩⟩, 8)
end Zo
namespace Cv
def witness (z : Zn) (l : List Zn) : Pt × Int :=
  if checked [l, [z]] = 0 then (if (Mi.left z l).2 = 0 then (match (Mi.left z l).1 with | [] => (⟨⟨0, 0⟩, ⟨0, 0⟩⟩, 6) | x :: _ => Zo.pick x) else (⟨⟨0, 0⟩, ⟨0, 0⟩⟩, (Mi.left z l).2)) else (⟨⟨0, 0⟩, ⟨0, 0⟩⟩, checked [l, [z]])
end Cv
end Go.Proofs.YtjbhpfmnfdebkaaGreat

namespace Go.Proofs.YtjbhpfmnfdebkaaGreat
set_option linter.unusedVariables false
namespace Cv
def of (lo hi : Int) : Zn := (Zo.make ⟨lo, false, hi, false, false⟩ ⟨0, false, 4, false, false⟩ ⟨0, true, 0, false, true⟩).1
end Cv
namespace Cv
def among (l : List Zn) (p : Pt) : Bool × Bool := if l.any (fun b => decide ((Zo.has b p).2 ≠ 0)) = true then (false, false) else (l.any (fun b => (Zo.has b p).1), true)
end Cv
end Go.Proofs.YtjbhpfmnfdebkaaGreat

namespace Go.Proofs.YtjbhpfmnfdebkaaGreat
set_option linter.unusedVariables false
set_option linter.unusedSimpArgs false
open Go.RowKit Go.Proofs.YtjbhpfmnfdebkaaGreat.Eng Enc
namespace Mi
open Dbm
def Fz (z : Zn) (t : Nat → Rat) : Prop := Fits 3 (mx 3 (Zo.matL z)) t
def dif (i : Nat) (t : Nat → Rat) : Rat := if i = 0 then t 1 - t 0 else if i = 1 then t 0 - t 1 else if i = 2 then t 2 - t 0 else if i = 3 then t 0 - t 2 else if i = 4 then t 2 - t 1 else t 1 - t 2
theorem six {k : Nat} (h : k < 6) : k = 0 ∨ k = 1 ∨ k = 2 ∨ k = 3 ∨ k = 4 ∨ k = 5 := by omega
theorem fz_iff (z : Zn) (t : Nat → Rat) : Fz z t ↔ ∀ i, i < 6 → satO (dif i t) (ob (Zo.get z i)) := by
  have o1 : ob 1 = some 1 := by decide
  constructor
  · intro h i hi
    rcases six hi with rfl | rfl | rfl | rfl | rfl | rfl
    · exact h 1 0 (by decide) (by decide)
    · exact h 0 1 (by decide) (by decide)
    · exact h 2 0 (by decide) (by decide)
    · exact h 0 2 (by decide) (by decide)
    · exact h 2 1 (by decide) (by decide)
    · exact h 1 2 (by decide) (by decide)
  · intro h i j hi hj
    have : i = 0 ∨ i = 1 ∨ i = 2 := by omega
    have : j = 0 ∨ j = 1 ∨ j = 2 := by omega
    rcases ‹i = 0 ∨ _› with rfl | rfl | rfl <;> rcases ‹j = 0 ∨ _› with rfl | rfl | rfl
    · rw [Rat.sub_self]; show satO 0 (ob 1); rw [o1]; exact satO_zero.2 (by omega)
    · exact h 1 (by decide)
    · exact h 3 (by decide)
    · exact h 0 (by decide)
    · rw [Rat.sub_self]; show satO 0 (ob 1); rw [o1]; exact satO_zero.2 (by omega)
    · exact h 5 (by decide)
    · exact h 2 (by decide)
    · exact h 4 (by decide)
    · rw [Rat.sub_self]; show satO 0 (ob 1); rw [o1]; exact satO_zero.2 (by omega)
theorem satO_min (d : Rat) (x b : Int) : (x = NO ∨ x < NO) → (b = NO ∨ b < NO) → (satO d (ob (min x b)) ↔ satO d (ob x) ∧ satO d (ob b)) := by
  intro hx hb
  have mono : ∀ u v : Int, u ≤ v → (v = NO ∨ v < NO) → satO d (ob u) → satO d (ob v) := fun u v huv hv h => by
    refine satO_mono ?_ h
    unfold ob
    split
    · rename_i hu
      have : v = NO := by omega
      rw [if_pos this]; trivial
    · split
      · trivial
      · exact huv
  rcases Int.le_total x b with h | h
  · rw [Int.min_eq_left h]
    exact ⟨fun k => ⟨k, mono _ _ h hb k⟩, fun k => k.1⟩
  · rw [Int.min_eq_right h]
    exact ⟨fun k => ⟨mono _ _ h hx k, k⟩, fun k => k.2⟩
theorem get_set (z : Zn) {i j : Nat} (hi : i < 6) (hj : j < 6) (x : Int) : Zo.get (Zo.set z i x) j = if j = i then x else Zo.get z j := by
  rcases six hi with rfl | rfl | rfl | rfl | rfl | rfl <;> rcases six hj with rfl | rfl | rfl | rfl | rfl | rfl <;> rfl
theorem lim_lt {m b : Int} (h : lim m b) (hm : m ≤ 2305843009213693951) : b = NO ∨ b < NO := by
  rcases h with h | h
  · exact .inl h
  · right; unfold NO; omega
theorem get_lim {z : Zn} (h : chk 3 (Zo.matL z) = 0) {i : Nat} (hi : i < 6) : lim 288230376151711744 (Zo.get z i) := by
  have g : ∀ q, q < 9 → lim 288230376151711744 ((Zo.matL z)[q]?.getD 0) := fun q hq => chk_lim h q hq
  rcases six hi with rfl | rfl | rfl | rfl | rfl | rfl
  · exact g 3 (by decide)
  · exact g 1 (by decide)
  · exact g 6 (by decide)
  · exact g 2 (by decide)
  · exact g 7 (by decide)
  · exact g 5 (by decide)
theorem cut_fz {z : Zn} (hz : chk 3 (Zo.matL z) = 0) {i : Nat} (hi : i < 6) {b : Int} (hb : b = NO ∨ b < NO) (t : Nat → Rat) : Fz (cut z i b) t ↔ Fz z t ∧ satO (dif i t) (ob b) := by
  have hm := satO_min (dif i t) (Zo.get z i) b (lim_lt (get_lim hz hi) (by omega)) hb
  rw [fz_iff, fz_iff]
  unfold cut
  constructor
  · intro h
    have hi' := h i hi
    rw [get_set z hi hi, if_pos rfl] at hi'
    refine ⟨fun j hj => ?_, (hm.1 hi').2⟩
    by_cases e : j = i
    · subst e; exact (hm.1 hi').1
    · have := h j hj
      rwa [get_set z hi hj, if_neg e] at this
  · rintro ⟨h1, h2⟩ j hj
    rw [get_set z hi hj]
    by_cases e : j = i
    · subst e; rw [if_pos rfl]; exact hm.2 ⟨h1 j hj, h2⟩
    · rw [if_neg e]; exact h1 j hj
theorem of_ok {L : List Int} (h : (Zo.of 3 L).2 = 0) : Zo.chk (Zo.of 3 L).1 = 0 ∧ ∀ t, Fz (Zo.of 3 L).1 t ↔ Fits 3 (mx 3 L) t := by
  unfold Zo.of at h ⊢
  by_cases h0 : chk 3 L = 0
  case neg => rw [if_neg h0] at h; cases h
  rw [if_pos h0, if_pos rfl] at h ⊢
  have hcl : close 3 L = (match closeL 3 L with | some L' => (3, L', 0) | none => (0, [], 6)) := by unfold close; rw [if_pos h0]; rfl
  cases hC : closeL 3 L with
  | none => rw [hC] at hcl; rw [hcl] at h; rw [if_neg (by decide)] at h; cases h
  | some C =>
    rw [hC] at hcl
    rw [hcl] at h ⊢
    rw [if_pos rfl] at h ⊢
    unfold Zo.told at h ⊢
    by_cases h1 : chk 3 C = 0
    case neg =>
      have : (if chk 3 C = 0 then (Zo.ofL C, (0 : Int)) else (Zo.nought, 8)).2 = 0 := h
      rw [if_neg h1] at this; cases this
    have e1 : (if chk 3 C = 0 then (Zo.ofL C, (0 : Int)) else (Zo.nought, 8)) = (Zo.ofL C, 0) := if_pos h1
    show Zo.chk (if chk 3 C = 0 then (Zo.ofL C, (0 : Int)) else (Zo.nought, 8)).1 = 0 ∧ ∀ t, Fz (if chk 3 C = 0 then (Zo.ofL C, (0 : Int)) else (Zo.nought, 8)).1 t ↔ _
    rw [e1]
    have clo := close_clo h0 hC
    have hm : Zo.matL (Zo.ofL C) = C := by
      have hlen : C.length = 9 := clo.len
      have d0 := clo.diag 0 (by decide)
      have d1 := clo.diag 1 (by decide)
      have d2 := clo.diag 2 (by decide)
      match C, hlen with
      | [c0, c1, c2, c3, c4, c5, c6, c7, c8], _ =>
        simp at d0 d1 d2
        subst d0; subst d1; subst d2
        rfl
    refine ⟨?_, fun t => ?_⟩
    · unfold Zo.chk
      rw [hm]
      have : close 3 C = (3, C, 0) := by
        unfold close
        rw [if_pos h1]
        show (match closeL 3 C with | some L' => ((3 : Int), L', (0 : Int)) | none => (0, [], 6)) = _
        rw [clo.close]
      rw [if_pos this]
    · unfold Fz
      rw [hm]
      exact close_fits h0 hC t
theorem wth_ok {z : Zn} (hz : chk 3 (Zo.matL z) = 0) {i : Nat} (hi : i < 6) {b : Int} (hb : b = NO ∨ b < NO) (h : (wth z i b).2 = 0) : Zo.chk (wth z i b).1 = 0 ∧ ∀ t, Fz (wth z i b).1 t ↔ Fz z t ∧ satO (dif i t) (ob b) := by
  unfold wth at h ⊢
  by_cases h0 : chk 3 (Zo.matL (cut z i b)) = 0
  case neg => rw [if_neg h0] at h; cases h
  rw [if_pos h0] at h ⊢
  obtain ⟨h1, h2⟩ := of_ok h
  exact ⟨h1, fun t => (h2 t).trans (cut_fz hz hi hb t)⟩
theorem dif_other {i : Nat} (hi : i < 6) (t : Nat → Rat) : dif (other i) t = - dif i t := by
  rcases six hi with rfl | rfl | rfl | rfl | rfl | rfl <;> simp [dif, other] <;> grind
theorem not_lt {b : Int} (h : (Bd.not b).2 = 0) (hl : lim 288230376151711744 b) : b ≠ NO ∧ (Bd.not b).1 < NO ∧ ∀ d : Rat, satO (-d) (ob (Bd.not b).1) ↔ ¬ satO d (ob b) := by
  unfold Bd.not at h ⊢
  by_cases hn : b = NO
  · subst hn
    rw [Incl.value_no] at h
    rw [if_neg (by decide)] at h; cases h
  rw [Incl.value_of hl hn] at h ⊢
  simp only [if_true] at h ⊢
  have hb := hl.resolve_left hn
  have hok : Num.okB (-(b / 2)) = true := Num.okB_iff.2 (by omega)
  unfold Bd.made at h ⊢
  rw [if_pos hok] at h ⊢
  simp only
  refine ⟨hn, ?_, fun d => ?_⟩
  · unfold Bd.mk NO; split <;> omega
  · have hob : ob b = some b := by unfold ob; rw [if_neg hn]
    rw [hob]
    have hm : Bd.mk (-(b / 2)) (!Bd.st b) < NO ∧ -1000000000000000000 ≤ Bd.mk (-(b / 2)) (!Bd.st b) := by unfold Bd.mk NO; split <;> omega
    have hob2 : ob (Bd.mk (-(b / 2)) (!Bd.st b)) = some (Bd.mk (-(b / 2)) (!Bd.st b)) := by unfold ob; rw [if_neg (by omega)]
    rw [hob2]
    simp only [satO]
    cases hs : Bd.st b
    · have e1 : Bd.mk (-(b / 2)) (!false) = -(b / 2) * 2 := rfl
      have e2 : Bd.st (-(b / 2) * 2) = true := (st_iff _).2 (by omega)
      have e3 : -(b / 2) * 2 / 2 = -(b / 2) := by omega
      rw [e1, e2, e3, Rat.intCast_neg]
      simp only [Bool.false_eq_true, if_true, if_false]
      constructor <;> intro h <;> grind
    · have e1 : Bd.mk (-(b / 2)) (!true) = -(b / 2) * 2 + 1 := rfl
      have e2 : Bd.st (-(b / 2) * 2 + 1) = false := by
        cases hh : Bd.st (-(b / 2) * 2 + 1)
        · rfl
        · have := (st_iff _).1 hh; omega
      have e3 : (-(b / 2) * 2 + 1) / 2 = -(b / 2) := by omega
      rw [e1, e2, e3, Rat.intCast_neg]
      simp only [Bool.false_eq_true, if_true, if_false]
      constructor <;> intro h <;> grind
theorem go_ok {b : Zn} (hb : chk 3 (Zo.matL b) = 0) : ∀ (l : List Nat) (x : Zn), (∀ i, i ∈ l → i < 6) → chk 3 (Zo.matL x) = 0 → (∀ y, y ∈ go b l x → y.2 = 0) →
    ∀ y, y ∈ go b l x → Zo.chk y.1 = 0 ∧ ∀ t, Fz y.1 t → Fz x t ∧ ∃ i, i < 6 ∧ ¬ satO (dif i t) (ob (Zo.get b i))
  | [], x, _, _, _, y, hy => by simp [go] at hy
  | i :: l, x, hl, hx, h0, y, hy => by
    have hi := hl i (by simp)
    have hll : ∀ j, j ∈ l → j < 6 := fun j hj => hl j (by simp [hj])
    unfold go at h0 hy
    by_cases hn : (Bd.not (Zo.get b i)).2 ≠ 0
    · rw [if_pos hn] at h0 hy
      exact go_ok hb l x hll hx h0 y hy
    rw [if_neg hn] at h0 hy
    have hn : (Bd.not (Zo.get b i)).2 = 0 := by simpa using hn
    obtain ⟨n1, n2, n3⟩ := not_lt hn (get_lim hb hi)
    have ho : other i < 6 := by unfold other; split <;> omega
    rcases List.mem_append.1 hy with hy' | hy'
    · by_cases h6 : (wth x (other i) (Bd.not (Zo.get b i)).1).2 = 6
      · rw [if_pos h6] at hy'; simp at hy'
      · rw [if_neg h6] at hy'
        have e := List.mem_singleton.1 hy'
        have hz := h0 _ (by rw [if_neg h6]; exact List.mem_append.2 (.inl (List.mem_singleton.2 rfl)))
        obtain ⟨w1, w2⟩ := wth_ok hx ho (.inr n2) hz
        rw [e]
        refine ⟨w1, fun t ht => ?_⟩
        obtain ⟨k1, k2⟩ := (w2 t).1 ht
        rw [dif_other hi] at k2
        exact ⟨k1, i, hi, (n3 _).1 k2⟩
    · by_cases h6 : (wth x i (Zo.get b i)).2 = 6
      · rw [if_pos h6] at hy'; simp at hy'
      · rw [if_neg h6] at hy' h0
        have hz : (wth x i (Zo.get b i)).2 = 0 := by
          by_cases e : (wth x i (Zo.get b i)).2 = 0
          · exact e
          · exact h0 _ (List.mem_append.2 (.inr (List.mem_append.2 (.inl (by rw [if_neg e]; exact List.mem_singleton.2 rfl)))))
        rw [if_pos hz, List.nil_append] at hy' h0
        obtain ⟨w1, w2⟩ := wth_ok hx hi (lim_lt (get_lim hb hi) (by omega)) hz
        obtain ⟨g1, g2⟩ := go_ok hb l _ hll (Zo.clo w1).1 (fun y hy => h0 y (List.mem_append.2 (.inr hy))) y hy'
        refine ⟨g1, fun t ht => ?_⟩
        obtain ⟨k1, k2⟩ := g2 t ht
        exact ⟨((w2 t).1 k1).1, k2⟩
def Within (S : (Nat → Rat) → Prop) (l : List Zn) : Prop := ∀ z, z ∈ l → Zo.chk z = 0 ∧ ∀ t, Fz z t → S t
theorem minus_ok {a b : Zn} (ha : Zo.chk a = 0) (hb : Zo.chk b = 0) (h : (minus a b).2 = 0) : Within (fun t => Fz a t ∧ ¬ Fz b t) (minus a b).1 := by
  unfold minus at h ⊢
  rw [if_pos ⟨ha, hb⟩] at h ⊢
  cases hf : (parts a b).find? (fun x => decide (x.2 ≠ 0)) with
  | some x =>
    rw [hf] at h
    have := List.find?_some hf
    simp at this h
    exact absurd h this
  | none =>
    have h0 : ∀ y, y ∈ parts a b → y.2 = 0 := fun y hy => by have := List.find?_eq_none.1 hf y hy; simpa using this
    intro z hz
    simp only [List.mem_map] at hz
    obtain ⟨y, hy, rfl⟩ := hz
    obtain ⟨g1, g2⟩ := go_ok (Zo.clo hb).1 [0, 1, 2, 3, 4, 5] a (by simp) (Zo.clo ha).1 h0 y hy
    refine ⟨g1, fun t ht => ?_⟩
    obtain ⟨k1, i, hi, k2⟩ := g2 t ht
    exact ⟨k1, fun hbt => k2 ((fz_iff b t).1 hbt i hi)⟩
theorem inner_ok {b : Zn} (hb : Zo.chk b = 0) {A : (Nat → Rat) → Prop} : ∀ (out next : List Zn), Within A out → Within (fun t => A t ∧ ¬ Fz b t) next → (inner b out next).2 = 0 → Within (fun t => A t ∧ ¬ Fz b t) (inner b out next).1
  | [], next, _, hn, _ => hn
  | z :: t, next, ho, hn, h => by
    rw [inner_cons] at h ⊢
    by_cases h1 : (minus z b).2 ≠ 0
    · rw [if_pos h1] at h; exact absurd h h1
    rw [if_neg h1] at h ⊢
    by_cases h2 : 4096 < (next ++ (minus z b).1).length
    · rw [if_pos h2] at h; cases h
    rw [if_neg h2] at h ⊢
    obtain ⟨z1, z2⟩ := ho z (by simp)
    refine inner_ok hb t _ (fun y hy => ho y (by simp [hy])) (fun y hy => ?_) h
    rcases List.mem_append.1 hy with hy | hy
    · exact hn y hy
    · obtain ⟨k1, k2⟩ := minus_ok z1 hb (by simpa using h1) y hy
      exact ⟨k1, fun t ht => ⟨z2 t (k2 t ht).1, (k2 t ht).2⟩⟩
theorem outer_ok : ∀ (l out : List Zn) {A : (Nat → Rat) → Prop}, (∀ b, b ∈ l → Zo.chk b = 0) → Within A out → (outer l out).2 = 0 → Within (fun t => A t ∧ ∀ b, b ∈ l → ¬ Fz b t) (outer l out).1
  | [], out, A, _, ho, _ => fun z hz => ⟨(ho z hz).1, fun t ht => ⟨(ho z hz).2 t ht, by simp⟩⟩
  | b :: l, out, A, hl, ho, h => by
    rw [outer_cons] at h ⊢
    by_cases h1 : (inner b out []).2 ≠ 0
    · rw [if_pos h1] at h; exact absurd h h1
    rw [if_neg h1] at h ⊢
    have hi := inner_ok (hl b (by simp)) out [] ho (fun z hz => by simp at hz) (by simpa using h1)
    have ho' := outer_ok l _ (fun y hy => hl y (by simp [hy])) hi h
    intro z hz
    obtain ⟨k1, k2⟩ := ho' z hz
    refine ⟨k1, fun t ht => ?_⟩
    obtain ⟨⟨q1, q2⟩, q3⟩ := k2 t ht
    refine ⟨q1, fun y hy => ?_⟩
    rcases List.mem_cons.1 hy with rfl | hy
    · exact q2
    · exact q3 y hy
theorem left_ok {a : Zn} {l : List Zn} (h : (left a l).2 = 0) : Zo.chk a = 0 ∧ (∀ b, b ∈ l → Zo.chk b = 0) ∧ left a l = outer l [a] ∧ Within (fun t => Fz a t ∧ ∀ b, b ∈ l → ¬ Fz b t) (left a l).1 := by
  unfold left at h ⊢
  by_cases ha : Zo.chk a ≠ 0
  · rw [if_pos ha] at h; cases h
  rw [if_neg ha] at h ⊢
  have ha : Zo.chk a = 0 := by simpa using ha
  by_cases hl : l.any (fun b => decide (Zo.chk b ≠ 0)) = true
  · rw [if_pos hl] at h; cases h
  rw [if_neg hl] at h ⊢
  have hl : ∀ b, b ∈ l → Zo.chk b = 0 := fun b hb => by
    rcases Classical.em (Zo.chk b = 0) with e | e
    · exact e
    · exact absurd (List.any_eq_true.2 ⟨b, hb, by simpa using e⟩) hl
  exact ⟨ha, hl, rfl, outer_ok l [a] hl (fun z hz => by rw [List.mem_singleton.1 hz]; exact ⟨ha, fun t ht => ht⟩) h⟩
end Mi
theorem Zo.has_ok {z : Zn} {p : Pt} (hz : Zo.chk z = 0) (ht : p.t.ok = true) (hu : p.u.ok = true) : (Zo.has z p).2 = 0 ∧ ((Zo.has z p).1 = true ↔ Mi.Fz z (Dbm.tvs [p.t, p.u])) := by
  obtain ⟨c1, c2⟩ := Zo.clo hz
  have hT : ([p.t, p.u] : List Rt).all Rt.ok = true := by simp [ht, hu]
  unfold Zo.has
  rw [if_pos ⟨hz, ht, hu⟩]
  unfold Dbm.keeps
  rw [if_pos ⟨c1, hT⟩, if_pos (by simp)]
  exact ⟨rfl, Dbm.kept_fitsK (N := 3) (fun i j hi hj => Dbm.chk_limK c1 i j hi hj) hT⟩
theorem Zo.pick_ok {z : Zn} (hz : Zo.chk z = 0) : (Zo.pick z).2 = 0 ∧ (Zo.pick z).1.t.ok = true ∧ (Zo.pick z).1.u.ok = true ∧ Mi.Fz z (Dbm.tvs [(Zo.pick z).1.t, (Zo.pick z).1.u]) := by
  obtain ⟨c1, c2⟩ := Zo.clo hz
  obtain ⟨t, u, hp, ht, hu, hf⟩ := Incl.picks_in c1 c2
  unfold Zo.pick
  rw [if_pos hz, hp]
  exact ⟨rfl, ht, hu, hf⟩
namespace Cv
structure WitLaw (z : Zn) (l : List Zn) (more : Zn) : Prop where
  err : (in_ z l).2 ≠ 0 → (witness z l).2 = (in_ z l).2 ∧ (in_ z l).1 = false
  yes : (in_ z l).2 = 0 → (in_ z l).1 = true → (witness z l).2 = 6 ∧ ((in_ z (l ++ [more])).2 = 0 → (in_ z (l ++ [more])).1 = true)
  no : (in_ z l).2 = 0 → (in_ z l).1 = false → (witness z l).2 = 0 ∧ Zo.has z (witness z l).1 = (true, 0) ∧ among l (witness z l).1 = (false, true)
  ins : (witness z l).1.ins
theorem in_split (z : Zn) (l : List Zn) : (checked [l, [z]] ≠ 0 ∧ in_ z l = (false, checked [l, [z]])) ∨ (checked [l, [z]] = 0 ∧ in_ z l = (decide ((Mi.left z l).2 = 0) && decide ((Mi.left z l).1.length = 0), (Mi.left z l).2)) := by
  unfold in_
  by_cases h : checked [l, [z]] = 0
  · right; rw [if_pos h]; exact ⟨h, rfl⟩
  · left; rw [if_neg h]; exact ⟨h, rfl⟩
end Cv
end Go.Proofs.YtjbhpfmnfdebkaaGreat

namespace Go.Proofs.YtjbhpfmnfdebkaaGreat
set_option linter.unusedVariables false
set_option linter.unusedSimpArgs false
open Go.RowKit Go.Proofs.YtjbhpfmnfdebkaaGreat.Eng Enc
namespace Mi
open Dbm
theorem of_none {L : List Int} (h : (Zo.of 3 L).2 = 6) (t : Nat → Rat) : ¬ Fits 3 (mx 3 L) t := by
  intro ht
  unfold Zo.of at h
  by_cases h0 : chk 3 L = 0
  case neg => rw [if_neg h0] at h; cases h
  rw [if_pos h0, if_pos rfl] at h
  obtain ⟨C, hC⟩ := close_some h0 ht
  have hcl : close 3 L = (3, C, 0) := by
    unfold close; rw [if_pos h0]
    show (match closeL 3 L with | some L' => ((3 : Int), L', (0 : Int)) | none => (0, [], 6)) = _
    rw [hC]
  rw [hcl] at h
  rw [if_pos rfl] at h
  unfold Zo.told at h
  by_cases h1 : chk 3 C = 0
  · have : (if chk 3 C = 0 then (Zo.ofL C, (0 : Int)) else (Zo.nought, 8)).2 = 6 := h
    rw [if_pos h1] at this; cases this
  · have : (if chk 3 C = 0 then (Zo.ofL C, (0 : Int)) else (Zo.nought, 8)).2 = 6 := h
    rw [if_neg h1] at this; cases this
theorem wth_none {z : Zn} (hz : chk 3 (Zo.matL z) = 0) {i : Nat} (hi : i < 6) {b : Int} (hb : b = NO ∨ b < NO) (h : (wth z i b).2 = 6) (t : Nat → Rat) : ¬ (Fz z t ∧ satO (dif i t) (ob b)) := by
  unfold wth at h
  by_cases h0 : chk 3 (Zo.matL (cut z i b)) = 0
  case neg => rw [if_neg h0] at h; cases h
  rw [if_pos h0] at h
  intro ht
  exact of_none h t ((cut_fz hz hi hb t).2 ht)
theorem not_err {b : Int} (h : (Bd.not b).2 ≠ 0) (hl : lim 288230376151711744 b) : b = NO := by
  by_cases hn : b = NO
  · exact hn
  exfalso
  apply h
  unfold Bd.not
  rw [Incl.value_of hl hn]
  have hb := hl.resolve_left hn
  have hok : Num.okB (-(b / 2)) = true := Num.okB_iff.2 (by omega)
  simp only [if_true]
  unfold Bd.made
  rw [if_pos hok]
theorem go_all {b : Zn} (hb : chk 3 (Zo.matL b) = 0) : ∀ (l : List Nat) (x : Zn), (∀ i, i ∈ l → i < 6) → chk 3 (Zo.matL x) = 0 → (∀ y, y ∈ go b l x → y.2 = 0) →
    ∀ t, Fz x t → (∃ i, i ∈ l ∧ ¬ satO (dif i t) (ob (Zo.get b i))) → ∃ y, y ∈ go b l x ∧ Fz y.1 t
  | [], x, _, _, _, t, _, ⟨i, hi, _⟩ => by simp at hi
  | i :: l, x, hl, hx, h0, t, ht, hi0 => by
    have hi := hl i (by simp)
    have hll : ∀ j, j ∈ l → j < 6 := fun j hj => hl j (by simp [hj])
    unfold go at h0 ⊢
    by_cases hn : (Bd.not (Zo.get b i)).2 ≠ 0
    · rw [if_pos hn] at h0 ⊢
      have hno := not_err hn (get_lim hb hi)
      obtain ⟨j, hj, hs⟩ := hi0
      rcases List.mem_cons.1 hj with rfl | hj
      · exfalso; apply hs; rw [hno]; trivial
      · exact go_all hb l x hll hx h0 t ht ⟨j, hj, hs⟩
    rw [if_neg hn] at h0 ⊢
    have hn : (Bd.not (Zo.get b i)).2 = 0 := by simpa using hn
    obtain ⟨n1, n2, n3⟩ := not_lt hn (get_lim hb hi)
    have ho : other i < 6 := by unfold other; split <;> omega
    by_cases hs : satO (dif i t) (ob (Zo.get b i))
    · have h6 : (wth x i (Zo.get b i)).2 ≠ 6 := fun e => wth_none hx hi (lim_lt (get_lim hb hi) (by omega)) e t ⟨ht, hs⟩
      rw [if_neg h6] at h0 ⊢
      have hz : (wth x i (Zo.get b i)).2 = 0 := by
        by_cases e : (wth x i (Zo.get b i)).2 = 0
        · exact e
        · exact h0 _ (List.mem_append.2 (.inr (List.mem_append.2 (.inl (by rw [if_neg e]; exact List.mem_singleton.2 rfl)))))
      rw [if_pos hz, List.nil_append] at h0 ⊢
      obtain ⟨w1, w2⟩ := wth_ok hx hi (lim_lt (get_lim hb hi) (by omega)) hz
      obtain ⟨j, hj, hsj⟩ := hi0
      rcases List.mem_cons.1 hj with rfl | hj
      · exact absurd hs hsj
      obtain ⟨y, hy, hyt⟩ := go_all hb l _ hll (Zo.clo w1).1 (fun y hy => h0 y (List.mem_append.2 (.inr hy))) t ((w2 t).2 ⟨ht, hs⟩) ⟨j, hj, hsj⟩
      exact ⟨y, List.mem_append.2 (.inr hy), hyt⟩
    · have hsn : satO (dif (other i) t) (ob (Bd.not (Zo.get b i)).1) := by rw [dif_other hi]; exact (n3 _).2 hs
      have h6 : (wth x (other i) (Bd.not (Zo.get b i)).1).2 ≠ 6 := fun e => wth_none hx ho (.inr n2) e t ⟨ht, hsn⟩
      rw [if_neg h6] at h0 ⊢
      have hm : wth x (other i) (Bd.not (Zo.get b i)).1 ∈ [wth x (other i) (Bd.not (Zo.get b i)).1] ++ (if (wth x i (Zo.get b i)).2 = 6 then [] else (if (wth x i (Zo.get b i)).2 = 0 then [] else [wth x i (Zo.get b i)]) ++ go b l (wth x i (Zo.get b i)).1) := List.mem_append.2 (.inl (List.mem_singleton.2 rfl))
      obtain ⟨w1, w2⟩ := wth_ok hx ho (.inr n2) (h0 _ hm)
      exact ⟨_, hm, (w2 t).2 ⟨ht, hsn⟩⟩
theorem minus_all {a b : Zn} (ha : Zo.chk a = 0) (hb : Zo.chk b = 0) (h : (minus a b).2 = 0) {t : Nat → Rat} (ht : Fz a t) (hn : ¬ Fz b t) : ∃ y, y ∈ (minus a b).1 ∧ Fz y t := by
  unfold minus at h ⊢
  rw [if_pos ⟨ha, hb⟩] at h ⊢
  cases hf : (parts a b).find? (fun x => decide (x.2 ≠ 0)) with
  | some x =>
    rw [hf] at h
    have := List.find?_some hf
    simp at this h
    exact absurd h this
  | none =>
    have h0 : ∀ y, y ∈ parts a b → y.2 = 0 := fun y hy => by have := List.find?_eq_none.1 hf y hy; simpa using this
    have hex : ∃ i, i < 6 ∧ ¬ satO (dif i t) (ob (Zo.get b i)) := by
      apply Classical.byContradiction
      intro hall
      exact hn ((fz_iff b t).2 fun i hi => Classical.byContradiction fun hs => hall ⟨i, hi, hs⟩)
    obtain ⟨i, hi, hs⟩ := hex
    obtain ⟨y, hy, hyt⟩ := go_all (Zo.clo hb).1 [0, 1, 2, 3, 4, 5] a (by simp) (Zo.clo ha).1 h0 t ht ⟨i, by rcases six hi with rfl | rfl | rfl | rfl | rfl | rfl <;> simp, hs⟩
    exact ⟨y.1, List.mem_map.2 ⟨y, hy, rfl⟩, hyt⟩
theorem inner_all {b : Zn} (hb : Zo.chk b = 0) : ∀ (out next : List Zn), (∀ z, z ∈ out → Zo.chk z = 0) → (inner b out next).2 = 0 → ∀ t, ((∃ y, y ∈ next ∧ Fz y t) ∨ ((∃ y, y ∈ out ∧ Fz y t) ∧ ¬ Fz b t)) → ∃ y, y ∈ (inner b out next).1 ∧ Fz y t
  | [], next, _, _, t, h => by
    rcases h with h | ⟨⟨y, hy, _⟩, _⟩
    · exact h
    · simp at hy
  | z :: o, next, ho, h, t, hm => by
    rw [inner_cons] at h ⊢
    by_cases h1 : (minus z b).2 ≠ 0
    · rw [if_pos h1] at h; exact absurd h h1
    rw [if_neg h1] at h ⊢
    by_cases h2 : 4096 < (next ++ (minus z b).1).length
    · rw [if_pos h2] at h; cases h
    rw [if_neg h2] at h ⊢
    refine inner_all hb o _ (fun y hy => ho y (by simp [hy])) h t ?_
    rcases hm with ⟨y, hy, hyt⟩ | ⟨⟨y, hy, hyt⟩, hnb⟩
    · exact .inl ⟨y, List.mem_append.2 (.inl hy), hyt⟩
    · rcases List.mem_cons.1 hy with rfl | hy
      · obtain ⟨x, hx, hxt⟩ := minus_all (ho y (by simp)) hb (by simpa using h1) hyt hnb
        exact .inl ⟨x, List.mem_append.2 (.inr hx), hxt⟩
      · exact .inr ⟨⟨y, hy, hyt⟩, hnb⟩
theorem outer_all : ∀ (l out : List Zn), (∀ b, b ∈ l → Zo.chk b = 0) → (∀ b, b ∈ out → Zo.chk b = 0) → (outer l out).2 = 0 → ∀ t, (∃ y, y ∈ out ∧ Fz y t) → (∀ b, b ∈ l → ¬ Fz b t) → ∃ y, y ∈ (outer l out).1 ∧ Fz y t
  | [], out, _, _, _, t, h, _ => h
  | b :: l, out, hl, ho, h, t, hm, hn => by
    rw [outer_cons] at h ⊢
    by_cases h1 : (inner b out []).2 ≠ 0
    · rw [if_pos h1] at h; exact absurd h h1
    rw [if_neg h1] at h ⊢
    have hb := hl b (by simp)
    have hi := inner_ok hb (A := fun _ => True) out [] (fun z hz => ⟨ho z hz, fun _ _ => trivial⟩) (fun z hz => by simp at hz) (by simpa using h1)
    exact outer_all l _ (fun y hy => hl y (by simp [hy])) (fun y hy => (hi y hy).1) h t (inner_all hb out [] ho (by simpa using h1) t (.inr ⟨hm, hn b (by simp)⟩)) fun y hy => hn y (by simp [hy])
theorem left_all {a : Zn} {l : List Zn} (h : (left a l).2 = 0) {t : Nat → Rat} (ht : Fz a t) (hn : ∀ b, b ∈ l → ¬ Fz b t) : ∃ y, y ∈ (left a l).1 ∧ Fz y t := by
  obtain ⟨ha, hl, hlo, _⟩ := left_ok h
  rw [hlo] at h ⊢
  exact outer_all l [a] hl (fun b hb => by rw [List.mem_singleton.1 hb]; exact ha) h t ⟨a, by simp, ht⟩ hn
theorem fz_ex {z : Zn} (hz : Zo.chk z = 0) : ∃ t, Fz z t := ⟨_, (Zo.pick_ok hz).2.2.2⟩
end Mi
namespace Cv
open Mi
def Cov (z : Zn) (l : List Zn) : Prop := ∀ t, Fz z t → ∃ b, b ∈ l ∧ Fz b t
theorem Cov.mono {z : Zn} {l m : List Zn} (h : Cov z l) (hs : ∀ x, x ∈ l → x ∈ m) : Cov z m := fun t ht => by
  obtain ⟨b, hb, hbt⟩ := h t ht
  exact ⟨b, hs b hb, hbt⟩
theorem in_ok {z : Zn} {l : List Zn} (h : (in_ z l).2 = 0) : Zo.chk z = 0 ∧ (∀ b, b ∈ l → Zo.chk b = 0) ∧ ((in_ z l).1 = true ↔ Cov z l) := by
  rcases in_split z l with ⟨h0, e⟩ | ⟨h0, e⟩
  · rw [e] at h; exact absurd h h0
  rw [e] at h ⊢
  simp only at h
  obtain ⟨ha, hl, hlo, hw⟩ := left_ok h
  refine ⟨ha, hl, ?_⟩
  simp only [h, decide_true, Bool.true_and, decide_eq_true_eq]
  constructor
  · intro hlen t ht
    apply Classical.byContradiction
    intro hno
    obtain ⟨y, hy, _⟩ := left_all h ht fun b hb hbt => hno ⟨b, hb, hbt⟩
    rw [List.eq_nil_of_length_eq_zero hlen] at hy
    simp at hy
  · intro hc
    cases hx : (left z l).1 with
    | nil => rfl
    | cons x r =>
      exfalso
      obtain ⟨x1, x2⟩ := hw x (by rw [hx]; simp)
      obtain ⟨t, ht⟩ := fz_ex x1
      obtain ⟨q1, q2⟩ := x2 t ht
      obtain ⟨b, hb, hbt⟩ := hc t q1
      exact q2 b hb hbt
end Cv
end Go.Proofs.YtjbhpfmnfdebkaaGreat

namespace Go.Proofs.YtjbhpfmnfdebkaaGreat
set_option linter.unusedVariables false
set_option linter.unusedSimpArgs false
open Go.RowKit Go.Proofs.YtjbhpfmnfdebkaaGreat.Eng Enc
namespace Mi
open Dbm
def Sm (S : Int) (z : Zn) : Prop := ∀ k, k < 6 → Zo.get z k ≤ S
theorem mayC_iff {b : Int} : mayC b = true ↔ b = NO ∨ (-288230376151711744 ≤ b / 2 ∧ b / 2 ≤ 288230376151711744) := by
  unfold mayC NO
  simp
theorem of_sm {L : List Int} {S : Int} (h0 : chk 3 L = 0) (hS : 0 ≤ S ∧ S ≤ 288230376151711744) (h : ∀ i j, i < 3 → j < 3 → i ≠ j → L[i * 3 + j]?.getD 0 ≤ S) :
    (Zo.of 3 L).2 = 6 ∨ ((Zo.of 3 L).2 = 0 ∧ Clo 3 (Zo.matL (Zo.of 3 L).1) ∧ ∀ i j, i < 3 → j < 3 → i ≠ j → (Zo.matL (Zo.of 3 L).1)[i * 3 + j]?.getD 0 ≤ L[i * 3 + j]?.getD 0) := by
  unfold Zo.of
  rw [if_pos h0, if_pos rfl]
  have hcl : close 3 L = (match closeL 3 L with | some L' => (3, L', 0) | none => (0, [], 6)) := by unfold close; rw [if_pos h0]; rfl
  cases hC : closeL 3 L with
  | none => rw [hC] at hcl; rw [hcl]; left; rfl
  | some C =>
    right
    rw [hC] at hcl
    rw [hcl, if_pos rfl]
    obtain ⟨L1, a2, a3, inv, hl, hE⟩ := close_inv h0 hC
    have clo := close_clo h0 hC
    have low : ∀ i j, i < 3 → j < 3 → i ≠ j → C[i * 3 + j]?.getD 0 ≤ L[i * 3 + j]?.getD 0 ∧ C[i * 3 + j]?.getD 0 ≠ NO := fun i j hi hj hne => by
      have h1 := inv.low i j hi hj
      have h2 := h i j hi hj hne
      have hno : L[i * 3 + j]?.getD 0 ≠ NO := fun e => by rw [e] at h2; unfold NO at h2; omega
      have h3 : mx 3 L1 i j = some (L[i * 3 + j]?.getD 0) := by
        unfold mx ob
        rw [a3 i j hi hj, if_neg hne, if_neg hno]
      rw [h3] at h1
      cases hv : mx 3 C i j with
      | none => rw [hv] at h1; exact h1.elim
      | some v =>
        rw [hv] at h1
        obtain ⟨e1, e2⟩ := mx_some hv
        rw [e1]
        exact ⟨h1, e2⟩
    have hmay : ∀ i j, i < 3 → j < 3 → mayC (C[i * 3 + j]?.getD 0) = true := fun i j hi hj => by
      by_cases e : i = j
      · subst e
        rw [clo.diag i hi]; decide
      · obtain ⟨l1, l2⟩ := low i j hi hj e
        obtain ⟨l3, l4⟩ := low j i hj hi (fun h => e h.symm)
        have s1 := h i j hi hj e
        have s2 := h j i hj hi (fun h => e h.symm)
        have h3 := clo.tri i i j hi hi hj
        have m1 : mx 3 C i i = some 1 := by unfold mx; rw [clo.diag i hi]; rfl
        have m2 : mx 3 C i j = some (C[i * 3 + j]?.getD 0) := by unfold mx ob; rw [if_neg l2]
        have m3 : mx 3 C j i = some (C[j * 3 + i]?.getD 0) := by unfold mx ob; rw [if_neg l4]
        rw [m1, m2, m3] at h3
        have h4 : (1 : Int) ≤ bsum (C[i * 3 + j]?.getD 0) (C[j * 3 + i]?.getD 0) := h3
        have h5 := bsum_half (C[i * 3 + j]?.getD 0) (C[j * 3 + i]?.getD 0)
        exact mayC_iff.2 (.inr (by omega))
    have hlen : C.length = 9 := clo.len
    have h1 : chk 3 C = 0 := by
      refine chk_iff.2 ⟨by decide, by decide, by rw [hlen]; decide, ?_⟩
      rw [List.any_eq_false]
      intro b hb
      obtain ⟨q, hq, rfl⟩ := List.getElem_of_mem hb
      have := hmay (q / 3) (q % 3) (by omega) (by omega)
      rw [show q / 3 * 3 + q % 3 = q by omega, List.getElem?_eq_getElem hq] at this
      simpa using this
    have e1 : (Zo.told (3, C, (0 : Int)).2.1) = (Zo.ofL C, 0) := by unfold Zo.told; exact if_pos h1
    have hm : Zo.matL (Zo.ofL C) = C := by
      have d0 := clo.diag 0 (by decide)
      have d1 := clo.diag 1 (by decide)
      have d2 := clo.diag 2 (by decide)
      match C, hlen with
      | [c0, c1, c2, c3, c4, c5, c6, c7, c8], _ =>
        simp at d0 d1 d2
        subst d0; subst d1; subst d2
        rfl
    rw [e1]
    refine ⟨rfl, ?_, fun i j hi hj hne => ?_⟩
    · rw [hm]; exact clo
    · rw [hm]; exact (low i j hi hj hne).1
end Mi
end Go.Proofs.YtjbhpfmnfdebkaaGreat

namespace Go.Proofs.YtjbhpfmnfdebkaaGreat
set_option linter.unusedVariables false
set_option linter.unusedSimpArgs false
open Go.RowKit Go.Proofs.YtjbhpfmnfdebkaaGreat.Eng Enc
namespace Ky
open Dbm Mi
def fr (x : Rat) : Rat := x - (x.floor : Rat)
theorem fr_nonneg (x : Rat) : 0 ≤ fr x := by unfold fr; have := Rat.floor_le x; grind
theorem fr_lt (x : Rat) : fr x < 1 := by unfold fr; have := Rat.lt_floor_add_one x; rw [Rat.intCast_add] at this; have h : ((1 : Int) : Rat) = 1 := rfl; rw [h] at this; grind
theorem eq_fr (x : Rat) : x = (x.floor : Rat) + fr x := by unfold fr; grind
theorem le_key (x y : Rat) (c : Int) : x - y ≤ (c : Rat) ↔ x.floor - y.floor < c ∨ (x.floor - y.floor = c ∧ fr x ≤ fr y) := by
  have e1 := eq_fr x
  have e2 := eq_fr y
  have a1 := fr_nonneg x
  have a2 := fr_nonneg y
  have b1 := fr_lt x
  have b2 := fr_lt y
  have e3 : ((x.floor - y.floor : Int) : Rat) = (x.floor : Rat) - (y.floor : Rat) := Rat.intCast_sub ..
  rcases Int.lt_trichotomy (x.floor - y.floor) c with h | h | h
  · have h1 : ((x.floor - y.floor + 1 : Int) : Rat) ≤ (c : Rat) := by exact_mod_cast (by omega : x.floor - y.floor + 1 ≤ c)
    rw [Rat.intCast_add, e3] at h1
    have h2 : ((1 : Int) : Rat) = 1 := rfl
    rw [h2] at h1
    exact ⟨fun _ => .inl h, fun _ => by grind⟩
  · have h1 : ((x.floor - y.floor : Int) : Rat) = (c : Rat) := by rw [h]
    rw [e3] at h1
    constructor
    · intro k; exact .inr ⟨h, by grind⟩
    · rintro (k | ⟨_, k⟩)
      · omega
      · grind
  · have h1 : ((c + 1 : Int) : Rat) ≤ ((x.floor - y.floor : Int) : Rat) := by exact_mod_cast (by omega : c + 1 ≤ x.floor - y.floor)
    rw [Rat.intCast_add, e3] at h1
    have h2 : ((1 : Int) : Rat) = 1 := rfl
    rw [h2] at h1
    constructor
    · intro k; exfalso; grind
    · rintro (k | ⟨k, _⟩) <;> omega
theorem lt_key (x y : Rat) (c : Int) : x - y < (c : Rat) ↔ x.floor - y.floor < c ∨ (x.floor - y.floor = c ∧ fr x < fr y) := by
  have e1 := eq_fr x
  have e2 := eq_fr y
  have a1 := fr_nonneg x
  have a2 := fr_nonneg y
  have b1 := fr_lt x
  have b2 := fr_lt y
  have e3 : ((x.floor - y.floor : Int) : Rat) = (x.floor : Rat) - (y.floor : Rat) := Rat.intCast_sub ..
  rcases Int.lt_trichotomy (x.floor - y.floor) c with h | h | h
  · have h1 : ((x.floor - y.floor + 1 : Int) : Rat) ≤ (c : Rat) := by exact_mod_cast (by omega : x.floor - y.floor + 1 ≤ c)
    rw [Rat.intCast_add, e3] at h1
    have h2 : ((1 : Int) : Rat) = 1 := rfl
    rw [h2] at h1
    exact ⟨fun _ => .inl h, fun _ => by grind⟩
  · have h1 : ((x.floor - y.floor : Int) : Rat) = (c : Rat) := by rw [h]
    rw [e3] at h1
    constructor
    · intro k; exact .inr ⟨h, by grind⟩
    · rintro (k | ⟨_, k⟩)
      · omega
      · grind
  · have h1 : ((c + 1 : Int) : Rat) ≤ ((x.floor - y.floor : Int) : Rat) := by exact_mod_cast (by omega : c + 1 ≤ x.floor - y.floor)
    rw [Rat.intCast_add, e3] at h1
    have h2 : ((1 : Int) : Rat) = 1 := rfl
    rw [h2] at h1
    constructor
    · intro k; exfalso; grind
    · rintro (k | ⟨k, _⟩) <;> omega
theorem sat_key {x y x' y' : Rat} (h1 : x.floor - y.floor = x'.floor - y'.floor) (h2 : fr x ≤ fr y ↔ fr x' ≤ fr y') (h3 : fr y ≤ fr x ↔ fr y' ≤ fr x') (b : OB) : satO (x - y) b ↔ satO (x' - y') b := by
  cases b with
  | none => exact Iff.rfl
  | some v =>
    unfold satO
    simp only
    split
    · rw [lt_key, lt_key, h1]
      have : fr x < fr y ↔ fr x' < fr y' := by rw [← Rat.not_le, ← Rat.not_le, h3]
      rw [this]
    · rw [le_key, le_key, h1, h2]
structure Alike (t t' : Nat → Rat) : Prop where
  fl : ∀ i, i < 3 → (t i).floor - (t 0).floor = (t' i).floor - (t' 0).floor
  le : ∀ i j, i < 3 → j < 3 → (fr (t i) ≤ fr (t j) ↔ fr (t' i) ≤ fr (t' j))
theorem Alike.fz {t t' : Nat → Rat} (h : Alike t t') (z : Zn) : Fz z t ↔ Fz z t' := by
  constructor
  · intro k i j hi hj
    exact (sat_key (by have := h.fl i hi; have := h.fl j hj; omega) (h.le i j hi hj) (h.le j i hj hi) _).1 (k i j hi hj)
  · intro k i j hi hj
    exact (sat_key (by have := h.fl i hi; have := h.fl j hj; omega) (h.le i j hi hj) (h.le j i hj hi) _).2 (k i j hi hj)
theorem fr_int (n : Int) : fr (n : Rat) = 0 := by unfold fr; rw [Rat.floor_intCast]; grind
theorem fz_shift (z : Zn) (t : Nat → Rat) (c : Rat) : Fz z t ↔ Fz z (fun i => t i - c) := by
  unfold Fz Dbm.Fits
  constructor
  · intro h i j hi hj
    have := h i j hi hj
    rwa [show t i - c - (t j - c) = t i - t j by grind]
  · intro h i j hi hj
    have := h i j hi hj
    rwa [show t i - c - (t j - c) = t i - t j by grind] at this
theorem sixth_of {p q r : Rat} (hp : p = 0 ∨ p = 1/3 ∨ p = 1/2 ∨ p = 2/3) (hq : q = 0 ∨ q = 1/3 ∨ q = 1/2 ∨ q = 2/3) (hpq : (p = 1/2 → q = 0 ∨ q = 1/2) ∧ (q = 1/2 → p = 0 ∨ p = 1/2)) (h0 : 0 ≤ r) (h1 : r < 1) :
    ∃ g : Nat, g < 6 ∧ ((r ≤ p ↔ (g : Rat) / 6 ≤ p) ∧ (p ≤ r ↔ p ≤ (g : Rat) / 6) ∧ (r ≤ q ↔ (g : Rat) / 6 ≤ q) ∧ (q ≤ r ↔ q ≤ (g : Rat) / 6) ∧ (r ≤ 0 ↔ (g : Rat) / 6 ≤ 0)) := by
  have c0 : ((0 : Nat) : Rat) / 6 = 0 := by decide +kernel
  have c1 : ((1 : Nat) : Rat) / 6 = 1/6 := by decide +kernel
  have c2 : ((2 : Nat) : Rat) / 6 = 1/3 := by decide +kernel
  have c3 : ((3 : Nat) : Rat) / 6 = 1/2 := by decide +kernel
  have c4 : ((4 : Nat) : Rat) / 6 = 2/3 := by decide +kernel
  have c5 : ((5 : Nat) : Rat) / 6 = 5/6 := by decide +kernel
  by_cases e0 : r = 0
  · exact ⟨0, by omega, by rw [c0, e0]; exact ⟨Iff.rfl, Iff.rfl, Iff.rfl, Iff.rfl, Iff.rfl⟩⟩
  by_cases e1 : r = p
  · rcases hp with rfl | rfl | rfl | rfl
    · exact absurd e1 e0
    · exact ⟨2, by omega, by rw [c2, e1]; exact ⟨Iff.rfl, Iff.rfl, Iff.rfl, Iff.rfl, Iff.rfl⟩⟩
    · exact ⟨3, by omega, by rw [c3, e1]; exact ⟨Iff.rfl, Iff.rfl, Iff.rfl, Iff.rfl, Iff.rfl⟩⟩
    · exact ⟨4, by omega, by rw [c4, e1]; exact ⟨Iff.rfl, Iff.rfl, Iff.rfl, Iff.rfl, Iff.rfl⟩⟩
  by_cases e2 : r = q
  · rcases hq with rfl | rfl | rfl | rfl
    · exact absurd e2 e0
    · exact ⟨2, by omega, by rw [c2, e2]; exact ⟨Iff.rfl, Iff.rfl, Iff.rfl, Iff.rfl, Iff.rfl⟩⟩
    · exact ⟨3, by omega, by rw [c3, e2]; exact ⟨Iff.rfl, Iff.rfl, Iff.rfl, Iff.rfl, Iff.rfl⟩⟩
    · exact ⟨4, by omega, by rw [c4, e2]; exact ⟨Iff.rfl, Iff.rfl, Iff.rfl, Iff.rfl, Iff.rfl⟩⟩
  have hr0 : 0 < r := by grind
  by_cases l1 : r < 1/3
  · refine ⟨1, by omega, ?_⟩
    rw [c1]
    rcases hp with rfl | rfl | rfl | rfl <;> rcases hq with rfl | rfl | rfl | rfl <;> grind
  by_cases l2 : r < 2/3
  · by_cases l3 : r < 1/2
    · by_cases k : p = 1/2 ∨ q = 1/2
      · refine ⟨1, by omega, ?_⟩
        rw [c1]
        rcases hp with rfl | rfl | rfl | rfl <;> rcases hq with rfl | rfl | rfl | rfl <;> grind
      · refine ⟨3, by omega, ?_⟩
        rw [c3]
        rcases hp with rfl | rfl | rfl | rfl <;> rcases hq with rfl | rfl | rfl | rfl <;> grind
    · by_cases k : p = 1/2 ∨ q = 1/2
      · refine ⟨5, by omega, ?_⟩
        rw [c5]
        rcases hp with rfl | rfl | rfl | rfl <;> rcases hq with rfl | rfl | rfl | rfl <;> grind
      · refine ⟨3, by omega, ?_⟩
        rw [c3]
        rcases hp with rfl | rfl | rfl | rfl <;> rcases hq with rfl | rfl | rfl | rfl <;> grind
  · refine ⟨5, by omega, ?_⟩
    rw [c5]
    rcases hp with rfl | rfl | rfl | rfl <;> rcases hq with rfl | rfl | rfl | rfl <;> grind
theorem fl_add {n : Int} {g : Rat} (h0 : 0 ≤ g) (h1 : g < 1) : ((n : Rat) + g).floor = n ∧ fr ((n : Rat) + g) = g := by
  have hf : ((n : Rat) + g).floor = n := by
    apply Int.le_antisymm
    · have : ((n : Rat) + g).floor < n + 1 := Rat.floor_lt_iff.2 (by rw [Rat.intCast_add]; have h : ((1 : Int) : Rat) = 1 := rfl; rw [h]; grind)
      omega
    · exact Rat.le_floor_iff.2 (by grind)
  exact ⟨hf, by unfold fr; rw [hf]; grind⟩
end Ky
end Go.Proofs.YtjbhpfmnfdebkaaGreat

namespace Go.Proofs.YtjbhpfmnfdebkaaGreat
set_option linter.unusedVariables false
set_option linter.unusedSimpArgs false
set_option maxRecDepth 100000
open Go.RowKit Go.Proofs.YtjbhpfmnfdebkaaGreat.Eng Enc

theorem rfloor_any (a : Rt) (ha : a.ins) (w : World) :
    Calls Tryz.prog 93 #[.agg #[.int .i64 a.num, .int .i64 a.den]] w fun e w' => e = .returned (.tuple #[.int .i64 (Fr.floor a).1, .bool (Fr.floor a).2.1, .int .i64 (Fr.floor a).2.2]) ∧ Below w.heap.size w w' := by
  refine fun_eq 0 w Tryz.func93 (args := [.agg [.val (.int .i64 a.num), .val (.int .i64 a.den)]]) rfl rfl ?_
  refine NewI.mk fun b1 hb1 => ?_
  (first
    | (refine CallI.to1 (rcheck_any a.num a.den ha.1 ha.2) fun w2 => ?_)
    | (refine Branch.yes rfl ?_)
    | (refine Branch.no rfl ?_)
    | (refine Branch.mk (fun hb => ?_) (fun hb => ?_))
    | (refine NewI.mk fun nb hnb => ?_)
    | (refine Need.mk (by show _ ∧ _; omega) ?_)
    | (refine Need.mk (by omega) ?_)
    | (refine Need.mk ?_ ?_)
    | (refine EndI.mk fun w1 h1 => ?_))
  unfold Fr.floor
  refine Branch.mk (fun hc => ?_) (fun hc => ?_)
  · refine EndI.mk fun w3 h3 => ?_
    have hno : ¬ a.ok = true := fun h => by
      have : Fr.chk a.num a.den = 0 := Fr.chk_yes h
      rw [this] at hc; cases hc
    rw [if_neg hno]
    have : Fr.chk a.num a.den = 8 := Fr.chk_no (by cases h : Fr.okB a.num a.den; rfl; exact absurd h hno)
    rw [this]
  have hok : a.ok = true := Fr.chk_eq.1 (by simpa using hc)
  have oa := Fr.ok_bd hok
  rw [if_pos hok]
  (first
    | (refine CallI.to1 (floor_any a.num a.den oa.1 ha.1 ha.2) fun w2 => ?_)
    | (refine Branch.yes rfl ?_)
    | (refine Branch.no rfl ?_)
    | (refine Branch.mk (fun hb => ?_) (fun hb => ?_))
    | (refine NewI.mk fun nb hnb => ?_)
    | (refine Need.mk (by show _ ∧ _; omega) ?_)
    | (refine Need.mk (by omega) ?_)
    | (refine Need.mk ?_ ?_)
    | (refine EndI.mk fun w1 h1 => ?_))
  exact EndI.mk fun w3 h3 => rfl

theorem fits_any (long : Int) (w : World) : Calls Tryz.prog 87 #[.int .i64 long] w fun e w' => e = .returned (.bool (Rg.fits long)) ∧ Below w.heap.size w w' := by
  refine fun_eq 0 w Tryz.func87 (args := [.val (.int .i64 long)]) rfl rfl ?_
  unfold Rg.fits
  refine Branch.mk (fun hc => ?_) (fun hc => ?_)
  · refine EndI.mk fun w3 h3 => ?_
    have : decide (1 ≤ long) = true := hc
    rw [this]; rfl
  · refine EndI.mk fun w3 h3 => ?_
    have : decide (1 ≤ long) = false := hc
    rw [this]; rfl
theorem sides_any (long : Int) (h : 1 ≤ long ∧ long ≤ 16) (w : World) : Calls Tryz.prog 133 #[.int .i64 long] w fun e w' => e = .returned (.int .i64 (Rg.sides long)) ∧ Below w.heap.size w w' := by
  refine fun_eq 0 w Tryz.func133 (args := [.val (.int .i64 long)]) rfl rfl ?_
  refine Need.mk (by simp only [inK]; omega) ?_
  refine Need.mk (by simp only [inK]; omega) ?_
  exact EndI.mk fun w3 h3 => rfl
theorem many_any (long : Int) (w : World) : Calls Tryz.prog 67 #[.int .i64 long] w fun e w' => e = .returned (.tuple #[.int .i64 (Rg.many long).1, .int .i64 (Rg.many long).2]) ∧ Below w.heap.size w w' := by
  refine fun_eq 0 w Tryz.func67 (args := [.val (.int .i64 long)]) rfl rfl ?_
  (first
    | (refine CallI.to1 (fits_any long) fun w2 => ?_)
    | (refine Branch.yes rfl ?_)
    | (refine Branch.no rfl ?_)
    | (refine Branch.mk (fun hb => ?_) (fun hb => ?_))
    | (refine NewI.mk fun nb hnb => ?_)
    | (refine Need.mk (by show _ ∧ _; omega) ?_)
    | (refine Need.mk (by omega) ?_)
    | (refine Need.mk ?_ ?_)
    | (refine EndI.mk fun w1 h1 => ?_))
  unfold Rg.many
  refine Branch.mk (fun hc => ?_) (fun hc => ?_)
  · refine EndI.mk fun w3 h3 => ?_
    have : Rg.fits long = false := by simpa using hc
    rw [if_neg (by rw [this]; simp)]
  have hf : Rg.fits long = true := by simpa using hc
  have hl := Rg.fits_iff.1 hf
  rw [if_pos hf]
  have hs : 3 ≤ Rg.sides long ∧ Rg.sides long ≤ 33 := by unfold Rg.sides; omega
  (first
    | (refine CallI.to1 (sides_any long hl) fun w2 => ?_)
    | (refine Branch.yes rfl ?_)
    | (refine Branch.no rfl ?_)
    | (refine Branch.mk (fun hb => ?_) (fun hb => ?_))
    | (refine NewI.mk fun nb hnb => ?_)
    | (refine Need.mk (by show _ ∧ _; omega) ?_)
    | (refine Need.mk (by omega) ?_)
    | (refine Need.mk ?_ ?_)
    | (refine EndI.mk fun w1 h1 => ?_))
  refine Need.mk (by simp only [inK]; omega) ?_
  (first
    | (refine CallI.to1 (sides_any long hl) fun w2 => ?_)
    | (refine Branch.yes rfl ?_)
    | (refine Branch.no rfl ?_)
    | (refine Branch.mk (fun hb => ?_) (fun hb => ?_))
    | (refine NewI.mk fun nb hnb => ?_)
    | (refine Need.mk (by show _ ∧ _; omega) ?_)
    | (refine Need.mk (by omega) ?_)
    | (refine Need.mk ?_ ?_)
    | (refine EndI.mk fun w1 h1 => ?_))
  have hm := Fr.mul_bd (u := 3 * Rg.sides long) (v := Rg.sides long) (m := 99) (n := 33) (by omega) (by omega) (by omega) (by omega)
  refine Need.mk (by simp only [inK]; omega) ?_
  exact EndI.mk fun w3 h3 => rfl
theorem place_any (a : Rt) (ha : a.ins) (w : World) :
    Calls Tryz.prog 94 #[.agg #[.int .i64 a.num, .int .i64 a.den]] w fun e w' => e = .returned (.tuple #[.int .i64 (Rg.place a), .agg #[.int .i64 (Rg.part a).num, .int .i64 (Rg.part a).den]]) ∧ Below w.heap.size w w' := by
  refine fun_eq 0 w Tryz.func94 (args := [.agg [.val (.int .i64 a.num), .val (.int .i64 a.den)]]) rfl rfl ?_
  have hb := Rg.floor_bd a
  refine NewI.mk fun b1 hb1 => ?_
  refine NewI.mk fun b2 hb2 => ?_
  (first
    | (refine CallI.to1 (rfloor_any a ha) fun w2 => ?_)
    | (refine Branch.yes rfl ?_)
    | (refine Branch.no rfl ?_)
    | (refine Branch.mk (fun hb => ?_) (fun hb => ?_))
    | (refine NewI.mk fun nb hnb => ?_)
    | (refine Need.mk (by show _ ∧ _; omega) ?_)
    | (refine Need.mk (by omega) ?_)
    | (refine Need.mk ?_ ?_)
    | (refine EndI.mk fun w1 h1 => ?_))
  refine Need.mk (by simp only [inK]; omega) ?_
  (first
    | (refine CallI.to1 (rof_any (-(Fr.floor a).1) 1 (by simp only [inK]; omega) (by simp only [inK]; omega)) fun w2 => ?_)
    | (refine Branch.yes rfl ?_)
    | (refine Branch.no rfl ?_)
    | (refine Branch.mk (fun hb => ?_) (fun hb => ?_))
    | (refine NewI.mk fun nb hnb => ?_)
    | (refine Need.mk (by show _ ∧ _; omega) ?_)
    | (refine Need.mk (by omega) ?_)
    | (refine Need.mk ?_ ?_)
    | (refine EndI.mk fun w1 h1 => ?_))
  refine NewI.mk fun b3 hb3 => ?_
  (first
    | (refine CallI.to1 (radd_any a (Fr.of (-(Fr.floor a).1) 1).1 ha (Fr.of_ins (by simp only [inK]; omega))) fun w2 => ?_)
    | (refine Branch.yes rfl ?_)
    | (refine Branch.no rfl ?_)
    | (refine Branch.mk (fun hb => ?_) (fun hb => ?_))
    | (refine NewI.mk fun nb hnb => ?_)
    | (refine Need.mk (by show _ ∧ _; omega) ?_)
    | (refine Need.mk (by omega) ?_)
    | (refine Need.mk ?_ ?_)
    | (refine EndI.mk fun w1 h1 => ?_))
  refine NewI.mk fun b4 hb4 => ?_
  unfold Rg.place Rg.part
  refine Branch.mk (fun hc => ?_) (fun hc => ?_)
  · rw [if_pos (by simpa using hc)]
    refine DrawI.wr (.tk 0 (.tk 1 (.tk 2 (.tk 3 (.ev 4 .done))))) [1] [] (by kernel_rfl) rfl (by simp) fun w5 h5 => ?_
    refine Need.mk (by simp only [inK]; omega) ?_
    exact EndI.mk fun w3 h3 => rfl
  · rw [if_neg (by simpa using hc)]
    refine DrawI.wr (.tk 0 (.tk 1 (.tk 2 (.tk 3 (.tk 4 (.ev 5 .done)))))) [1] [] (by kernel_rfl) rfl (by simp) fun w5 h5 => ?_
    refine Need.mk (by simp only [inK]; omega) ?_
    refine Need.mk (by simp only [inK]; omega) ?_
    exact EndI.mk fun w3 h3 => rfl
theorem number_any (p : Pt) (long : Int) (hp : p.ins) (hl : 1 ≤ long ∧ long ≤ 16) (w : World) :
    Calls Tryz.prog 85 #[.agg #[.int .i64 p.t.num, .int .i64 p.t.den, .int .i64 p.u.num, .int .i64 p.u.den], .int .i64 long] w fun e w' => e = .returned (.int .i64 (Rg.number p long)) ∧ Below w.heap.size w w' := by
  refine fun_eq 0 w Tryz.func85 (args := [.agg [.val (.int .i64 p.t.num), .val (.int .i64 p.t.den), .val (.int .i64 p.u.num), .val (.int .i64 p.u.den)], .val (.int .i64 long)]) rfl rfl ?_
  refine NewI.mk fun b1 hb1 => ?_
  (first
    | (refine CallI.to1 (place_any p.t hp.1) fun w2 => ?_)
    | (refine Branch.yes rfl ?_)
    | (refine Branch.no rfl ?_)
    | (refine Branch.mk (fun hb => ?_) (fun hb => ?_))
    | (refine NewI.mk fun nb hnb => ?_)
    | (refine Need.mk (by show _ ∧ _; omega) ?_)
    | (refine Need.mk (by omega) ?_)
    | (refine Need.mk ?_ ?_)
    | (refine EndI.mk fun w1 h1 => ?_))
  refine NewI.mk fun b2 hb2 => ?_
  (first
    | (refine CallI.to1 (place_any p.u hp.2) fun w2 => ?_)
    | (refine Branch.yes rfl ?_)
    | (refine Branch.no rfl ?_)
    | (refine Branch.mk (fun hb => ?_) (fun hb => ?_))
    | (refine NewI.mk fun nb hnb => ?_)
    | (refine Need.mk (by show _ ∧ _; omega) ?_)
    | (refine Need.mk (by omega) ?_)
    | (refine Need.mk ?_ ?_)
    | (refine EndI.mk fun w1 h1 => ?_))
  refine NewI.mk fun b3 hb3 => ?_
  (first
    | (refine CallI.to1 (rcmp_any p.t p.u hp.1 hp.2) fun w2 => ?_)
    | (refine Branch.yes rfl ?_)
    | (refine Branch.no rfl ?_)
    | (refine Branch.mk (fun hb => ?_) (fun hb => ?_))
    | (refine NewI.mk fun nb hnb => ?_)
    | (refine Need.mk (by show _ ∧ _; omega) ?_)
    | (refine Need.mk (by omega) ?_)
    | (refine Need.mk ?_ ?_)
    | (refine EndI.mk fun w1 h1 => ?_))
  unfold Rg.number
  refine Branch.mk (fun hc => ?_) (fun hc => ?_)
  · refine EndI.mk fun w3 h3 => ?_
    rw [if_pos (.inl (by simpa using hc))]
  have hcmp : (Fr.cmp p.t p.u).1 < 0 := by have : ¬ 0 ≤ (Fr.cmp p.t p.u).1 := by simpa using hc
                                           omega
  refine Branch.mk (fun hc2 => ?_) (fun hc2 => ?_)
  · refine EndI.mk fun w3 h3 => ?_
    rw [if_pos (.inr (.inl (by simpa using hc2)))]
  have ht : ¬ Rg.place p.t < 0 := by simpa using hc2
  (first
    | (refine CallI.to1 (sides_any long hl) fun w2 => ?_)
    | (refine Branch.yes rfl ?_)
    | (refine Branch.no rfl ?_)
    | (refine Branch.mk (fun hb => ?_) (fun hb => ?_))
    | (refine NewI.mk fun nb hnb => ?_)
    | (refine Need.mk (by show _ ∧ _; omega) ?_)
    | (refine Need.mk (by omega) ?_)
    | (refine Need.mk ?_ ?_)
    | (refine EndI.mk fun w1 h1 => ?_))
  refine Branch.mk (fun hc3 => ?_) (fun hc3 => ?_)
  · refine EndI.mk fun w3 h3 => ?_
    rw [if_pos (.inr (.inr (by simpa using hc3)))]
  have hu : ¬ Rg.sides long ≤ Rg.place p.u := by simpa using hc3
  rw [if_neg (by omega)]
  have hpb := Rg.place_bd hcmp
  have hs : 3 ≤ Rg.sides long ∧ Rg.sides long ≤ 33 := by unfold Rg.sides; omega
  have hm := Fr.mul_bd (u := Rg.place p.t) (v := Rg.sides long) (m := 33) (n := 33) (by omega) (by omega) (by omega) (by omega)
  have hcc := Fr.cmp_cases (Rg.part p.t) (Rg.part p.u)
  unfold Rg.order
  refine Branch.mk (fun hc4 => ?_) (fun hc4 => ?_)
  · have ho : Rg.place p.t % 2 = 1 ∧ Rg.place p.u % 2 = 1 := (i64_and_odd _ _).1 (by simpa using hc4)
    rw [if_pos ho]
    (first
      | (refine CallI.to1 (rcmp_any (Rg.part p.t) (Rg.part p.u) (Rg.part_ins _) (Rg.part_ins _)) fun w2 => ?_)
      | (refine Branch.yes rfl ?_)
      | (refine Branch.no rfl ?_)
      | (refine Branch.mk (fun hb => ?_) (fun hb => ?_))
      | (refine NewI.mk fun nb hnb => ?_)
      | (refine Need.mk (by show _ ∧ _; omega) ?_)
      | (refine Need.mk (by omega) ?_)
      | (refine Need.mk ?_ ?_)
      | (refine EndI.mk fun w1 h1 => ?_))
    refine Need.mk (by simp only [inK]; omega) ?_
    (first
      | (refine CallI.to1 (sides_any long hl) fun w2 => ?_)
      | (refine Branch.yes rfl ?_)
      | (refine Branch.no rfl ?_)
      | (refine Branch.mk (fun hb => ?_) (fun hb => ?_))
      | (refine NewI.mk fun nb hnb => ?_)
      | (refine Need.mk (by show _ ∧ _; omega) ?_)
      | (refine Need.mk (by omega) ?_)
      | (refine Need.mk ?_ ?_)
      | (refine EndI.mk fun w1 h1 => ?_))
    refine Need.mk (by simp only [inK]; omega) ?_
    refine Need.mk (by simp only [inK]; omega) ?_
    refine Need.mk (by simp only [inK]; omega) ?_
    refine Need.mk (by simp only [inK]; omega) ?_
    exact EndI.mk fun w3 h3 => rfl
  · have ho : ¬ (Rg.place p.t % 2 = 1 ∧ Rg.place p.u % 2 = 1) := fun h => by
      have := (i64_and_odd _ _).2 h
      have h2 : ¬ bits .and .i64 (bits .and .i64 (Rg.place p.t) (Rg.place p.u)) 1 = 1 := by simpa using hc4
      exact h2 this
    rw [if_neg ho]
    (first
      | (refine CallI.to1 (sides_any long hl) fun w2 => ?_)
      | (refine Branch.yes rfl ?_)
      | (refine Branch.no rfl ?_)
      | (refine Branch.mk (fun hb => ?_) (fun hb => ?_))
      | (refine NewI.mk fun nb hnb => ?_)
      | (refine Need.mk (by show _ ∧ _; omega) ?_)
      | (refine Need.mk (by omega) ?_)
      | (refine Need.mk ?_ ?_)
      | (refine EndI.mk fun w1 h1 => ?_))
    refine Need.mk (by simp only [inK]; omega) ?_
    refine Need.mk (by simp only [inK]; omega) ?_
    refine Need.mk (by simp only [inK]; omega) ?_
    refine Need.mk (by simp only [inK]; omega) ?_
    exact EndI.mk fun w3 h3 => rfl
theorem gnumber_any (p : Pt) (long : Int) (hp : p.ins) (w : World) :
    Calls Tryz.prog 68 #[.agg #[.int .i64 p.t.num, .int .i64 p.t.den, .int .i64 p.u.num, .int .i64 p.u.den], .int .i64 long] w fun e w' => e = .returned (.tuple #[.int .i64 (Rg.askNumber p long).1, .int .i64 (Rg.askNumber p long).2]) ∧ Below w.heap.size w w' := by
  refine fun_eq 0 w Tryz.func68 (args := [.agg [.val (.int .i64 p.t.num), .val (.int .i64 p.t.den), .val (.int .i64 p.u.num), .val (.int .i64 p.u.den)], .val (.int .i64 long)]) rfl rfl ?_
  refine NewI.mk fun b1 hb1 => ?_
  (first
    | (refine CallI.to1 (fits_any long) fun w2 => ?_)
    | (refine Branch.yes rfl ?_)
    | (refine Branch.no rfl ?_)
    | (refine Branch.mk (fun hb => ?_) (fun hb => ?_))
    | (refine NewI.mk fun nb hnb => ?_)
    | (refine Need.mk (by show _ ∧ _; omega) ?_)
    | (refine Need.mk (by omega) ?_)
    | (refine Need.mk ?_ ?_)
    | (refine EndI.mk fun w1 h1 => ?_))
  unfold Rg.askNumber
  refine Branch.mk (fun hc => ?_) (fun hc => ?_)
  · refine EndI.mk fun w3 h3 => ?_
    have : Rg.fits long = false := by simpa using hc
    rw [if_neg (by rw [this]; simp)]
  have hf : Rg.fits long = true := by simpa using hc
  rw [if_pos hf]
  have okc : ∀ (a : Rt), Fr.chk a.num a.den = 0 ↔ a.ok = true := fun a => Fr.chk_eq
  (first
    | (refine CallI.to1 (rcheck_any p.t.num p.t.den hp.1.1 hp.1.2) fun w2 => ?_)
    | (refine Branch.yes rfl ?_)
    | (refine Branch.no rfl ?_)
    | (refine Branch.mk (fun hb => ?_) (fun hb => ?_))
    | (refine NewI.mk fun nb hnb => ?_)
    | (refine Need.mk (by show _ ∧ _; omega) ?_)
    | (refine Need.mk (by omega) ?_)
    | (refine Need.mk ?_ ?_)
    | (refine EndI.mk fun w1 h1 => ?_))
  refine Branch.mk (fun hc2 => ?_) (fun hc2 => ?_)
  · refine EndI.mk fun w3 h3 => ?_
    rw [if_neg (fun h => by rw [(okc _).2 h.1] at hc2; cases hc2)]
  (first
    | (refine CallI.to1 (rcheck_any p.u.num p.u.den hp.2.1 hp.2.2) fun w2 => ?_)
    | (refine Branch.yes rfl ?_)
    | (refine Branch.no rfl ?_)
    | (refine Branch.mk (fun hb => ?_) (fun hb => ?_))
    | (refine NewI.mk fun nb hnb => ?_)
    | (refine Need.mk (by show _ ∧ _; omega) ?_)
    | (refine Need.mk (by omega) ?_)
    | (refine Need.mk ?_ ?_)
    | (refine EndI.mk fun w1 h1 => ?_))
  refine Branch.mk (fun hc3 => ?_) (fun hc3 => ?_)
  · refine EndI.mk fun w3 h3 => ?_
    rw [if_neg (fun h => by rw [(okc _).2 h.2] at hc3; cases hc3)]
  rw [if_pos ⟨(okc _).1 (by simpa using hc2), (okc _).1 (by simpa using hc3)⟩]
  (first
    | (refine CallI.to1 (number_any p long hp (Rg.fits_iff.1 hf)) fun w2 => ?_)
    | (refine Branch.yes rfl ?_)
    | (refine Branch.no rfl ?_)
    | (refine Branch.mk (fun hb => ?_) (fun hb => ?_))
    | (refine NewI.mk fun nb hnb => ?_)
    | (refine Need.mk (by show _ ∧ _; omega) ?_)
    | (refine Need.mk (by omega) ?_)
    | (refine Need.mk ?_ ?_)
    | (refine EndI.mk fun w1 h1 => ?_))
  refine Branch.mk (fun hc4 => ?_) (fun hc4 => ?_)
  · refine EndI.mk fun w3 h3 => ?_
    rw [if_pos (by simpa using hc4)]
  · refine EndI.mk fun w3 h3 => ?_
    rw [if_neg (by simpa using hc4)]
theorem time_any (pl pa of_ : Int) (h : 0 ≤ pl ∧ pl ≤ 1000) (hp : 0 ≤ pa ∧ pa ≤ 10) (ho : 1 ≤ of_ ∧ of_ ≤ 10) (w : World) :
    Calls Tryz.prog 135 #[.int .i64 pl, .int .i64 pa, .int .i64 of_] w fun e w' => e = .returned (.agg #[.int .i64 (Rg.time pl pa of_).num, .int .i64 (Rg.time pl pa of_).den]) ∧ Below w.heap.size w w' := by
  refine fun_eq 0 w Tryz.func135 (args := [.val (.int .i64 pl), .val (.int .i64 pa), .val (.int .i64 of_)]) rfl rfl ?_
  have hm := Fr.mul_bd (u := pl / 2) (v := of_) (m := 1000) (n := 10) (by omega) (by omega) (by omega) (by omega)
  have e2 : pl.tdiv 2 = pl / 2 := Int.tdiv_eq_ediv_of_nonneg h.1
  refine NewI.mk fun b1 hb1 => ?_
  unfold Rg.time
  refine Branch.mk (fun hc => ?_) (fun hc => ?_)
  · have he : pl % 2 = 0 := by rw [← i64_and1]; simpa using hc
    rw [if_pos he]
    refine Need.mk ⟨by decide, by show inK .i64 (pl.tdiv 2); rw [e2]; simp only [inK]; omega⟩ ?_
    refine Need.mk (by show inK .i64 (pl.tdiv 2 * 1); rw [e2]; simp only [inK]; omega) ?_
    refine Need.mk (by show inK .i64 (pl.tdiv 2 * 1 + 0); rw [e2]; simp only [inK]; omega) ?_
    conv => whnf
    rw [show pl.tdiv 2 * 1 + 0 = pl / 2 by rw [e2]; omega]
    (first
      | (refine CallI.to1 (rof_any (pl / 2) 1 (by simp only [inK]; omega) (by simp only [inK]; omega)) fun w2 => ?_)
      | (refine Branch.yes rfl ?_)
      | (refine Branch.no rfl ?_)
      | (refine Branch.mk (fun hb => ?_) (fun hb => ?_))
      | (refine NewI.mk fun nb hnb => ?_)
      | (refine Need.mk (by show _ ∧ _; omega) ?_)
      | (refine Need.mk (by omega) ?_)
      | (refine Need.mk ?_ ?_)
      | (refine EndI.mk fun w1 h1 => ?_))
    refine NewI.mk fun b2 hb2 => ?_
    exact EndI.mk fun w3 h3 => rfl
  · have he : ¬ pl % 2 = 0 := by rw [← i64_and1]; simpa using hc
    rw [if_neg he]
    refine Need.mk ⟨by decide, by show inK .i64 (pl.tdiv 2); rw [e2]; simp only [inK]; omega⟩ ?_
    refine Need.mk (by show inK .i64 (pl.tdiv 2 * of_); rw [e2]; simp only [inK]; omega) ?_
    refine Need.mk (by show inK .i64 (pl.tdiv 2 * of_ + pa); rw [e2]; simp only [inK]; omega) ?_
    conv => whnf
    rw [show pl.tdiv 2 * of_ + pa = pl / 2 * of_ + pa by rw [e2]]
    (first
      | (refine CallI.to1 (rof_any (pl / 2 * of_ + pa) of_ (by simp only [inK]; omega) (by simp only [inK]; omega)) fun w2 => ?_)
      | (refine Branch.yes rfl ?_)
      | (refine Branch.no rfl ?_)
      | (refine Branch.mk (fun hb => ?_) (fun hb => ?_))
      | (refine NewI.mk fun nb hnb => ?_)
      | (refine Need.mk (by show _ ∧ _; omega) ?_)
      | (refine Need.mk (by omega) ?_)
      | (refine Need.mk ?_ ?_)
      | (refine EndI.mk fun w1 h1 => ?_))
    refine NewI.mk fun b2 hb2 => ?_
    exact EndI.mk fun w3 h3 => rfl
end Go.Proofs.YtjbhpfmnfdebkaaGreat

namespace Go.Proofs.YtjbhpfmnfdebkaaGreat
set_option linter.unusedVariables false
set_option linter.unusedSimpArgs false
set_option maxRecDepth 100000
open Go.RowKit Go.Proofs.YtjbhpfmnfdebkaaGreat.Eng Enc

theorem index_parts (r : Int) (h : 0 ≤ r ∧ r < 3) (w : World) :
    (Instr.index 176 (.agg #[.int .i64 1, .int .i64 2, .int .i64 3, .int .i64 1, .int .i64 1, .int .i64 2, .int .i64 2, .int .i64 1, .int .i64 3]) (.int .i64 r)).run Tryz.prog w = .ok (.agg #[.int .i64 (Rg.parts r).1, .int .i64 (Rg.parts r).2.1, .int .i64 (Rg.parts r).2.2]) w := by
  rcases (by omega : r = 0 ∨ r = 1 ∨ r = 2) with rfl | rfl | rfl <;> kernel_rfl
theorem point_any (n long : Int) (hl : 1 ≤ long ∧ long ≤ 16) (hn : 0 ≤ n ∧ n < (Rg.many long).1) (w : World) :
    Calls Tryz.prog 71 #[.int .i64 n, .int .i64 long] w fun e w' => e = .returned (.tuple #[.agg #[.int .i64 (Rg.pt n long).t.num, .int .i64 (Rg.pt n long).t.den, .int .i64 (Rg.pt n long).u.num, .int .i64 (Rg.pt n long).u.den], .bool (Rg.point n long).2]) ∧ Below w.heap.size w w' := by
  refine fun_eq 0 w Tryz.func71 (args := [.val (.int .i64 n), .val (.int .i64 long)]) rfl rfl ?_
  have hs : 3 ≤ Rg.sides long ∧ Rg.sides long ≤ 33 := by unfold Rg.sides; omega
  have hmany : (Rg.many long).1 = 3 * Rg.sides long * Rg.sides long := by unfold Rg.many; rw [if_pos (Rg.fits_iff.2 hl)]
  have hm := Fr.mul_bd (u := 3 * Rg.sides long) (v := Rg.sides long) (m := 99) (n := 33) (by omega) (by omega) (by omega) (by omega)
  have e1 : n.tdiv 3 = n / 3 := Int.tdiv_eq_ediv_of_nonneg hn.1
  have e2 : (n / 3).tdiv (Rg.sides long) = n / 3 / Rg.sides long := Int.tdiv_eq_ediv_of_nonneg (by omega)
  have e3 : (n / 3).tmod (Rg.sides long) = n / 3 % Rg.sides long := Int.tmod_eq_emod_of_nonneg (by omega)
  have e4 : n.tmod 3 = n % 3 := Int.tmod_eq_emod_of_nonneg hn.1
  have ht : 0 ≤ n / 3 / Rg.sides long ∧ n / 3 / Rg.sides long ≤ 1000 := by
    have h1 : 0 ≤ n / 3 / Rg.sides long := Int.ediv_nonneg (by omega) (by omega)
    have h2 : n / 3 / Rg.sides long < Rg.sides long := by
      refine Int.ediv_lt_of_lt_mul (by omega) ?_
      have : n < 3 * (Rg.sides long * Rg.sides long) := by rw [← Int.mul_assoc, ← hmany]; exact hn.2
      omega
    omega
  have hu : 0 ≤ n / 3 % Rg.sides long ∧ n / 3 % Rg.sides long ≤ 1000 := by
    have h1 := Int.emod_nonneg (n / 3) (b := Rg.sides long) (by omega)
    have h2 := Int.emod_lt_of_pos (n / 3) (b := Rg.sides long) (by omega)
    omega
  refine NewI.mk fun b1 hb1 => ?_
  refine DrawI.go (.tk 0 (.tk 1 (.tk 2 (.tk 5 (.tk 6 (.tk 7 (.ev 3 (.tk 4 (.ev 8 (.tk 9 (.tk 10 (.tk 11 .done)))))))))))) (by kernel_rfl) fun w1 h1 => ?_
  have n1 : (3 : Int) ≠ 0 ∧ inK .i64 (n.tdiv 3) := ⟨by decide, by rw [e1]; simp only [inK]; omega⟩
  refine Need.mk n1 ?_
  refine Need.mk n1 ?_
  (first
    | (refine CallI.to1 (sides_any long hl) fun w2 => ?_)
    | (refine Branch.yes rfl ?_)
    | (refine Branch.no rfl ?_)
    | (refine Branch.mk (fun hb => ?_) (fun hb => ?_))
    | (refine NewI.mk fun nb hnb => ?_)
    | (refine Need.mk (by show _ ∧ _; omega) ?_)
    | (refine Need.mk (by omega) ?_)
    | (refine Need.mk ?_ ?_)
    | (refine EndI.mk fun w1 h1 => ?_))
  refine Need.mk ⟨by omega, by show inK .i64 ((n.tdiv 3).tdiv (Rg.sides long)); rw [e1, e2]; simp only [inK]; omega⟩ ?_
  (first
    | (refine CallI.to1 (sides_any long hl) fun w2 => ?_)
    | (refine Branch.yes rfl ?_)
    | (refine Branch.no rfl ?_)
    | (refine Branch.mk (fun hb => ?_) (fun hb => ?_))
    | (refine NewI.mk fun nb hnb => ?_)
    | (refine Need.mk (by show _ ∧ _; omega) ?_)
    | (refine Need.mk (by omega) ?_)
    | (refine Need.mk ?_ ?_)
    | (refine EndI.mk fun w1 h1 => ?_))
  refine Need.mk (by omega) ?_
  refine Need.mk (by decide) ?_
  conv => whnf
  rw [e1, e2, e3, e4]
  refine GenV.to (fun w3 => index_parts (n % 3) (by omega) w3) fun w3 h3 => ?_
  have hpar : (0 ≤ (Rg.parts (n % 3)).1 ∧ (Rg.parts (n % 3)).1 ≤ 10) ∧ (0 ≤ (Rg.parts (n % 3)).2.1 ∧ (Rg.parts (n % 3)).2.1 ≤ 10) ∧ (1 ≤ (Rg.parts (n % 3)).2.2 ∧ (Rg.parts (n % 3)).2.2 ≤ 10) := by
    unfold Rg.parts; split
    · simp
    · split <;> simp
  refine NewI.mk fun b2 hb2 => ?_
  refine DrawI.go (.tk 0 (.tk 1 (.tk 2 (.tk 3 (.tk 4 (.tk 6 (.tk 7 (.tk 8 (.tk 9 (.tk 10 (.two 5 (.two 11 (.tk 12 (.ev 13 (.ev 14 .done))) 13 (.ev 11 (.tk 12 (.ev 14 .done)))) 13 (.ev 5 (.ev 11 (.tk 12 (.ev 14 .done))))))))))))))) (by kernel_rfl) fun w4 h4 => ?_
  refine Need.mk (by decide) ?_
  refine Need.mk (by decide) ?_
  refine Need.mk (by decide) ?_
  refine Need.mk (by decide) ?_
  have c1 := fun w => time_any (n / 3 / Rg.sides long) (Rg.parts (n % 3)).1 (Rg.parts (n % 3)).2.2 ht hpar.1 hpar.2.2 w
  have c2 := fun w => time_any (n / 3 % Rg.sides long) (Rg.parts (n % 3)).2.1 (Rg.parts (n % 3)).2.2 hu hpar.2.1 hpar.2.2 w
  have hins : (Rg.pt n long).ins := ⟨Rg.time_ins ht hpar.1 hpar.2.2, Rg.time_ins hu hpar.2.1 hpar.2.2⟩
  refine Both.mk ?_ ?_
  · refine CallI.to1 c1 fun w5 => ?_
    refine Both.mk ?_ ?_
    · refine CallI.to1 c2 fun w6 => ?_
      refine NewI.mk fun b3 hb3 => ?_
      refine DrawI.wr (.tk 0 (.tk 1 (.tk 2 (.tk 4 (.ev 3 (.tk 5 (.ev 6 (.tk 7 .done)))))))) [0] [] (by kernel_rfl) rfl (by simp) fun w7 h7 => ?_
      refine CallI.to1 (fun w => number_any (Rg.pt n long) long hins hl w) fun w8 => ?_
      exact EndI.mk fun w9 h9 => rfl
    · refine NewI.mk fun b3 hb3 => ?_
      refine CallI.to1 c2 fun w6 => ?_
      refine DrawI.wr (.tk 0 (.tk 1 (.tk 2 (.tk 4 (.ev 3 (.tk 5 (.ev 6 (.tk 7 .done)))))))) [0] [] (by kernel_rfl) rfl (by simp) fun w7 h7 => ?_
      refine CallI.to1 (fun w => number_any (Rg.pt n long) long hins hl w) fun w8 => ?_
      exact EndI.mk fun w9 h9 => rfl
  · refine NewI.mk fun b3 hb3 => ?_
    refine CallI.to1 c1 fun w5 => ?_
    refine CallI.to1 c2 fun w6 => ?_
    refine DrawI.wr (.tk 0 (.tk 1 (.tk 2 (.tk 4 (.ev 3 (.tk 5 (.ev 6 (.tk 7 .done)))))))) [0] [] (by kernel_rfl) rfl (by simp) fun w7 h7 => ?_
    refine CallI.to1 (fun w => number_any (Rg.pt n long) long hins hl w) fun w8 => ?_
    exact EndI.mk fun w9 h9 => rfl

theorem rpoint_any (n long : Int) (w : World) :
    Calls Tryz.prog 151 #[.int .i64 n, .int .i64 long] w fun e w' => e = .returned (.tuple #[.agg #[.int .i64 (Rg.askPoint n long).1.t.num, .int .i64 (Rg.askPoint n long).1.t.den, .int .i64 (Rg.askPoint n long).1.u.num, .int .i64 (Rg.askPoint n long).1.u.den], .int .i64 (Rg.askPoint n long).2]) ∧ Below w.heap.size w w' := by
  refine fun_eq 0 w Tryz.func151 (args := [.val (.int .i64 n), .val (.int .i64 long)]) rfl rfl ?_
  refine NewI.mk fun b1 hb1 => ?_
  (first
    | (refine CallI.to1 (many_any long) fun w2 => ?_)
    | (refine Branch.yes rfl ?_)
    | (refine Branch.no rfl ?_)
    | (refine Branch.mk (fun hb => ?_) (fun hb => ?_))
    | (refine NewI.mk fun nb hnb => ?_)
    | (refine Need.mk (by show _ ∧ _; omega) ?_)
    | (refine Need.mk (by omega) ?_)
    | (refine Need.mk ?_ ?_)
    | (refine EndI.mk fun w1 h1 => ?_))
  unfold Rg.askPoint
  refine Branch.mk (fun hc => ?_) (fun hc => ?_)
  · refine EndI.mk fun w3 h3 => ?_
    rw [if_pos (.inl (by simpa using hc))]; rfl
  have hm : (Rg.many long).2 = 0 := by simpa using hc
  refine Branch.mk (fun hc2 => ?_) (fun hc2 => ?_)
  · refine EndI.mk fun w3 h3 => ?_
    rw [if_pos (.inr (.inl (by simpa using hc2)))]; rfl
  have h0 : ¬ n < 0 := by simpa using hc2
  refine Branch.mk (fun hc3 => ?_) (fun hc3 => ?_)
  · refine EndI.mk fun w3 h3 => ?_
    rw [if_pos (.inr (.inr (by simpa using hc3)))]; rfl
  have h1 : ¬ (Rg.many long).1 ≤ n := by simpa using hc3
  rw [if_neg (by omega)]
  have hl : 1 ≤ long ∧ long ≤ 16 := by
    cases hf : Rg.fits long with
    | true => exact Rg.fits_iff.1 hf
    | false => unfold Rg.many at hm; rw [hf] at hm; cases hm
  (first
    | (refine CallI.to1 (point_any n long hl (by omega)) fun w2 => ?_)
    | (refine Branch.yes rfl ?_)
    | (refine Branch.no rfl ?_)
    | (refine Branch.mk (fun hb => ?_) (fun hb => ?_))
    | (refine NewI.mk fun nb hnb => ?_)
    | (refine Need.mk (by show _ ∧ _; omega) ?_)
    | (refine Need.mk (by omega) ?_)
    | (refine Need.mk ?_ ?_)
    | (refine EndI.mk fun w1 h1 => ?_))
  refine NewI.mk fun b2 hb2 => ?_
  refine Branch.mk (fun hc4 => ?_) (fun hc4 => ?_)
  · refine EndI.mk fun w3 h3 => ?_
    rw [if_neg (by have h4 : (Rg.point n long).2 = false := by simpa using hc4
                   rw [h4]; simp)]; rfl
  · refine EndI.mk fun w3 h3 => ?_
    rw [if_pos (by simpa using hc4)]
end Go.Proofs.YtjbhpfmnfdebkaaGreat

namespace Go.Proofs.YtjbhpfmnfdebkaaGreat
set_option linter.unusedVariables false
set_option linter.unusedSimpArgs false
set_option maxRecDepth 100000
open Go.RowKit Go.Proofs.YtjbhpfmnfdebkaaGreat.Eng Enc

namespace Rg
def around (pl : Int) : Sp := if pl % 2 = 0 then ⟨pl.tdiv 2, false, pl.tdiv 2, false, false⟩ else ⟨pl.tdiv 2, true, pl.tdiv 2 + 1, true, false⟩
def diff (n long : Int) : Sp :=
  if (n / 3 / sides long) % 2 = 1 ∧ (n / 3 % sides long) % 2 = 1 then around (n / 3 % sides long - n / 3 / sides long + 1 - n % 3) else ⟨-16, false, 16, false, false⟩
def zone (n long : Int) : Zn × Int :=
  if (askPoint n long).2 = 0 then Zo.make (around (n / 3 / sides long)) (around (n / 3 % sides long)) (diff n long) else (Zo.nought, (askPoint n long).2)
end Rg
end Go.Proofs.YtjbhpfmnfdebkaaGreat

namespace Go.Proofs.YtjbhpfmnfdebkaaGreat
set_option linter.unusedVariables false
set_option linter.unusedSimpArgs false
set_option maxRecDepth 100000
open Go.RowKit Go.Proofs.YtjbhpfmnfdebkaaGreat.Eng Enc

theorem at14_any (t u : Int) (ht : inK .i64 t) (hu : inK .i64 u) (w : World) :
    Calls Tryz.prog 69 #[.int .i64 t, .int .i64 u] w fun e w' => e = .returned (.agg #[.int .i64 (Fr.of t 6).1.num, .int .i64 (Fr.of t 6).1.den, .int .i64 (Fr.of u 6).1.num, .int .i64 (Fr.of u 6).1.den]) ∧ Below w.heap.size w w' := by
  refine fun_eq 0 w Tryz.func69 (args := [.val (.int .i64 t), .val (.int .i64 u)]) rfl rfl ?_
  refine NewI.mk fun b1 hb1 => ?_
  (first
    | (refine CallI.to1 (rof_any t 6 ht (by simp only [inK]; omega)) fun w2 => ?_)
    | (refine Branch.yes rfl ?_)
    | (refine Branch.no rfl ?_)
    | (refine Branch.mk (fun hb => ?_) (fun hb => ?_))
    | (refine NewI.mk fun nb hnb => ?_)
    | (refine Need.mk (by show _ ∧ _; omega) ?_)
    | (refine Need.mk (by omega) ?_)
    | (refine Need.mk ?_ ?_)
    | (refine EndI.mk fun w1 h1 => ?_))
  refine NewI.mk fun b2 hb2 => ?_
  (first
    | (refine CallI.to1 (rof_any u 6 hu (by simp only [inK]; omega)) fun w2 => ?_)
    | (refine Branch.yes rfl ?_)
    | (refine Branch.no rfl ?_)
    | (refine Branch.mk (fun hb => ?_) (fun hb => ?_))
    | (refine NewI.mk fun nb hnb => ?_)
    | (refine Need.mk (by show _ ∧ _; omega) ?_)
    | (refine Need.mk (by omega) ?_)
    | (refine Need.mk ?_ ?_)
    | (refine EndI.mk fun w1 h1 => ?_))
  refine NewI.mk fun b3 hb3 => ?_
  exact EndI.mk fun w3 h3 => rfl
def atP (t u : Int) : Pt := ⟨(Fr.of t 6).1, (Fr.of u 6).1⟩
theorem atP_ins {t u : Int} (ht : inK .i64 t) (hu : inK .i64 u) : (atP t u).ins := ⟨Fr.of_ins ht, Fr.of_ins hu⟩
theorem alive14_any (w : World) : Calls Tryz.prog 19 #[] w fun e w' => e = .returned (.bool true) ∧ Below w.heap.size w w' := by
  refine fun_eq 0 w Tryz.func19 (args := []) rfl rfl ?_
  have m2 := fun w => many_any 2 w
  rw [show Rg.many 2 = (75, 0) by decide +kernel] at m2
  refine CallI.to1 m2 fun w1 => ?_
  have i1 : (atP 0 3).ins := atP_ins (by simp [inK]) (by simp [inK])
  have i2 : (atP 2 10).ins := atP_ins (by simp [inK]) (by simp [inK])
  (first
    | (refine CallI.to1 (at14_any 0 3 (by simp [inK]) (by simp [inK])) fun w2 => ?_)
    | (refine Branch.yes rfl ?_)
    | (refine Branch.no rfl ?_)
    | (refine Branch.mk (fun hb => ?_) (fun hb => ?_))
    | (refine NewI.mk fun nb hnb => ?_)
    | (refine Need.mk (by show _ ∧ _; omega) ?_)
    | (refine Need.mk (by omega) ?_)
    | (refine Need.mk ?_ ?_)
    | (refine EndI.mk fun w1 h1 => ?_))
  have q1 := fun w => gnumber_any (atP 0 3) 2 i1 w
  rw [show Rg.askNumber (atP 0 3) 2 = (4, 0) by decide +kernel] at q1
  refine CallI.to1 q1 fun w2 => ?_
  (first
    | (refine CallI.to1 (at14_any 2 10 (by simp [inK]) (by simp [inK])) fun w2 => ?_)
    | (refine Branch.yes rfl ?_)
    | (refine Branch.no rfl ?_)
    | (refine Branch.mk (fun hb => ?_) (fun hb => ?_))
    | (refine NewI.mk fun nb hnb => ?_)
    | (refine Need.mk (by show _ ∧ _; omega) ?_)
    | (refine Need.mk (by omega) ?_)
    | (refine Need.mk ?_ ?_)
    | (refine EndI.mk fun w1 h1 => ?_))
  have q2 := fun w => gnumber_any (atP 2 10) 2 i2 w
  rw [show Rg.askNumber (atP 2 10) 2 = (24, 0) by decide +kernel] at q2
  refine CallI.to1 q2 fun w3 => ?_
  refine Branch.yes (by decide) ?_
  refine Branch.yes (by decide) ?_
  refine Branch.yes (by decide) ?_
  refine Branch.yes (by decide) ?_
  refine Branch.yes (by decide) ?_
  exact EndI.mk fun w4 h4 => rfl

end Go.Proofs.YtjbhpfmnfdebkaaGreat

namespace Go.Proofs.YtjbhpfmnfdebkaaGreat
set_option linter.unusedVariables false
set_option linter.unusedSimpArgs false
set_option maxRecDepth 100000
open Go.RowKit Go.Proofs.YtjbhpfmnfdebkaaGreat.Eng Enc

structure ZonesLaw (n : Int) (p : Pt) (long : Int) : Prop where
  ins : (Rg.askPoint n long).1.ins
  same : (Rg.zone n long).2 = (Rg.askPoint n long).2
  own : (Rg.askPoint n long).2 = 0 → Rg.askNumber (Rg.askPoint n long).1 long = (n, 0)
  has : (Rg.askPoint n long).2 = 0 → Zo.has (Rg.zone n long).1 (Rg.askPoint n long).1 = (true, 0)
  any : (Rg.askPoint n long).2 = 0 → (Zo.has (Rg.zone n long).1 p).2 = 0 → (Zo.has (Rg.zone n long).1 p).1 = (decide ((Rg.askNumber p long).2 = 0) && decide ((Rg.askNumber p long).1 = n))

end Go.Proofs.YtjbhpfmnfdebkaaGreat

namespace Go.Proofs.YtjbhpfmnfdebkaaGreat
set_option linter.unusedVariables false
set_option linter.unusedSimpArgs false
open Go.RowKit Go.Proofs.YtjbhpfmnfdebkaaGreat.Eng Enc
namespace Rg
theorem cmp_three (a b : Rt) : (Fr.cmp a b).1 = -1 ∨ (Fr.cmp a b).1 = 0 ∨ (Fr.cmp a b).1 = 1 := by
  unfold Fr.cmp
  split
  · show cmpI _ _ = -1 ∨ cmpI _ _ = 0 ∨ cmpI _ _ = 1
    unfold cmpI
    split
    · exact .inl rfl
    · split
      · exact .inr (.inr rfl)
      · exact .inr (.inl rfl)
  · exact .inr (.inl rfl)
theorem order_three (p : Pt) : 0 ≤ order p ∧ order p ≤ 2 := by
  have := cmp_three (part p.t) (part p.u)
  unfold order
  split <;> omega
theorem number_back {p : Pt} {n long : Int} (h : number p long = n) (h0 : 0 ≤ n) (hl : 1 ≤ long ∧ long ≤ 16) :
    (Fr.cmp p.t p.u).1 < 0 ∧ place p.t = n / 3 / sides long ∧ place p.u = n / 3 % sides long ∧ order p = n % 3 := by
  have hs : 3 ≤ sides long ∧ sides long ≤ 33 := by unfold sides; omega
  have ho := order_three p
  unfold number at h
  split at h
  · omega
  · rename_i hc
    have h1 : (Fr.cmp p.t p.u).1 < 0 := by omega
    have h2 : 0 ≤ place p.t := by omega
    have h3 : place p.u < sides long := by omega
    have h4 : 0 ≤ place p.u := by
      have hf := floor_le h1
      unfold place at h2 ⊢
      split at h2 <;> split <;> omega
    have e3 : n / 3 = place p.t * sides long + place p.u := by omega
    refine ⟨h1, ?_, ?_, by omega⟩
    · rw [e3, Int.add_comm, Int.add_mul_ediv_right _ _ (by omega), Int.ediv_eq_zero_of_lt h4 h3]; omega
    · rw [e3, Int.add_comm, Int.add_mul_emod_self_right, Int.emod_eq_of_lt h4 h3]
end Rg
end Go.Proofs.YtjbhpfmnfdebkaaGreat

namespace Go.Proofs.YtjbhpfmnfdebkaaGreat
set_option linter.unusedVariables false
set_option linter.unusedSimpArgs false
open Go.RowKit Go.Proofs.YtjbhpfmnfdebkaaGreat.Eng Enc
namespace Rg
theorem of_one {f : Int} (h : -2305843009213693952 ≤ f ∧ f ≤ 2305843009213693952) : Fr.of f 1 = (⟨f, 1⟩, 0) := by
  unfold Fr.of Fr.low
  have hg : Int.gcd f 1 = 1 := by simp
  have hok : Fr.okB f 1 = true := by
    unfold Fr.okB
    have : Fr.inB f 1 = true := Fr.in_iff.2 (by simp; omega)
    rw [this]; simp
  rw [if_neg (by omega), hg]
  simp only [Int.cast_ofNat_Int, Int.ediv_one]
  rw [if_pos hok]
theorem part_eq {a : Rt} (ha : a.ok = true) : part a = ⟨a.num % a.den, a.den⟩ := by
  have oa := Fr.ok_bd ha
  have hf : (Fr.floor a).1 = a.num / a.den := by unfold Fr.floor; rw [if_pos ha]
  unfold part
  rw [hf, of_one (by omega)]
  have hok : (⟨-(a.num / a.den), 1⟩ : Rt).ok = true := by
    show Fr.okB _ _ = true
    unfold Fr.okB
    have : Fr.inB (-(a.num / a.den)) 1 = true := Fr.in_iff.2 (by simp; omega)
    rw [this]; simp
  have hg0 : Nat.gcd a.num.natAbs a.den.natAbs = 1 := by
    have h := ha
    simp only [Rt.ok, Fr.okB, Bool.and_eq_true, decide_eq_true_eq] at h
    exact h.2
  have hg : Int.gcd (a.num % a.den) a.den = 1 := by
    have h1 : Int.gcd a.num a.den = 1 := hg0
    have h2 : Int.gcd (a.num % a.den + a.num / a.den * a.den) a.den = Int.gcd (a.num % a.den) a.den := Int.gcd_add_mul_right_left ..
    have h3 : a.num % a.den + a.num / a.den * a.den = a.num := by
      have := Int.mul_ediv_add_emod a.num a.den
      rw [Int.mul_comm] at this; omega
    rw [h3] at h2
    rw [← h2]; exact h1
  have htn : Fr.tn a ⟨-(a.num / a.den), 1⟩ = a.num % a.den := by
    unfold Fr.tn
    have := Int.mul_ediv_add_emod a.num a.den
    simp only [Int.mul_one, Int.neg_mul]
    rw [Int.mul_comm (a.num / a.den) a.den]; omega
  have hdn : Fr.dn a ⟨-(a.num / a.den), 1⟩ 1 = a.den := by unfold Fr.dn; simp
  unfold Fr.add
  rw [if_pos ⟨ha, hok⟩]
  unfold Fr.sum
  rw [htn, hdn, hg]
  simp only [Int.cast_ofNat_Int, Int.ediv_one]
  rw [if_pos]
  refine ⟨?_, ?_⟩
  · unfold Fr.okB
    have : Fr.inB (a.num % a.den) a.den = true := Fr.in_iff.2 (by rw [Int.ediv_eq_zero_of_lt oa.2.2.2.2.1 oa.2.2.2.2.2]; omega)
    rw [this]
    have hg' : Nat.gcd (a.num % a.den).natAbs a.den.natAbs = 1 := hg
    simp only [hg']
    simp; omega
  · unfold Fr.inI; simp; omega
theorem part_ok {a : Rt} (ha : a.ok = true) : (part a).ok = true := by
  have oa := Fr.ok_bd ha
  rw [part_eq ha]
  have hg0 : Nat.gcd a.num.natAbs a.den.natAbs = 1 := by
    have h := ha
    simp only [Rt.ok, Fr.okB, Bool.and_eq_true, decide_eq_true_eq] at h
    exact h.2
  have hg : Int.gcd (a.num % a.den) a.den = 1 := by
    have h1 : Int.gcd a.num a.den = 1 := hg0
    have h2 : Int.gcd (a.num % a.den + a.num / a.den * a.den) a.den = Int.gcd (a.num % a.den) a.den := Int.gcd_add_mul_right_left ..
    have h3 : a.num % a.den + a.num / a.den * a.den = a.num := by
      have := Int.mul_ediv_add_emod a.num a.den
      rw [Int.mul_comm] at this; omega
    rw [h3] at h2
    rw [← h2]; exact h1
  show Fr.okB _ _ = true
  unfold Fr.okB
  have : Fr.inB (a.num % a.den) a.den = true := Fr.in_iff.2 (by rw [Int.ediv_eq_zero_of_lt oa.2.2.2.2.1 oa.2.2.2.2.2]; omega)
  rw [this]
  have hg' : Nat.gcd (a.num % a.den).natAbs a.den.natAbs = 1 := hg
  simp only [hg']
  simp; omega
def rX (t u : Rt) : Int := t.num % t.den * u.den
theorem place_eq {t u : Rt} (ht : t.ok = true) (hu : u.ok = true) : place t = 2 * (t.num / t.den) + (if rX t u = 0 then 0 else 1) := by
  have ot := Fr.ok_bd ht
  have ou := Fr.ok_bd hu
  have hf : (Fr.floor t).1 = t.num / t.den := by unfold Fr.floor; rw [if_pos ht]
  unfold place
  rw [part_eq ht, hf]
  simp only
  have : t.num % t.den = 0 ↔ rX t u = 0 := by
    unfold rX
    rw [Int.mul_eq_zero]
    constructor
    · exact .inl
    · rintro (h | h)
      · exact h
      · omega
  by_cases h : t.num % t.den = 0
  · rw [if_pos h, if_pos (this.1 h)]; omega
  · rw [if_neg h, if_neg (fun hh => h (this.2 hh))]
theorem cmp_part {t u : Rt} (ht : t.ok = true) (hu : u.ok = true) : (Fr.cmp (part t) (part u)).1 = cmpI (rX t u) (rX u t) := by
  unfold Fr.cmp
  rw [if_pos ⟨part_ok ht, part_ok hu⟩]
  unfold Fr.cmpR
  rw [part_eq ht, part_eq hu]
  rfl
theorem rX_bd {t u : Rt} (ht : t.ok = true) (hu : u.ok = true) : 0 ≤ rX t u := by
  have ot := Fr.ok_bd ht
  have ou := Fr.ok_bd hu
  exact Int.mul_nonneg ot.2.2.2.2.1 (by omega)
theorem cmp_iff {t u : Rt} (ht : t.ok = true) (hu : u.ok = true) : (Fr.cmp t u).1 < 0 ↔ t.num / t.den < u.num / u.den ∨ (t.num / t.den = u.num / u.den ∧ rX t u < rX u t) := by
  have h := (Fr.sign_eq ht hu 0).1
  have e : (Fr.cmp t u).1 < 0 ↔ t.num * u.den < u.num * t.den := by
    unfold Fr.cmp; rw [if_pos ⟨ht, hu⟩]; exact Fr.cmpI_lt
  rw [e]
  rw [Int.zero_mul] at h
  have : t.num * u.den < u.num * t.den ↔ t.num * u.den - u.num * t.den < 0 := by omega
  rw [this, ← h]
  unfold Fr.sign Fr.rest
  show (if cmpI _ 0 ≠ 0 then cmpI _ 0 else cmpI (rX t u) (rX u t)) < 0 ↔ _
  generalize rX t u = x
  generalize rX u t = y
  generalize t.num / t.den = a
  generalize u.num / u.den = b
  unfold cmpI
  split <;> split <;> omega
def may3 (T U r : Int) : Bool := decide (0 ≤ T) && decide (T ≤ U) && decide (U ≤ 32) && decide (0 ≤ r) && decide (r ≤ 2) && (decide (T < U) || (decide (T % 2 = 1) && decide (r = 0))) && (decide (T % 2 = 1 ∧ U % 2 = 1) || decide (r = 1))
end Rg
end Go.Proofs.YtjbhpfmnfdebkaaGreat

namespace Go.Proofs.YtjbhpfmnfdebkaaGreat
open Go.RowKit Go.Proofs.YtjbhpfmnfdebkaaGreat.Eng Enc
namespace Rg
def pt3 (T U r : Int) : Pt := ⟨time T (parts r).1 (parts r).2.2, time U (parts r).2.1 (parts r).2.2⟩
def good3 (T U r : Int) : Bool := decide ((Fr.cmp (pt3 T U r).t (pt3 T U r).u).1 < 0) && decide (place (pt3 T U r).t = T) && decide (place (pt3 T U r).u = U) && decide (order (pt3 T U r) = r)
end Rg
end Go.Proofs.YtjbhpfmnfdebkaaGreat

namespace Go.Proofs.YtjbhpfmnfdebkaaGreat
set_option maxRecDepth 100000
namespace Rg
end Rg
end Go.Proofs.YtjbhpfmnfdebkaaGreat

namespace Go.Proofs.YtjbhpfmnfdebkaaGreat
set_option maxRecDepth 100000
namespace Rg
end Rg
end Go.Proofs.YtjbhpfmnfdebkaaGreat

namespace Go.Proofs.YtjbhpfmnfdebkaaGreat
set_option maxRecDepth 100000
namespace Rg
end Rg
end Go.Proofs.YtjbhpfmnfdebkaaGreat

namespace Go.Proofs.YtjbhpfmnfdebkaaGreat
set_option maxRecDepth 100000
namespace Rg
end Rg
end Go.Proofs.YtjbhpfmnfdebkaaGreat

namespace Go.Proofs.YtjbhpfmnfdebkaaGreat
set_option maxRecDepth 100000
namespace Rg
end Rg
end Go.Proofs.YtjbhpfmnfdebkaaGreat

namespace Go.Proofs.YtjbhpfmnfdebkaaGreat
set_option maxRecDepth 100000
namespace Rg
end Rg
end Go.Proofs.YtjbhpfmnfdebkaaGreat

namespace Go.Proofs.YtjbhpfmnfdebkaaGreat
set_option maxRecDepth 100000
namespace Rg
end Rg
end Go.Proofs.YtjbhpfmnfdebkaaGreat

namespace Go.Proofs.YtjbhpfmnfdebkaaGreat
set_option maxRecDepth 100000
namespace Rg
end Rg
end Go.Proofs.YtjbhpfmnfdebkaaGreat

namespace Go.Proofs.YtjbhpfmnfdebkaaGreat
set_option maxRecDepth 100000
namespace Rg
end Rg
end Go.Proofs.YtjbhpfmnfdebkaaGreat

namespace Go.Proofs.YtjbhpfmnfdebkaaGreat
set_option maxRecDepth 100000
namespace Rg
end Rg
end Go.Proofs.YtjbhpfmnfdebkaaGreat

namespace Go.Proofs.YtjbhpfmnfdebkaaGreat
set_option maxRecDepth 100000
namespace Rg
end Rg
end Go.Proofs.YtjbhpfmnfdebkaaGreat

namespace Go.Proofs.YtjbhpfmnfdebkaaGreat
set_option linter.unusedVariables false
namespace Rg
end Rg
end Go.Proofs.YtjbhpfmnfdebkaaGreat

namespace Go.Proofs.YtjbhpfmnfdebkaaGreat
set_option linter.unusedVariables false
open Go.RowKit Go.Proofs.YtjbhpfmnfdebkaaGreat.Eng Enc
namespace Rg
end Rg
end Go.Proofs.YtjbhpfmnfdebkaaGreat

namespace Go.Proofs.YtjbhpfmnfdebkaaGreat
set_option linter.unusedVariables false
set_option linter.unusedSimpArgs false
set_option maxRecDepth 100000
open Go.RowKit Go.Proofs.YtjbhpfmnfdebkaaGreat.Eng Enc
namespace Rg
def mg (T : Int) : Bool := (List.range 33).all fun U : Nat => (List.range 3).all fun r : Nat => !(may3 T U r) || good3 T U r
theorem mg_0 : ((List.range 17).all fun T : Nat => mg T) = true := by decide +kernel
theorem mg_1 : ((List.range 16).all fun T : Nat => mg ((T : Int) + 17)) = true := by decide +kernel
theorem may_good {T U r : Int} (hT : 0 ≤ T ∧ T < 33) (h : may3 T U r = true) : good3 T U r = true := by
  have h0 := h
  simp only [may3, Bool.and_eq_true, Bool.or_eq_true, decide_eq_true_eq] at h0
  have hm : mg T = true := by
    by_cases h17 : T < 17
    · have := List.all_eq_true.1 mg_0 T.toNat (List.mem_range.2 (by omega))
      rwa [Int.toNat_of_nonneg hT.1] at this
    · have := List.all_eq_true.1 mg_1 (T - 17).toNat (List.mem_range.2 (by omega))
      rwa [show ((T - 17).toNat : Int) + 17 = T by omega] at this
  have h1 := List.all_eq_true.1 hm U.toNat (List.mem_range.2 (by omega))
  have h2 := List.all_eq_true.1 h1 r.toNat (List.mem_range.2 (by omega))
  rw [Int.toNat_of_nonneg (by omega), Int.toNat_of_nonneg (by omega), h] at h2
  simpa using h2
theorem rep_of {p : Pt} {long : Int} (hl : 1 ≤ long ∧ long ≤ 16) (hp : 0 ≤ number p long) : may3 (place p.t) (place p.u) (order p) = true ∧ (point (number p long) long).2 = true ∧ 0 ≤ number p long ∧ number p long < (many long).1 ∧
    (pt (number p long) long).t.ok = true ∧ (pt (number p long) long).u.ok = true ∧ place (pt (number p long) long).t = place p.t ∧ place (pt (number p long) long).u = place p.u ∧ order (pt (number p long) long) = order p := by
  have hs : 3 ≤ sides long ∧ sides long ≤ 33 := by unfold sides; omega
  have hnum := hp
  obtain ⟨k1, k2, k3, k4⟩ := number_back (p := p) rfl hp hl
  obtain ⟨ht, hu, _⟩ := cmp_lt k1
  have hk1 := (cmp_iff ht hu).1 k1
  have hcd : ¬ (0 ≤ (Fr.cmp p.t p.u).1 ∨ place p.t < 0 ∨ sides long ≤ place p.u) := fun h => by
    unfold number at hp; rw [if_pos h] at hp; omega
  have hmy : may3 (place p.t) (place p.u) (order p) = true := by
    have ho : 0 ≤ order p ∧ order p ≤ 2 := order_three p
    have x1 := rX_bd ht hu
    have x2 := rX_bd hu ht
    have e1 := place_eq ht hu
    have e2 := place_eq hu ht
    have hor : ((place p.t % 2 = 1 ∧ place p.u % 2 = 1) ∧ order p = 1 + cmpI (rX p.t p.u) (rX p.u p.t)) ∨ (¬ (place p.t % 2 = 1 ∧ place p.u % 2 = 1) ∧ order p = 1) := by
      unfold order
      by_cases h : place p.t % 2 = 1 ∧ place p.u % 2 = 1
      · rw [if_pos h, cmp_part ht hu]; exact .inl ⟨h, rfl⟩
      · rw [if_neg h]; exact .inr ⟨h, rfl⟩
    have hcc : (rX p.t p.u < rX p.u p.t ∧ cmpI (rX p.t p.u) (rX p.u p.t) = -1) ∨ (rX p.t p.u = rX p.u p.t ∧ cmpI (rX p.t p.u) (rX p.u p.t) = 0) ∨ (rX p.u p.t < rX p.t p.u ∧ cmpI (rX p.t p.u) (rX p.u p.t) = 1) := by unfold cmpI; split <;> (try split) <;> omega
    simp only [may3, Bool.and_eq_true, Bool.or_eq_true, decide_eq_true_eq]
    generalize order p = o at *
    generalize cmpI (rX p.t p.u) (rX p.u p.t) = c at *
    generalize rX p.t p.u = x at *
    generalize rX p.u p.t = y at *
    generalize p.t.num / p.t.den = A at *
    generalize p.u.num / p.u.den = B at *
    generalize place p.t = T at *
    generalize place p.u = U at *
    split at e1 <;> split at e2 <;> omega
  have hT : 0 ≤ place p.t ∧ place p.t < 33 := by
    simp only [may3, Bool.and_eq_true, Bool.or_eq_true, decide_eq_true_eq] at hmy
    omega
  have hg := may_good hT hmy
  have hpt : pt (number p long) long = pt3 (place p.t) (place p.u) (order p) := by
    unfold pt pt3
    rw [← k2, ← k3, ← k4]
  unfold good3 at hg
  simp only [Bool.and_eq_true, decide_eq_true_eq] at hg
  obtain ⟨⟨⟨g1, g2⟩, g3⟩, g4⟩ := hg
  rw [← hpt] at g1 g2 g3 g4
  obtain ⟨o1, o2, _⟩ := cmp_lt g1
  have hval : number p long = 3 * (place p.t * sides long + place p.u) + order p := by
    conv => lhs; unfold number
    rw [if_neg hcd]
  have hsame : number (pt (number p long) long) long = number p long := by
    have hun : ∀ q : Pt, (Fr.cmp q.t q.u).1 < 0 → place q.t = place p.t → place q.u = place p.u → order q = order p → number q long = 3 * (place p.t * sides long + place p.u) + order p := fun q q1 q2 q3 q4 => by
      unfold number
      rw [q2, q3, q4, if_neg (by omega)]
    rw [hun _ g1 g2 g3 g4, hval]
  have hmn : number p long < (many long).1 := by
    have e : number p long = 3 * (place p.t * sides long + place p.u) + order p := by
      conv => lhs; unfold number
      rw [if_neg hcd]
    have hm : (many long).1 = 3 * sides long * sides long := by unfold many; rw [if_pos (fits_iff.2 hl)]
    have ho : 0 ≤ order p ∧ order p ≤ 2 := order_three p
    have h1 : place p.t < sides long := by
      simp only [may3, Bool.and_eq_true, Bool.or_eq_true, decide_eq_true_eq] at hmy
      omega
    have h2 : place p.t * sides long ≤ (sides long - 1) * sides long := Int.mul_le_mul_of_nonneg_right (by omega) (by omega)
    rw [Int.sub_mul, Int.one_mul] at h2
    rw [e, hm, Int.mul_assoc]
    omega
  exact ⟨hmy, by unfold point; simpa using hsame, hp, hmn, o1, o2, g2, g3, g4⟩
end Rg
end Go.Proofs.YtjbhpfmnfdebkaaGreat

namespace Go.Proofs.YtjbhpfmnfdebkaaGreat
set_option linter.unusedVariables false
set_option linter.unusedSimpArgs false
set_option maxRecDepth 100000
open Go.RowKit Go.Proofs.YtjbhpfmnfdebkaaGreat.Eng Enc

end Go.Proofs.YtjbhpfmnfdebkaaGreat

namespace Go.Proofs.YtjbhpfmnfdebkaaGreat
set_option linter.unusedVariables false
set_option linter.unusedSimpArgs false
open Go.RowKit Go.Proofs.YtjbhpfmnfdebkaaGreat.Eng Enc
namespace Rg
theorem den_one {a : Rt} (ha : a.ok = true) : a.num % a.den = 0 ↔ a.den = 1 := by
  have oa := Fr.ok_bd ha
  constructor
  · intro h
    have hg0 : Nat.gcd a.num.natAbs a.den.natAbs = 1 := by
      have h := ha
      simp only [Rt.ok, Fr.okB, Bool.and_eq_true, decide_eq_true_eq] at h
      exact h.2
    have hd : a.den ∣ a.num := Int.dvd_of_emod_eq_zero h
    have hg : Int.gcd a.num a.den = a.den.natAbs := Int.gcd_eq_right_iff_dvd (by omega) |>.2 hd |> fun h => by
      have : (Int.gcd a.num a.den : Int) = a.den := h
      omega
    have : Int.gcd a.num a.den = 1 := hg0
    omega
  · intro h; rw [h]; omega
theorem floor_ok {a : Rt} (ha : a.ok = true) : (Fr.floor a).1 = a.num / a.den := by unfold Fr.floor; rw [if_pos ha]
theorem place_den {a : Rt} (ha : a.ok = true) : place a = if a.den = 1 then 2 * a.num else 2 * (Fr.floor a).1 + 1 := by
  unfold place
  rw [part_eq ha, floor_ok ha]
  simp only
  by_cases h : a.den = 1
  · rw [if_pos ((den_one ha).2 h), if_pos h, h]; simp
  · rw [if_neg (fun h' => h ((den_one ha).1 h')), if_neg h]
theorem part_num {a : Rt} (ha : a.ok = true) : a.num - (Fr.floor a).1 * a.den = (part a).num ∧ (part a).den = a.den := by
  rw [part_eq ha, floor_ok ha]
  have := Int.mul_ediv_add_emod a.num a.den
  rw [Int.mul_comm] at this
  exact ⟨by simp only; omega, rfl⟩
theorem odd_den {a : Rt} (ha : a.ok = true) : place a % 2 = 1 ↔ a.den ≠ 1 := by
  rw [place_den ha]
  split <;> omega
def Three (pa d : Int) : Prop := (pa = 1 ∧ d = 2) ∨ (pa = 1 ∧ d = 3) ∨ (pa = 2 ∧ d = 3)
theorem of_low {n d : Int} (hd : 1 ≤ d ∧ d ≤ 10) (hn : -20000 ≤ n ∧ n ≤ 20000) (hg : Int.gcd n d = 1) : Fr.of n d = (⟨n, d⟩, 0) ∧ (⟨n, d⟩ : Rt).ok = true := by
  have hq : -20000 ≤ n / d ∧ n / d ≤ 20000 := by
    constructor
    · exact Int.le_ediv_of_mul_le (by omega) (by
        have : -20000 * d ≤ -20000 * 1 := Int.mul_le_mul_of_nonpos_left (by omega) (by omega)
        omega)
    · rcases Int.lt_or_le n 0 with h | h
      · have := Int.ediv_neg_of_neg_of_pos h (by omega : 0 < d); omega
      · have := Int.ediv_le_self d h; omega
  have hok : Fr.okB n d = true := by
    unfold Fr.okB
    have : Fr.inB n d = true := Fr.in_iff.2 (by omega)
    have hg' : Nat.gcd n.natAbs d.natAbs = 1 := hg
    rw [this, decide_eq_true hg']
    simp; omega
  refine ⟨?_, hok⟩
  unfold Fr.of Fr.low
  rw [if_neg (by omega), hg]
  simp only [Int.cast_ofNat_Int, Int.ediv_one]
  rw [if_pos hok]
theorem time_doc {pl pa d : Int} (h : 0 ≤ pl ∧ pl ≤ 1000) (h3 : Three pa d) : time pl pa d = (if pl % 2 = 0 then ⟨pl / 2, 1⟩ else ⟨pl / 2 * d + pa, d⟩) ∧ (time pl pa d).ok = true := by
  unfold time
  split
  · have := of_low (n := pl / 2) (d := 1) (by omega) (by omega) (by simp)
    rw [this.1]; exact ⟨rfl, this.2⟩
  · have hg : Int.gcd (pl / 2 * d + pa) d = 1 := by
      rw [Int.add_comm, Int.gcd_add_mul_right_left]
      rcases h3 with ⟨rfl, rfl⟩ | ⟨rfl, rfl⟩ | ⟨rfl, rfl⟩ <;> decide
    have := of_low (n := pl / 2 * d + pa) (d := d) (by rcases h3 with ⟨rfl, rfl⟩ | ⟨rfl, rfl⟩ | ⟨rfl, rfl⟩ <;> omega) (by rcases h3 with ⟨rfl, rfl⟩ | ⟨rfl, rfl⟩ | ⟨rfl, rfl⟩ <;> omega) hg
    rw [this.1]; exact ⟨rfl, this.2⟩
theorem parts_three {r : Int} (h : 0 ≤ r ∧ r < 3) : Three (parts r).1 (parts r).2.2 ∧ Three (parts r).2.1 (parts r).2.2 := by
  rcases (by omega : r = 0 ∨ r = 1 ∨ r = 2) with rfl | rfl | rfl <;> simp [parts, Three]
end Rg
end Go.Proofs.YtjbhpfmnfdebkaaGreat

namespace Go.Proofs.YtjbhpfmnfdebkaaGreat
set_option linter.unusedVariables false
set_option linter.unusedSimpArgs false
open Go.RowKit Go.Proofs.YtjbhpfmnfdebkaaGreat.Eng Enc
namespace Ky
open Dbm Mi
def pl (x : Rat) : Int := if fr x = 0 then 2 * x.floor else 2 * x.floor + 1
def od (x y : Rat) : Int := if fr x = 0 ∨ fr y = 0 then 1 else if fr x < fr y then 0 else if fr x = fr y then 1 else 2
theorem pl_two {x y : Rat} (h : pl x = pl y) : x.floor = y.floor ∧ (fr x = 0 ↔ fr y = 0) := by
  unfold pl at h
  by_cases h1 : fr x = 0 <;> by_cases h2 : fr y = 0 <;> simp only [h1, h2, if_true, if_false] at h
  · exact ⟨by omega, by simp [h1, h2]⟩
  · omega
  · omega
  · exact ⟨by omega, by simp [h1, h2]⟩
theorem od_le {x y x' y' : Rat} (hx : fr x = 0 ↔ fr x' = 0) (hy : fr y = 0 ↔ fr y' = 0) (h : od x y = od x' y') : (fr x ≤ fr y ↔ fr x' ≤ fr y') ∧ (fr y ≤ fr x ↔ fr y' ≤ fr x') := by
  have a1 := fr_nonneg x
  have a2 := fr_nonneg y
  have a3 := fr_nonneg x'
  have a4 := fr_nonneg y'
  unfold od at h
  by_cases h1 : fr x = 0
  · have h1' := hx.1 h1
    by_cases h2 : fr y = 0
    · have h2' := hy.1 h2
      rw [h1, h2, h1', h2']
      exact ⟨Iff.rfl, Iff.rfl⟩
    · have h2' : ¬ fr y' = 0 := fun e => h2 (hy.2 e)
      rw [h1, h1']
      exact ⟨⟨fun _ => a4, fun _ => a2⟩, ⟨fun k => absurd (by grind) h2, fun k => absurd (by grind) h2'⟩⟩
  · have h1' : ¬ fr x' = 0 := fun e => h1 (hx.2 e)
    by_cases h2 : fr y = 0
    · have h2' := hy.1 h2
      rw [h2, h2']
      exact ⟨⟨fun k => absurd (by grind) h1, fun k => absurd (by grind) h1'⟩, ⟨fun _ => a3, fun _ => a1⟩⟩
    · have h2' : ¬ fr y' = 0 := fun e => h2 (hy.2 e)
      simp only [h1, h2, h1', h2', or_self, if_false] at h
      by_cases k1 : fr x < fr y <;> by_cases k2 : fr x' < fr y' <;> simp only [k1, k2, if_true, if_false] at h
      · grind
      · split at h <;> omega
      · split at h <;> omega
      · by_cases k3 : fr x = fr y <;> by_cases k4 : fr x' = fr y' <;> simp only [k3, k4, if_true, if_false] at h
        · grind
        · omega
        · omega
        · grind
theorem alike_of {t t' : Nat → Rat} (h0 : t 0 = 0) (h0' : t' 0 = 0) (h1 : pl (t 1) = pl (t' 1)) (h2 : pl (t 2) = pl (t' 2)) (h3 : od (t 1) (t 2) = od (t' 1) (t' 2)) : Alike t t' := by
  obtain ⟨a1, a2⟩ := pl_two h1
  obtain ⟨b1, b2⟩ := pl_two h2
  obtain ⟨c1, c2⟩ := od_le a2 b2 h3
  have z : fr (0 : Rat) = 0 := fr_int 0
  have n1 := fr_nonneg (t 1)
  have n2 := fr_nonneg (t 2)
  have n3 := fr_nonneg (t' 1)
  have n4 := fr_nonneg (t' 2)
  have e1 : ∀ x : Rat, 0 ≤ x → (x ≤ 0 ↔ x = 0) := fun x hx => ⟨fun h => by grind, fun h => by grind⟩
  refine ⟨fun i hi => ?_, fun i j hi hj => ?_⟩
  · rw [h0, h0']
    rcases (by omega : i = 0 ∨ i = 1 ∨ i = 2) with rfl | rfl | rfl
    · rw [h0, h0']
    · rw [a1]
    · rw [b1]
  · rcases (by omega : i = 0 ∨ i = 1 ∨ i = 2) with rfl | rfl | rfl <;> rcases (by omega : j = 0 ∨ j = 1 ∨ j = 2) with rfl | rfl | rfl
    · exact ⟨fun _ => Rat.le_refl, fun _ => Rat.le_refl⟩
    · rw [h0, h0', z]; exact ⟨fun _ => n3, fun _ => n1⟩
    · rw [h0, h0', z]; exact ⟨fun _ => n4, fun _ => n2⟩
    · rw [h0, h0', z, e1 _ n1, e1 _ n3]; exact a2
    · exact ⟨fun _ => Rat.le_refl, fun _ => Rat.le_refl⟩
    · exact c1
    · rw [h0, h0', z, e1 _ n2, e1 _ n4]; exact b2
    · exact c2
    · exact ⟨fun _ => Rat.le_refl, fun _ => Rat.le_refl⟩
theorem v_parts {a : Rt} (ha : a.ok = true) : (Fr.v a).floor = a.num / a.den ∧ fr (Fr.v a) = ((a.num % a.den : Int) : Rat) / ((a.den : Int) : Rat) ∧ (0 : Rat) < ((a.den : Int) : Rat) := by
  have oa := Fr.ok_bd ha
  have hd : (0 : Rat) < ((a.den : Int) : Rat) := by exact_mod_cast (by omega : 0 < a.den)
  have hd0 : ((a.den : Int) : Rat) ≠ 0 := by grind
  have e1 : (a.num : Rat) = ((a.num / a.den : Int) : Rat) * (a.den : Rat) + ((a.num % a.den : Int) : Rat) := by
    rw [← Rat.intCast_mul, ← Rat.intCast_add]
    congr 1
    have := Int.mul_ediv_add_emod a.num a.den
    rw [Int.mul_comm] at this
    omega
  have e2 : Fr.v a = ((a.num / a.den : Int) : Rat) + ((a.num % a.den : Int) : Rat) / ((a.den : Int) : Rat) := by
    unfold Fr.v
    rw [e1]
    grind
  have g0 : (0 : Rat) ≤ ((a.num % a.den : Int) : Rat) / ((a.den : Int) : Rat) := by
    rw [← Rat.not_lt, Rat.div_lt_iff hd, Rat.zero_mul]
    have : (0 : Rat) ≤ ((a.num % a.den : Int) : Rat) := by exact_mod_cast oa.2.2.2.2.1
    grind
  have g1 : ((a.num % a.den : Int) : Rat) / ((a.den : Int) : Rat) < 1 := by
    rw [Rat.div_lt_iff hd, Rat.one_mul]
    exact_mod_cast oa.2.2.2.2.2
  obtain ⟨f1, f2⟩ := fl_add (n := a.num / a.den) g0 g1
  rw [e2]
  exact ⟨f1, f2, hd⟩
theorem fr_v_zero {a : Rt} (ha : a.ok = true) : fr (Fr.v a) = 0 ↔ a.num % a.den = 0 := by
  obtain ⟨_, h2, h3⟩ := v_parts ha
  rw [h2]
  constructor
  · intro h
    have h4 : ((a.num % a.den : Int) : Rat) = 0 := by
      have h5 : ((a.den : Int) : Rat) ≠ 0 := by grind
      grind
    exact_mod_cast h4
  · intro h
    rw [h, Rat.intCast_zero, Rat.div_def, Rat.zero_mul]
theorem pl_place {a : Rt} (ha : a.ok = true) : pl (Fr.v a) = Rg.place a := by
  have oa := Fr.ok_bd ha
  unfold pl
  rw [Rg.place_den ha, (v_parts ha).1, Rg.floor_ok ha]
  by_cases h : a.den = 1
  · rw [if_pos ((fr_v_zero ha).2 ((Rg.den_one ha).2 h)), if_pos h, h, Int.ediv_one]
  · rw [if_neg (fun e => h ((Rg.den_one ha).1 ((fr_v_zero ha).1 e))), if_neg h]
theorem fr_v_lt {a b : Rt} (ha : a.ok = true) (hb : b.ok = true) : (fr (Fr.v a) < fr (Fr.v b) ↔ Rg.rX a b < Rg.rX b a) ∧ (fr (Fr.v a) = fr (Fr.v b) ↔ Rg.rX a b = Rg.rX b a) := by
  obtain ⟨_, a2, a3⟩ := v_parts ha
  obtain ⟨_, b2, b3⟩ := v_parts hb
  rw [a2, b2]
  unfold Rg.rX
  generalize a.num % a.den = r
  generalize b.num % b.den = s
  have key : ∀ x y : Int, ((r : Rat) / ((a.den : Int) : Rat) < (s : Rat) / ((b.den : Int) : Rat) ↔ r * b.den < s * a.den) := fun _ _ => by
    rw [Rat.div_lt_iff a3]
    have e : (s : Rat) / ((b.den : Int) : Rat) * ((a.den : Int) : Rat) = ((s * a.den : Int) : Rat) / ((b.den : Int) : Rat) := by rw [Rat.intCast_mul]; grind
    rw [e, Rat.lt_div_iff b3, ← Rat.intCast_mul, Rat.intCast_lt_intCast]
  have key2 : ((s : Rat) / ((b.den : Int) : Rat) < (r : Rat) / ((a.den : Int) : Rat) ↔ s * a.den < r * b.den) := by
    rw [Rat.div_lt_iff b3]
    have e : (r : Rat) / ((a.den : Int) : Rat) * ((b.den : Int) : Rat) = ((r * b.den : Int) : Rat) / ((a.den : Int) : Rat) := by rw [Rat.intCast_mul]; grind
    rw [e, Rat.lt_div_iff a3, ← Rat.intCast_mul, Rat.intCast_lt_intCast]
  have key1 := key 0 0
  refine ⟨key1, ⟨fun h => ?_, fun h => ?_⟩⟩
  · have h1 : ¬ r * b.den < s * a.den := fun k => by have := key1.2 k; grind
    have h2 : ¬ s * a.den < r * b.den := fun k => by have := key2.2 k; grind
    omega
  · have h1 : ¬ (r : Rat) / ((a.den : Int) : Rat) < (s : Rat) / ((b.den : Int) : Rat) := fun k => by have := key1.1 k; omega
    have h2 : ¬ (s : Rat) / ((b.den : Int) : Rat) < (r : Rat) / ((a.den : Int) : Rat) := fun k => by have := key2.1 k; omega
    grind
theorem od_order {p : Pt} (ht : p.t.ok = true) (hu : p.u.ok = true) : od (Fr.v p.t) (Fr.v p.u) = Rg.order p := by
  obtain ⟨l1, l2⟩ := fr_v_lt ht hu
  have o1 := Rg.odd_den ht
  have o2 := Rg.odd_den hu
  unfold od Rg.order
  have z1 := (fr_v_zero ht).trans (Rg.den_one ht)
  have z2 := (fr_v_zero hu).trans (Rg.den_one hu)
  by_cases h1 : p.t.den = 1
  · rw [if_pos (.inl (z1.2 h1)), if_neg (fun h => o1.1 h.1 h1)]
  by_cases h2 : p.u.den = 1
  · rw [if_pos (.inr (z2.2 h2)), if_neg (fun h => o2.1 h.2 h2)]
  rw [if_neg (fun h => h.elim (fun e => h1 (z1.1 e)) (fun e => h2 (z2.1 e))), if_pos (show Rg.place p.t % 2 = 1 ∧ Rg.place p.u % 2 = 1 from ⟨o1.2 h1, o2.2 h2⟩), Rg.cmp_part ht hu]
  unfold cmpI
  by_cases k1 : Rg.rX p.t p.u < Rg.rX p.u p.t
  · rw [if_pos (l1.2 k1), if_pos k1]; rfl
  · rw [if_neg (fun h => k1 (l1.1 h)), if_neg k1]
    by_cases k2 : Rg.rX p.t p.u = Rg.rX p.u p.t
    · rw [if_pos (l2.2 k2), if_neg (by omega)]; rfl
    · rw [if_neg (fun h => k2 (l2.1 h)), if_pos (by omega)]; rfl
theorem tvs_zero (l : List Rt) : Dbm.tvs l 0 = 0 := by
  show Fr.v ⟨0, 1⟩ = 0
  decide +kernel
theorem key_pt {t : Nat → Rat} {long : Int} (hl : 1 ≤ long ∧ long ≤ 16) (h0 : t 0 = 0) (hT : 0 ≤ t 1) (hlt : t 1 < t 2) (hU : t 2 ≤ (long : Rat)) :
    ∃ n : Int, 0 ≤ n ∧ n < (Rg.many long).1 ∧ (Rg.point n long).2 = true ∧ (Rg.pt n long).t.ok = true ∧ (Rg.pt n long).u.ok = true ∧ Alike t (Dbm.tvs [(Rg.pt n long).t, (Rg.pt n long).u]) := by
  have hs : Rg.sides long = 2 * long + 1 := rfl
  have e1 := eq_fr (t 1)
  have e2 := eq_fr (t 2)
  have n1 := fr_nonneg (t 1)
  have n2 := fr_nonneg (t 2)
  have u1 := fr_lt (t 1)
  have u2 := fr_lt (t 2)
  have f1 : 0 ≤ (t 1).floor := Rat.le_floor_iff.2 (by rw [Rat.intCast_zero]; exact hT)
  have f2 : (t 2).floor ≤ long := by
    have := Rat.floor_le (t 2)
    have h : ((t 2).floor : Rat) ≤ (long : Rat) := by grind
    exact_mod_cast h
  have f3 : (t 1).floor ≤ (t 2).floor := by
    have h1 := Rat.floor_le (t 1)
    exact Rat.le_floor_iff.2 (by grind)
  have f4 : (t 2).floor = long → fr (t 2) = 0 := fun h => by
    rw [h] at e2; grind
  have f5 : (t 1).floor = (t 2).floor → fr (t 1) < fr (t 2) := fun h => by
    rw [h] at e1; grind
  have c1 : (fr (t 1) = 0 ∧ pl (t 1) = 2 * (t 1).floor) ∨ (fr (t 1) ≠ 0 ∧ pl (t 1) = 2 * (t 1).floor + 1) := by
    unfold pl
    by_cases z : fr (t 1) = 0
    · exact .inl ⟨z, if_pos z⟩
    · exact .inr ⟨z, if_neg z⟩
  have c2 : (fr (t 2) = 0 ∧ pl (t 2) = 2 * (t 2).floor) ∨ (fr (t 2) ≠ 0 ∧ pl (t 2) = 2 * (t 2).floor + 1) := by
    unfold pl
    by_cases z : fr (t 2) = 0
    · exact .inl ⟨z, if_pos z⟩
    · exact .inr ⟨z, if_neg z⟩
  have c3 : ((fr (t 1) = 0 ∨ fr (t 2) = 0) ∧ od (t 1) (t 2) = 1) ∨ ((fr (t 1) ≠ 0 ∧ fr (t 2) ≠ 0) ∧ ((fr (t 1) < fr (t 2) ∧ od (t 1) (t 2) = 0) ∨ (¬ fr (t 1) < fr (t 2) ∧ (od (t 1) (t 2) = 1 ∨ od (t 1) (t 2) = 2)))) := by
    unfold od
    by_cases z : fr (t 1) = 0 ∨ fr (t 2) = 0
    · exact .inl ⟨z, if_pos z⟩
    · rw [if_neg z]
      refine .inr ⟨⟨fun e => z (.inl e), fun e => z (.inr e)⟩, ?_⟩
      by_cases k : fr (t 1) < fr (t 2)
      · exact .inl ⟨k, if_pos k⟩
      · rw [if_neg k]
        refine .inr ⟨k, ?_⟩
        split
        · exact .inl rfl
        · exact .inr rfl
  have f6 : (t 1).floor = (t 2).floor → fr (t 2) ≠ 0 := fun h e => by have := f5 h; grind
  have hmay : Rg.may3 (pl (t 1)) (pl (t 2)) (od (t 1) (t 2)) = true := by
    simp only [Rg.may3, Bool.and_eq_true, Bool.or_eq_true, decide_eq_true_eq]
    rcases c1 with ⟨a1, a2⟩ | ⟨a1, a2⟩ <;> rcases c2 with ⟨b1, b2⟩ | ⟨b1, b2⟩
    · have h6 : (t 1).floor ≠ (t 2).floor := fun h => f6 h b1
      rcases c3 with ⟨_, d⟩ | ⟨⟨d, _⟩, _⟩
      · omega
      · exact absurd a1 d
    · have h4 : (t 2).floor ≠ long := fun h => b1 (f4 h)
      rcases c3 with ⟨_, d⟩ | ⟨⟨d, _⟩, _⟩
      · omega
      · exact absurd a1 d
    · have h6 : (t 1).floor ≠ (t 2).floor := fun h => f6 h b1
      rcases c3 with ⟨_, d⟩ | ⟨⟨_, d⟩, _⟩
      · omega
      · exact absurd b1 d
    · have h4 : (t 2).floor ≠ long := fun h => b1 (f4 h)
      rcases c3 with ⟨d, _⟩ | ⟨_, ⟨_, d⟩ | ⟨d1, d2⟩⟩
      · rcases d with d | d
        · exact absurd d a1
        · exact absurd d b1
      · omega
      · have h6 : (t 1).floor ≠ (t 2).floor := fun h => d1 (f5 h)
        omega
  have hTb : 0 ≤ pl (t 1) ∧ pl (t 1) < 33 := by
    simp only [Rg.may3, Bool.and_eq_true, Bool.or_eq_true, decide_eq_true_eq] at hmay
    omega
  have hUb : pl (t 2) < Rg.sides long := by
    rw [hs]
    unfold pl
    split
    · omega
    · rename_i z2
      have : (t 2).floor ≠ long := fun h => z2 (f4 h)
      omega
  have hg := Rg.may_good hTb hmay
  unfold Rg.good3 at hg
  simp only [Bool.and_eq_true, decide_eq_true_eq] at hg
  obtain ⟨⟨⟨g1, g2⟩, g3⟩, g4⟩ := hg
  have hnum : Rg.number (Rg.pt3 (pl (t 1)) (pl (t 2)) (od (t 1) (t 2))) long = 3 * (pl (t 1) * Rg.sides long + pl (t 2)) + od (t 1) (t 2) := by
    unfold Rg.number
    rw [if_neg (by rw [g2, g3]; omega), g2, g3, g4]
  have hpos : 0 ≤ 3 * (pl (t 1) * Rg.sides long + pl (t 2)) + od (t 1) (t 2) := by
    have h1 : 0 ≤ pl (t 1) * Rg.sides long := Int.mul_nonneg hTb.1 (by rw [hs]; omega)
    have h2 : pl (t 1) ≤ pl (t 2) := by
      simp only [Rg.may3, Bool.and_eq_true, Bool.or_eq_true, decide_eq_true_eq] at hmay
      omega
    omega
  obtain ⟨r1, r2, r3, r4, r5, r6, r7, r8, r9⟩ := Rg.rep_of hl (p := Rg.pt3 (pl (t 1)) (pl (t 2)) (od (t 1) (t 2))) (by rw [hnum]; exact hpos)
  refine ⟨_, r3, r4, r2, r5, r6, alike_of h0 (tvs_zero _) ?_ ?_ ?_⟩
  · exact ((pl_place r5).trans (r7.trans g2)).symm
  · exact ((pl_place r6).trans (r8.trans g3)).symm
  · exact ((od_order r5 r6).trans (r9.trans g4)).symm
end Ky
end Go.Proofs.YtjbhpfmnfdebkaaGreat

namespace Go.Proofs.YtjbhpfmnfdebkaaGreat
set_option linter.unusedVariables false
open Go.RowKit Go.Shelf Go.Proofs.YtjbhpfmnfdebkaaGreat.Eng
attribute [local go_sem] Oper.semAt_some

namespace VZ
def firstN {α : Type} (f : Nat → α) (k : Nat) : List α := (List.range k).map f
theorem firstN_succ {α : Type} (f : Nat → α) (k : Nat) : firstN f (k + 1) = firstN f k ++ [f k] := by simp [firstN, List.range_succ]
theorem firstN_len {α : Type} (f : Nat → α) (k : Nat) : (firstN f k).length = k := by simp [firstN]
def nth (zs : List Zn) (j : Nat) : Zn := zs[j]?.getD ⟨0, 0, 0, 0, 0, 0⟩
theorem firstN_take (zs : List Zn) {k : Nat} (hk : k ≤ zs.length) : firstN (nth zs) k = zs.take k := by
  apply List.ext_getElem
  · simp [firstN, hk]
  · intro i h1 h2
    have : i < zs.length := by simp [firstN] at h1; omega
    simp [firstN, nth, this]
end VZ
open VZ
theorem grown_anyV {X Y : World} (h : X.grownBy Y none) (row : Option Nat) : X.grownBy Y row := ⟨h.os, h.tape, h.output, h.size, fun k hk _ => h.block k hk (fun e => nomatch e)⟩
set_option maxRecDepth 100000 in
set_option maxHeartbeats 2000000 in
theorem valuesZ1_in (n : Nat) (hn : 1 ≤ n) (l Bs n₀ b off len cap : Nat) (f : Nat → Zn) (hreach : len * 48 ≤ 140737488351232) (hb : b < n₀) (J Jx : List Zn → World → Prop) (hJg : ∀ pre A B, J pre A → A.grownBy B none → J pre B)
    (hY : ∀ pre x W, J pre W → pre.length < len → YieldAt Fence.wide (n - 1) Tryz.prog l #[.agg #[.int .i64 x.a, .int .i64 x.b, .int .i64 x.c, .int .i64 x.d, .int .i64 x.e, .int .i64 x.f]] W fun e W' =>
      (e = .returned (.bool true) ∧ J (pre ++ [x]) W' ∧ Below n₀ W W') ∨ (e = .returned (.bool false) ∧ Jx (pre ++ [x]) W'))
    (W : World) (hn0 : n₀ ≤ W.heap.size) (hBs : W.cell? ⟨Bs, 0, none⟩ = some (.slice (some ⟨b, off, none⟩) len cap))
    (c0 : ∀ j, j < len → W.cell? ⟨b, off + j * 6, none⟩ = some (.int .i64 (f j).a)) (c1 : ∀ j, j < len → W.cell? ⟨b, off + j * 6 + 1, none⟩ = some (.int .i64 (f j).b))
    (c2 : ∀ j, j < len → W.cell? ⟨b, off + j * 6 + 2, none⟩ = some (.int .i64 (f j).c)) (c3 : ∀ j, j < len → W.cell? ⟨b, off + j * 6 + 3, none⟩ = some (.int .i64 (f j).d))
    (c4 : ∀ j, j < len → W.cell? ⟨b, off + j * 6 + 4, none⟩ = some (.int .i64 (f j).e)) (c5 : ∀ j, j < len → W.cell? ⟨b, off + j * 6 + 5, none⟩ = some (.int .i64 (f j).f)) (h0 : J [] W) :
    CallsIn Fence.wide n Tryz.prog 258 #[.func (.yield l) #[] #[], .pointer (some ⟨Bs, 0, none⟩)] W fun e W' => (∃ v, e = .returned v) ∧
      ((∃ ys, ys = firstN f len ∧ J ys W') ∨ (∃ pre, (∃ k, k ≤ len ∧ pre = firstN f k) ∧ Jx pre W')) := by
  refine callsIn_of_wp Tryz.func258 rfl trivial ?_ rfl
  simp only [Tryz.ntmps258, List.size_toArray, List.length_cons, List.length_nil, Nat.reduceAdd, Nat.reduceSub, Array.replicate_succ, Array.replicate_zero, List.push_toArray, List.append_toArray, List.nil_append, List.cons_append]
  gi_wp2
  gi_loopw [7] (fun i wr => ∃ k : Nat, k ≤ len ∧ i = .int .i64 k ∧ J (firstN f k) wr ∧ Below n₀ W wr)
    (fun i _ => len - (intOf i).toNat)
  case atStart => exact ⟨0, Nat.zero_le _, rfl, h0, Below.refl _ _⟩
  case round =>
    obtain ⟨k, hk, rfl, hJs, hnx⟩ := hrel
    have g0 : k < len → wr.cell? ⟨b, off + k * 6, none⟩ = some (.int .i64 (f k).a) := fun h => (hnx.cell (p := ⟨b, off + k * 6, none⟩) hb).trans (c0 k h)
    have g1 : k < len → wr.cell? ⟨b, off + k * 6 + 1, none⟩ = some (.int .i64 (f k).b) := fun h => (hnx.cell (p := ⟨b, off + k * 6 + 1, none⟩) hb).trans (c1 k h)
    have g2 : k < len → wr.cell? ⟨b, off + k * 6 + 2, none⟩ = some (.int .i64 (f k).c) := fun h => (hnx.cell (p := ⟨b, off + k * 6 + 2, none⟩) hb).trans (c2 k h)
    have g3 : k < len → wr.cell? ⟨b, off + k * 6 + 3, none⟩ = some (.int .i64 (f k).d) := fun h => (hnx.cell (p := ⟨b, off + k * 6 + 3, none⟩) hb).trans (c3 k h)
    have g4 : k < len → wr.cell? ⟨b, off + k * 6 + 4, none⟩ = some (.int .i64 (f k).e) := fun h => (hnx.cell (p := ⟨b, off + k * 6 + 4, none⟩) hb).trans (c4 k h)
    have g5 : k < len → wr.cell? ⟨b, off + k * 6 + 5, none⟩ = some (.int .i64 (f k).f) := fun h => (hnx.cell (p := ⟨b, off + k * 6 + 5, none⟩) hb).trans (c5 k h)
    clear c0 c1 c2 c3 c4 c5
    by_cases hlt : k < len
    · obtain ⟨fn, tmps, assign, body, hy, hR⟩ := hY _ (f k) (wr.alloc (.cells #[.int .i64 (f k).a, .int .i64 (f k).b, .int .i64 (f k).c, .int .i64 (f k).d, .int .i64 (f k).e, .int .i64 (f k).f] 104)) (hJg _ _ _ hJs (World.grownBy_alloc _ _ none)) (by rw [firstN_len]; exact hlt)
      have g0 := g0 hlt
      have g1 := g1 hlt
      have g2 := g2 hlt
      have g3 := g3 hlt
      have g4 := g4 hlt
      have g5 := g5 hlt
      gi_wp2
      refine hR.mono ?_
      rintro e W3 (⟨rfl, hJ3, hk3⟩ | ⟨rfl, hJx3⟩)
      · gi_wp2
        go_roundw
        case rel => exact ⟨k + 1, by omega, by simp, by rw [firstN_succ]; exact hJ3, hnx.trans (((Below.refl n₀ wr).alloc (Nat.le_trans hn0 hnx.size) _).trans hk3)⟩
        case measure => simp [intOf]; omega
      · gi_wp2
        refine bodyPost_ret (results_none rfl _ _ _) rfl ?_
        exact ⟨⟨_, rfl⟩, .inr ⟨_, ⟨k + 1, by omega, (firstN_succ _ _).symm⟩, hJx3⟩⟩
    · obtain rfl : k = len := by omega
      gi_wp2
      go_end0
      exact ⟨⟨_, rfl⟩, .inl ⟨_, rfl, hJs⟩⟩

set_option maxRecDepth 100000 in
set_option maxHeartbeats 1000000 in
theorem valuesZ1_nil_in (n : Nat) (l Bs : Nat) (a : Option Addr) (cap : Nat) (J : List Zn → World → Prop) (W : World) (hBs : W.cell? ⟨Bs, 0, none⟩ = some (.slice a 0 cap)) (h0 : J [] W) :
    CallsIn Fence.wide n Tryz.prog 258 #[.func (.yield l) #[] #[], .pointer (some ⟨Bs, 0, none⟩)] W fun e W' => (∃ v, e = .returned v) ∧ J [] W' := by
  refine callsIn_of_wp Tryz.func258 rfl trivial ?_ rfl
  simp only [Tryz.ntmps258, List.size_toArray, List.length_cons, List.length_nil, Nat.reduceAdd, Nat.reduceSub, Array.replicate_succ, Array.replicate_zero, List.push_toArray, List.append_toArray, List.nil_append, List.cons_append]
  gi_wp2
  gi_loopw [7] (fun i wr => i = .int .i64 0 ∧ J [] wr) (fun _ _ => 0)
  case atStart => exact ⟨rfl, h0⟩
  case round =>
    obtain ⟨rfl, hJs⟩ := hrel
    gi_wp2
    go_end0
    exact ⟨⟨_, rfl⟩, hJs⟩

set_option maxHeartbeats 1000000 in
theorem valuesZ_in (n : Nat) (a : Option Addr) (len cap : Nat) (w : World) :
    CallsIn Fence.wide n Tryz.prog 212 #[.slice a len cap] w fun e w' => e = .returned (.func (.func 258) #[] #[.pointer (some ⟨w.heap.size, 0, none⟩)]) ∧ w' = w.alloc (.cells #[.slice a len cap] 22) := by
  refine callsIn_of_wp Tryz.func212 rfl trivial ?_ rfl
  simp only [Tryz.ntmps212, List.size_toArray, List.length_cons, List.length_nil, Nat.reduceAdd, Nat.reduceSub, Array.replicate_succ, Array.replicate_zero, List.push_toArray, List.append_toArray, List.nil_append, List.cons_append]
  gi_wp2
  go_ret
  exact ⟨rfl, rfl⟩

theorem valuesZ_stopsB (n : Nat) (hn : 1 ≤ n) (Bs n₀ n1 : Nat) (a : Option Addr) (cap : Nat) (zs : List Zn) (hreach : zs.length * 48 ≤ 140737488351232) (w : World) (hBs : Bs < w.heap.size) (hn₀ : n₀ ≤ w.heap.size)
    (hc : w.cell? ⟨Bs, 0, none⟩ = some (.slice a zs.length cap)) (hI : Sl n₀ w (.slice a zs.length cap) zs) :
    SeqStopsB n Tryz.prog 258 #[.pointer (some ⟨Bs, 0, none⟩)] (fun x : Zn => #[.agg #[.int .i64 x.a, .int .i64 x.b, .int .i64 x.c, .int .i64 x.d, .int .i64 x.e, .int .i64 x.f]]) (Below n₀) (fun ys => ys = zs) (fun pre => pre <+: zs) zs.length Bs n1 w := fun l J Jx W hW hJa _ hY h0 => by
  have hc' := (hW.cell (p := ⟨Bs, 0, none⟩) hBs).trans hc
  have hI' := hI.below (hW.mono hn₀)
  by_cases hz : zs = []
  · subst hz
    exact (valuesZ1_nil_in n l Bs a cap J W hc' h0).mono fun e W' ⟨he, hj⟩ => ⟨he, .inl ⟨_, rfl, hj⟩⟩
  · have hp : 0 < zs.length := List.length_pos_iff.2 hz
    obtain ⟨a', cap', e0, _, _, _, h4⟩ := hI'
    injection e0 with e1 e2 e3
    subst e1; subst e3
    obtain ⟨b, off, rfl, hb, _⟩ := h4 0 _ (List.getElem?_eq_getElem hp)
    have hcs : ∀ j, j < zs.length → ∀ i v, (Enc.enc (nth zs j))[i]? = some v → W.cell? ⟨b, off + j * 6 + i, none⟩ = some v := fun j hj i v hv => by
      obtain ⟨b', o', e, _, hcell⟩ := h4 j _ (List.getElem?_eq_getElem hj)
      injection e with e; injection e with e1 e2
      subst e1; subst e2
      have e5 : nth zs j = zs[j] := by unfold nth; rw [List.getElem?_eq_getElem hj]; rfl
      rw [e5] at hv
      have := hcell i v hv
      rwa [← Nat.add_assoc] at this
    refine (valuesZ1_in n hn l Bs n₀ b off zs.length cap (nth zs) hreach hb J Jx (fun pre A B h hg => hJa pre A B h (grown_anyV hg _)) (fun pre x W1 hj hl => (hY pre x W1 hj hl).mono fun e W' h => h.imp id fun h => ⟨h.1, h.2.1⟩) W (Nat.le_trans hn₀ hW.size) hc' (fun j hj => hcs j hj 0 _ rfl) (fun j hj => hcs j hj 1 _ rfl) (fun j hj => hcs j hj 2 _ rfl) (fun j hj => hcs j hj 3 _ rfl) (fun j hj => hcs j hj 4 _ rfl) (fun j hj => hcs j hj 5 _ rfl) h0).mono ?_
    rintro e W' ⟨he, ⟨ys, rfl, hj⟩ | ⟨pre, ⟨k, hk, rfl⟩, hj⟩⟩
    · exact ⟨he, .inl ⟨_, by rw [firstN_take zs (Nat.le_refl _), List.take_length], hj⟩⟩
    · exact ⟨he, .inr ⟨_, by rw [firstN_take zs hk]; exact List.take_prefix _ _, hj⟩⟩
end Go.Proofs.YtjbhpfmnfdebkaaGreat

namespace Go.Proofs.YtjbhpfmnfdebkaaGreat
set_option linter.unusedVariables false
set_option linter.unusedSimpArgs false
set_option maxRecDepth 100000
open Go.RowKit Go.Proofs.YtjbhpfmnfdebkaaGreat.Eng Enc

theorem appendSeqZ_any (Bs : Nat) (a : Option Addr) (cap : Nat) (zs : List Zn) (hlen : zs.length ≤ 1000000) (w : World) (hc : w.cell? ⟨Bs, 0, none⟩ = some (.slice a zs.length cap)) (hS : Sl w.heap.size w (.slice a zs.length cap) zs) :
    Calls Tryz.prog 287 #[.slice none 0 0, .func (.func 258) #[] #[.pointer (some ⟨Bs, 0, none⟩)]] w fun e w' => ∃ v, e = .returned v ∧ Below Bs w w' ∧ Own 104 w.heap.size w' v zs := by
  have hBs : Bs < w.heap.size := World.block_lt_of_cell? _ _ hc
  refine fun_at 9 Bs w (Nat.le_of_lt hBs) Tryz.func287 (args := [.val (.slice none 0 0), .val (.func (.func 258) #[] #[.pointer (some ⟨Bs, 0, none⟩)])]) rfl rfl ?_
  refine NewI.mk fun b1 hb1 => ?_
  have hb1' : w.heap.size ≤ b1 := hb1
  refine RawI.mk fun ac w7 hR => ?_
  have h7 := hR.at_
  have hg7 : Below w.heap.size w w7 := at_below h7 (by simp)
  have hl1 := h7.lt b1 (by simp)
  have hc7 : w7.cell? ⟨Bs, 0, none⟩ = some (.slice a zs.length cap) := (hg7.cell (p := ⟨Bs, 0, none⟩) hBs).trans hc
  have hw7 := hg7.size
  refine rangeBu cxOk (by decide) hR rfl Tryz.call258 (valuesZ_stopsB 8 (by omega) Bs w.heap.size Bs a cap zs (by omega) w7 (by omega) hw7 hc7 (hS.below hg7)) (encs := fun x : Zn => [.agg #[.int .i64 x.a, .int .i64 x.b, .int .i64 x.c, .int .i64 x.d, .int .i64 x.e, .int .i64 x.f]]) (by omega) (Nat.le_refl Bs) (fun hm => by simp at hm; omega)
    (fun h k => h.trans k) ?_ (fun x => rfl)
    (γ := Value) (fun c => [⟨[.val c], 22⟩])
    (fun (pre : List Zn) (c : Value) W => Own 104 w7.heap.size W c pre) ?_ (.slice none 0 0) rfl Own.nil
    (fun (c : Code) (pre : List Zn) (q : Value) (W : World) => False)
    (fun _ q => [])
    (fun c q pre A B row h hg hr => h) (fun z => [(5, .loc 1 0)]) (fun z => [⟨[.val (.int .i64 z.a), .val (.int .i64 z.b), .val (.int .i64 z.c), .val (.int .i64 z.d), .val (.int .i64 z.e), .val (.int .i64 z.f)], 104⟩]) (fun c bs => ∀ k, c.ownBlock = some k → k ∉ bs) ?asg ?body ?done (fun _ _ _ _ _ _ _ _ h => h.elim)
  case asg =>
    intro l pre z c W hΦ hBW hsW hN
    refine NewI.mk fun b5 hb5 => ?_
    refine ⟨rfl, [b5], rfl, fun k hk hm => by have := hΦ.lt k hk; have hb5 : W.heap.size ≤ b5 := hb5; simp at hm; omega, Need.mk ⟨rfl, rfl, rfl, rfl⟩ (EndI.mk fun w9 h9 => ?_)⟩
    have hg := at_below h9 (fun b hb => by simp at hb; subst hb; exact hb5)
    exact ⟨below_keepsFrom hg _, hg.mono (by omega), hΦ.below hg⟩
  · exact fun W l o o' hl ho h1 h2 => ⟨rfl, rfl, rfl, by simp, fun k hk => World.putObj_heap_other (by omega)⟩
  · rintro c pre A C row hO hg hr
    have hO : Own 104 w7.heap.size A c pre := hO
    refine Own.kept hO hg ?_
    obtain ⟨_, ⟨e, _⟩ | ⟨g, cp, cur, e, hbg, hgb, _⟩⟩ := id hO
    · rw [e]; exact .inl rfl
    · rw [e]
      refine .inr (fun e' => ?_)
      rcases hr g e'.symm with h | ⟨_, o, ho, hcl⟩
      · omega
      · rw [hgb] at ho; cases ho; cases hcl
  case body =>
    intro l pre x c bs W hbs hψ hO hBW hsW hN
    have hO : Own 104 w7.heap.size W c pre := hO
    obtain ⟨b5, rfl⟩ := List.length_eq_one_iff.1 hbs
    refine NewI.mk fun b6 hb6 => ?_
    have hb6' : W.heap.size ≤ b6 := hb6
    have hr : ∀ k, c.ownBlock = some k → Bs ≤ k ∧ k ∉ [b1, b5, b6] := fun k hk => by
      have hkk := hO.lt k hk
      have h5 := hψ k hk
      simp at h5
      refine ⟨by omega, fun hm => ?_⟩
      simp only [List.mem_cons, List.not_mem_nil, or_false] at hm
      omega
    refine GenN.app (α := Zn) elZ pre [x] w7.heap.size (fun w5 h5 => hO.below h5.go) (fun w5 h5 => src_own h5 2 rfl rfl rfl rfl) (by unfold maxLen; simp; omega) (by simp; omega) (fun w5 h5 => Nat.le_trans hsW h5.size)
      (fun w5 w6 h5 hg => keep_grown h5 hg hr) fun sv' w5 w6 h5 hg hO' => ?_
    obtain ⟨a', c', rfl⟩ := hO'.form
    refine ⟨.slice a' (pre ++ [x]).length c', ?_⟩
    refine Need.mk (CovH.mk rfl rfl rfl) (EndI.mk fun w9 h9 => ?_)
    have hW9 : W.heap.size ≤ w9.heap.size := Nat.le_trans h5.size (Nat.le_trans hg.size h9.size)
    have keep1 : ∀ k, k < W.heap.size → k ≠ b1 → c.ownBlock ≠ some k → w9.heap[k]? = W.heap[k]? := fun k hkW h3 hrow => by
      refine (h9.step k (Nat.lt_of_lt_of_le hkW (Nat.le_trans h5.size hg.size)) (fun hm => ?_)).trans ((hg.block k (Nat.lt_of_lt_of_le hkW h5.size) (fun e => hrow e.symm)).trans (h5.go.block k hkW))
      simp at hm; omega
    have row : ∀ k, k < w7.heap.size → c.ownBlock ≠ some k := fun k hk e => by have := hO.lt k e; omega
    refine ⟨⟨hW9, fun k o hk7 hk hcl => ?_⟩, ?_, ?_⟩
    · have hkW : k < W.heap.size := (Array.getElem?_eq_some_iff.1 hk).1
      refine (keep1 k hkW (by omega) (fun e => ?_)).trans hk
      obtain ⟨_, ⟨e0, _⟩ | ⟨g, cp, cur, e0, _, hgb, _⟩⟩ := id hO
      · rw [e0] at e; cases e
      · rw [e0] at e
        injection e with e
        subst e
        rw [hgb] at hk; cases hk; cases hcl
    · have hb9 := h9.below
      exact ⟨hb9.os.trans hBW.os.symm, hb9.tape.trans hBW.tape.symm, hb9.output.trans hBW.output.symm, hW9, fun k hk => keep1 k (by omega) (by omega) (row k (by omega))⟩
    · exact hO'.at h9 (fun b hb => by simp at hb; subst hb; exact hl1)
  case done =>
    rintro D xs c W hD hSx hO hmark
    have hO : Own 104 w7.heap.size W c xs := hO
    subst hSx
    have hDW : D < W.heap.size := (Array.getElem?_eq_some_iff.1 hmark).1
    obtain ⟨a', c', rfl⟩ := hO.form
    refine EndM.mk fun w10 h10 => ⟨⟨show Bs ≤ D by omega, (h10.step D hDW (by simp)).trans hmark⟩, fun w11 hu => ?_⟩
    have hO10 := hO.at h10 (by simp)
    refine (Own.kept (row := some D) hO10 ⟨hu.2.1, hu.2.2.1, hu.2.2.2.1, by rw [hu.1]; exact Nat.le_refl _, fun k _ hk => hu.2.2.2.2 k (fun e => hk (by rw [e]))⟩ ?_).lower hw7
    obtain ⟨_, ⟨e, _⟩ | ⟨g, cp, cur, e, _, hgb, _⟩⟩ := id hO10
    · rw [e]; exact .inl rfl
    · rw [e]
      refine .inr (fun e' => ?_)
      injection e' with e'
      subst e'
      have := (h10.step _ hDW (by simp)).trans hmark
      rw [hgb] at this; cases this

theorem collectZ_any (Bs : Nat) (a : Option Addr) (cap : Nat) (zs : List Zn) (hlen : zs.length ≤ 1000000) (w : World) (hc : w.cell? ⟨Bs, 0, none⟩ = some (.slice a zs.length cap)) (hS : Sl w.heap.size w (.slice a zs.length cap) zs) :
    Calls Tryz.prog 256 #[.func (.func 258) #[] #[.pointer (some ⟨Bs, 0, none⟩)]] w fun e w' => ∃ v, e = .returned v ∧ Below Bs w w' ∧ Own 104 w.heap.size w' v zs := by
  have hBs : Bs < w.heap.size := World.block_lt_of_cell? _ _ hc
  refine fun_at 0 Bs w (Nat.le_of_lt hBs) Tryz.func256 (args := [.val (.func (.func 258) #[] #[.pointer (some ⟨Bs, 0, none⟩)])]) rfl rfl ?_
  refine CallI.mk fun w1 h1 => ?_
  have hg1 : Below w.heap.size w w1 := h1.go
  refine (appendSeqZ_any Bs a cap zs hlen w1 ((hg1.cell (p := ⟨Bs, 0, none⟩) hBs).trans hc) (hS.go hg1 hg1.size)).mono ?_
  rintro e w2 ⟨v, rfl, hB2, hO⟩
  refine ⟨⟨hB2, by simp⟩, _, rfl, ?_⟩
  obtain ⟨a', c', rfl⟩ := hO.form
  exact EndI.mk fun w3 h3 => (hO.at h3 (by simp)).lower hg1.size
end Go.Proofs.YtjbhpfmnfdebkaaGreat

namespace Go.Proofs.YtjbhpfmnfdebkaaGreat
set_option linter.unusedVariables false
set_option linter.unusedSimpArgs false
set_option maxRecDepth 100000
open Go.RowKit Go.Shelf

namespace Zo
def cmp (x y : Zn) : Int :=
  if cmpI x.a y.a ≠ 0 then cmpI x.a y.a else if cmpI x.b y.b ≠ 0 then cmpI x.b y.b else if cmpI x.c y.c ≠ 0 then cmpI x.c y.c
  else if cmpI x.d y.d ≠ 0 then cmpI x.d y.d else if cmpI x.e y.e ≠ 0 then cmpI x.e y.e else if cmpI x.f y.f ≠ 0 then cmpI x.f y.f else 0
end Zo
theorem nanB_at (a : Int) (w : World) : Calls Tryz.prog 309 #[.int .i64 a] w fun e w' => e = .returned (.bool false) ∧ w' = w := by
  go_enter Tryz.func309, Tryz.ntmps309
  go_wp2
  go_ret
  exact ⟨by simp, rfl⟩
theorem cmpB_at (x y : Int) (w : World) : Calls Tryz.prog 289 #[.int .i64 x, .int .i64 y] w fun e w' => e = .returned (.int .i64 (cmpI x y)) ∧ w' = w := by
  have key : (x < y ∧ cmpI x y = -1) ∨ (¬ x < y ∧ y < x ∧ cmpI x y = 1) ∨ (¬ x < y ∧ ¬ y < x ∧ cmpI x y = 0) := by unfold cmpI; split <;> (try split) <;> omega
  rcases key with ⟨h1, h⟩ | ⟨h1, h2, h⟩ | ⟨h1, h2, h⟩
  all_goals (rw [h]; clear h)
  all_goals (go_enter Tryz.func289, Tryz.ntmps289)
  all_goals (go_wp2_with (go_at_call 309; refine (nanB_at _ _).mono ?_; rintro e w' ⟨rfl, rfl⟩))
  all_goals (go_ret; exact ⟨rfl, rfl⟩)
set_option maxHeartbeats 2000000 in
theorem compareB_at (bx b_y : Nat) (x y : Zn) (w : World)
    (x0 : w.cell? ⟨bx, 0, none⟩ = some (.int .i64 x.a)) (x1 : w.cell? ⟨bx, 1, none⟩ = some (.int .i64 x.b)) (x2 : w.cell? ⟨bx, 2, none⟩ = some (.int .i64 x.c)) (x3 : w.cell? ⟨bx, 3, none⟩ = some (.int .i64 x.d)) (x4 : w.cell? ⟨bx, 4, none⟩ = some (.int .i64 x.e)) (x5 : w.cell? ⟨bx, 5, none⟩ = some (.int .i64 x.f))
    (y0 : w.cell? ⟨b_y, 0, none⟩ = some (.int .i64 y.a)) (y1 : w.cell? ⟨b_y, 1, none⟩ = some (.int .i64 y.b)) (y2 : w.cell? ⟨b_y, 2, none⟩ = some (.int .i64 y.c)) (y3 : w.cell? ⟨b_y, 3, none⟩ = some (.int .i64 y.d)) (y4 : w.cell? ⟨b_y, 4, none⟩ = some (.int .i64 y.e)) (y5 : w.cell? ⟨b_y, 5, none⟩ = some (.int .i64 y.f)) :
    Calls Tryz.prog 259 #[.slice (some ⟨bx, 0, none⟩) 6 6, .slice (some ⟨b_y, 0, none⟩) 6 6] w fun e w' => e = .returned (.int .i64 (Zo.cmp x y)) ∧ w' = w := by
  unfold Zo.cmp
  by_cases h0 : cmpI x.a y.a = 0
  case neg =>
    rw [if_pos h0]
    have q0 := fun W => cmpB_at x.a y.a W
    generalize cmpI x.a y.a = c at *
    go_enter Tryz.func259, Tryz.ntmps259
    go_wp2
    refine wp_loop_rounds 1 ?_
    rw [rounds_succ]
    go_wp2_with (go_at_call 289; refine (q0 _).mono ?_; rintro e w' ⟨rfl, rfl⟩)
    go_ret
    exact ⟨rfl, rfl⟩
  rw [if_neg (by simp [h0])]
  by_cases h1 : cmpI x.b y.b = 0
  case neg =>
    rw [if_pos h1]
    have q0 := fun W => cmpB_at x.a y.a W
    rw [h0] at q0
    have q1 := fun W => cmpB_at x.b y.b W
    generalize cmpI x.b y.b = c at *
    go_enter Tryz.func259, Tryz.ntmps259
    go_wp2
    refine wp_loop_rounds 2 ?_
    rw [rounds_succ]
    go_wp2_with (go_at_call 289; refine (q0 _).mono ?_; rintro e w' ⟨rfl, rfl⟩)
    rw [rounds_succ]
    go_wp2_with (go_at_call 289; refine (q1 _).mono ?_; rintro e w' ⟨rfl, rfl⟩)
    go_ret
    exact ⟨rfl, rfl⟩
  rw [if_neg (by simp [h1])]
  by_cases h2 : cmpI x.c y.c = 0
  case neg =>
    rw [if_pos h2]
    have q0 := fun W => cmpB_at x.a y.a W
    rw [h0] at q0
    have q1 := fun W => cmpB_at x.b y.b W
    rw [h1] at q1
    have q2 := fun W => cmpB_at x.c y.c W
    generalize cmpI x.c y.c = c at *
    go_enter Tryz.func259, Tryz.ntmps259
    go_wp2
    refine wp_loop_rounds 3 ?_
    rw [rounds_succ]
    go_wp2_with (go_at_call 289; refine (q0 _).mono ?_; rintro e w' ⟨rfl, rfl⟩)
    rw [rounds_succ]
    go_wp2_with (go_at_call 289; refine (q1 _).mono ?_; rintro e w' ⟨rfl, rfl⟩)
    rw [rounds_succ]
    go_wp2_with (go_at_call 289; refine (q2 _).mono ?_; rintro e w' ⟨rfl, rfl⟩)
    go_ret
    exact ⟨rfl, rfl⟩
  rw [if_neg (by simp [h2])]
  by_cases h3 : cmpI x.d y.d = 0
  case neg =>
    rw [if_pos h3]
    have q0 := fun W => cmpB_at x.a y.a W
    rw [h0] at q0
    have q1 := fun W => cmpB_at x.b y.b W
    rw [h1] at q1
    have q2 := fun W => cmpB_at x.c y.c W
    rw [h2] at q2
    have q3 := fun W => cmpB_at x.d y.d W
    generalize cmpI x.d y.d = c at *
    go_enter Tryz.func259, Tryz.ntmps259
    go_wp2
    refine wp_loop_rounds 4 ?_
    rw [rounds_succ]
    go_wp2_with (go_at_call 289; refine (q0 _).mono ?_; rintro e w' ⟨rfl, rfl⟩)
    rw [rounds_succ]
    go_wp2_with (go_at_call 289; refine (q1 _).mono ?_; rintro e w' ⟨rfl, rfl⟩)
    rw [rounds_succ]
    go_wp2_with (go_at_call 289; refine (q2 _).mono ?_; rintro e w' ⟨rfl, rfl⟩)
    rw [rounds_succ]
    go_wp2_with (go_at_call 289; refine (q3 _).mono ?_; rintro e w' ⟨rfl, rfl⟩)
    go_ret
    exact ⟨rfl, rfl⟩
  rw [if_neg (by simp [h3])]
  by_cases h4 : cmpI x.e y.e = 0
  case neg =>
    rw [if_pos h4]
    have q0 := fun W => cmpB_at x.a y.a W
    rw [h0] at q0
    have q1 := fun W => cmpB_at x.b y.b W
    rw [h1] at q1
    have q2 := fun W => cmpB_at x.c y.c W
    rw [h2] at q2
    have q3 := fun W => cmpB_at x.d y.d W
    rw [h3] at q3
    have q4 := fun W => cmpB_at x.e y.e W
    generalize cmpI x.e y.e = c at *
    go_enter Tryz.func259, Tryz.ntmps259
    go_wp2
    refine wp_loop_rounds 5 ?_
    rw [rounds_succ]
    go_wp2_with (go_at_call 289; refine (q0 _).mono ?_; rintro e w' ⟨rfl, rfl⟩)
    rw [rounds_succ]
    go_wp2_with (go_at_call 289; refine (q1 _).mono ?_; rintro e w' ⟨rfl, rfl⟩)
    rw [rounds_succ]
    go_wp2_with (go_at_call 289; refine (q2 _).mono ?_; rintro e w' ⟨rfl, rfl⟩)
    rw [rounds_succ]
    go_wp2_with (go_at_call 289; refine (q3 _).mono ?_; rintro e w' ⟨rfl, rfl⟩)
    rw [rounds_succ]
    go_wp2_with (go_at_call 289; refine (q4 _).mono ?_; rintro e w' ⟨rfl, rfl⟩)
    go_ret
    exact ⟨rfl, rfl⟩
  rw [if_neg (by simp [h4])]
  by_cases h5 : cmpI x.f y.f = 0
  case neg =>
    rw [if_pos h5]
    have q0 := fun W => cmpB_at x.a y.a W
    rw [h0] at q0
    have q1 := fun W => cmpB_at x.b y.b W
    rw [h1] at q1
    have q2 := fun W => cmpB_at x.c y.c W
    rw [h2] at q2
    have q3 := fun W => cmpB_at x.d y.d W
    rw [h3] at q3
    have q4 := fun W => cmpB_at x.e y.e W
    rw [h4] at q4
    have q5 := fun W => cmpB_at x.f y.f W
    generalize cmpI x.f y.f = c at *
    go_enter Tryz.func259, Tryz.ntmps259
    go_wp2
    refine wp_loop_rounds 6 ?_
    rw [rounds_succ]
    go_wp2_with (go_at_call 289; refine (q0 _).mono ?_; rintro e w' ⟨rfl, rfl⟩)
    rw [rounds_succ]
    go_wp2_with (go_at_call 289; refine (q1 _).mono ?_; rintro e w' ⟨rfl, rfl⟩)
    rw [rounds_succ]
    go_wp2_with (go_at_call 289; refine (q2 _).mono ?_; rintro e w' ⟨rfl, rfl⟩)
    rw [rounds_succ]
    go_wp2_with (go_at_call 289; refine (q3 _).mono ?_; rintro e w' ⟨rfl, rfl⟩)
    rw [rounds_succ]
    go_wp2_with (go_at_call 289; refine (q4 _).mono ?_; rintro e w' ⟨rfl, rfl⟩)
    rw [rounds_succ]
    go_wp2_with (go_at_call 289; refine (q5 _).mono ?_; rintro e w' ⟨rfl, rfl⟩)
    go_ret
    exact ⟨rfl, rfl⟩
  rw [if_neg (by simp [h5])]
  have q0 := fun W => cmpB_at x.a y.a W
  rw [h0] at q0
  have q1 := fun W => cmpB_at x.b y.b W
  rw [h1] at q1
  have q2 := fun W => cmpB_at x.c y.c W
  rw [h2] at q2
  have q3 := fun W => cmpB_at x.d y.d W
  rw [h3] at q3
  have q4 := fun W => cmpB_at x.e y.e W
  rw [h4] at q4
  have q5 := fun W => cmpB_at x.f y.f W
  rw [h5] at q5
  go_enter Tryz.func259, Tryz.ntmps259
  go_wp2
  refine wp_loop_rounds 7 ?_
  rw [rounds_succ]
  go_wp2_with (go_at_call 289; refine (q0 _).mono ?_; rintro e w' ⟨rfl, rfl⟩)
  rw [rounds_succ]
  go_wp2_with (go_at_call 289; refine (q1 _).mono ?_; rintro e w' ⟨rfl, rfl⟩)
  rw [rounds_succ]
  go_wp2_with (go_at_call 289; refine (q2 _).mono ?_; rintro e w' ⟨rfl, rfl⟩)
  rw [rounds_succ]
  go_wp2_with (go_at_call 289; refine (q3 _).mono ?_; rintro e w' ⟨rfl, rfl⟩)
  rw [rounds_succ]
  go_wp2_with (go_at_call 289; refine (q4 _).mono ?_; rintro e w' ⟨rfl, rfl⟩)
  rw [rounds_succ]
  go_wp2_with (go_at_call 289; refine (q5 _).mono ?_; rintro e w' ⟨rfl, rfl⟩)
  rw [rounds_succ]
  go_wp2
  go_ret
  exact ⟨rfl, rfl⟩
theorem zcmp_at (x y : Zn) (w : World) : Calls Tryz.prog 213 #[.agg #[.int .i64 x.a, .int .i64 x.b, .int .i64 x.c, .int .i64 x.d, .int .i64 x.e, .int .i64 x.f], .agg #[.int .i64 y.a, .int .i64 y.b, .int .i64 y.c, .int .i64 y.d, .int .i64 y.e, .int .i64 y.f]] w fun e w' => e = .returned (.int .i64 (Zo.cmp x y)) ∧ ∃ q os', w' = Go.Sort.grow (w.drewN q) os' := by
  have hcon := fun W x0 x1 x2 x3 x4 x5 y0 y1 y2 y3 y4 y5 => compareB_at w.heap.size (w.heap.size + 1) x y W x0 x1 x2 x3 x4 x5 y0 y1 y2 y3 y4 y5
  generalize Zo.cmp x y = c at *
  go_enter Tryz.func213, Tryz.ntmps213
  go_wp2
  go_quiet ((go_at_call 259; exact Calls.quiet_of_same (hcon _ (by simp) (by simp) (by simp) (by simp) (by simp) (by simp) (by simp) (by simp) (by simp) (by simp) (by simp) (by simp))))
  go_wp2
  go_ret
  exact ⟨rfl, _, _, by rw [Go.Sort.alloc_eq_grow, Go.Sort.alloc_eq_grow, Go.Sort.grow_grow]; rfl⟩
end Go.Proofs.YtjbhpfmnfdebkaaGreat

namespace Go.Proofs
open Go.Shelf
def Tryz.sortZ_ren : Go.Shelf.Ren := ⟨fun | 6 => 257 | 15 => 255 | 14 => 288 | 28 => 285 | 29 => 286 | 20 => 301 | 21 => 302 | 22 => 303 | 23 => 304 | 24 => 305 | 25 => 306 | 26 => 307 | 27 => 308 | 46 => 318 | 47 => 297 | 48 => 298 | 49 => 319 | 50 => 320 | 57 => 322 | n => n, fun | 22 => 22 | 24 => 104 | 25 => 254 | 3 => 3 | 39 => 271 | 0 => 0 | 53 => 316 | 55 => 245 | 4 => 4 | 46 => 309 | 45 => 308 | 50 => 313 | 5 => 5 | 9 => 9 | 66 => 327 | 70 => 331 | 76 => 343 | 77 => 215 | n => n, fun | n => n⟩
theorem Tryz.sortZ : Go.Proofs.SlLaysF0.n6 Tryz.prog Tryz.sortZ_ren := {
  mixed := by kernel_rfl
  f6 := ⟨Tryz.f257.name, by decide, Tryz.func257.trans (congrArg some (by kernel_rfl))⟩
  f14 := ⟨Tryz.f288.name, by decide, Tryz.func288.trans (congrArg some (by kernel_rfl))⟩
  f15 := Tryz.func255.trans (congrArg some (by kernel_rfl))
  f20 := ⟨Tryz.f301.name, by decide, Tryz.func301.trans (congrArg some (by kernel_rfl))⟩
  f21 := ⟨Tryz.f302.name, by decide, Tryz.func302.trans (congrArg some (by kernel_rfl))⟩
  f22 := ⟨Tryz.f303.name, by decide, Tryz.func303.trans (congrArg some (by kernel_rfl))⟩
  f23 := ⟨Tryz.f304.name, by decide, Tryz.func304.trans (congrArg some (by kernel_rfl))⟩
  f24 := ⟨Tryz.f305.name, by decide, Tryz.func305.trans (congrArg some (by kernel_rfl))⟩
  f25 := ⟨Tryz.f306.name, by decide, Tryz.func306.trans (congrArg some (by kernel_rfl))⟩
  f26 := ⟨Tryz.f307.name, by decide, Tryz.func307.trans (congrArg some (by kernel_rfl))⟩
  f27 := ⟨Tryz.f308.name, by decide, Tryz.func308.trans (congrArg some (by kernel_rfl))⟩
  f28 := Tryz.func285.trans (congrArg some (by kernel_rfl))
  f29 := Tryz.func286.trans (congrArg some (by kernel_rfl))
  f46 := ⟨Tryz.f318.name, by decide, Tryz.func318.trans (congrArg some (by kernel_rfl))⟩
  f47 := Tryz.func297.trans (congrArg some (by kernel_rfl))
  f48 := Tryz.func298.trans (congrArg some (by kernel_rfl))
  f49 := ⟨Tryz.f319.name, by decide, Tryz.func319.trans (congrArg some (by kernel_rfl))⟩
  f50 := ⟨Tryz.f320.name, by decide, Tryz.func320.trans (congrArg some (by kernel_rfl))⟩
  f57 := ⟨Tryz.f322.name, by decide, Tryz.func322.trans (congrArg some (by kernel_rfl))⟩
  t0 := Tryz.underlying0
  a0 := Tryz.isAgg0
  z0 := Tryz.sizeOf0
  v0 := Tryz.zeroValue0
  t3 := Tryz.underlying3
  a3 := Tryz.isAgg3
  z3 := Tryz.sizeOf3
  v3 := Tryz.zeroValue3
  t4 := Tryz.underlying4
  a4 := Tryz.isAgg4
  z4 := Tryz.sizeOf4
  v4 := Tryz.zeroValue4
  t5 := Tryz.underlying5
  a5 := Tryz.isAgg5
  z5 := Tryz.sizeOf5
  v5 := Tryz.zeroValue5
  t9 := Tryz.underlying9
  a9 := Tryz.isAgg9
  z9 := Tryz.sizeOf9
  v9 := Tryz.zeroValue9
  t22 := Tryz.underlying22
  a22 := Tryz.isAgg22
  z22 := Tryz.sizeOf22
  v22 := Tryz.zeroValue22
  t25 := Tryz.underlying254
  a25 := Tryz.isAgg254
  z25 := Tryz.sizeOf254
  v25 := Tryz.zeroValue254
  t39 := Tryz.underlying271
  a39 := Tryz.isAgg271
  z39 := Tryz.sizeOf271
  v39 := Tryz.zeroValue271
  t45 := Tryz.underlying308
  a45 := Tryz.isAgg308
  z45 := Tryz.sizeOf308
  v45 := Tryz.zeroValue308
  t46 := Tryz.underlying309
  a46 := Tryz.isAgg309
  z46 := Tryz.sizeOf309
  v46 := Tryz.zeroValue309
  t50 := Tryz.underlying313
  a50 := Tryz.isAgg313
  z50 := Tryz.sizeOf313
  v50 := Tryz.zeroValue313
  t53 := Tryz.underlying316
  a53 := Tryz.isAgg316
  z53 := Tryz.sizeOf316
  v53 := Tryz.zeroValue316
  t55 := Tryz.underlying245
  a55 := Tryz.isAgg245
  z55 := Tryz.sizeOf245
  v55 := Tryz.zeroValue245
  t66 := Tryz.underlying327
  a66 := Tryz.isAgg327
  z66 := Tryz.sizeOf327
  v66 := Tryz.zeroValue327
  t70 := Tryz.underlying331
  a70 := Tryz.isAgg331
  z70 := Tryz.sizeOf331
  v70 := Tryz.zeroValue331
  t76 := Tryz.underlying343
  a76 := Tryz.isAgg343
  z76 := Tryz.sizeOf343
  v76 := Tryz.zeroValue343
  t77 := Tryz.underlying215
  a77 := Tryz.isAgg215
  z77 := Tryz.sizeOf215
  v77 := Tryz.zeroValue215 }
end Go.Proofs

namespace Go.Proofs.YtjbhpfmnfdebkaaGreat
set_option linter.unusedVariables false
set_option linter.unusedSimpArgs false
set_option maxRecDepth 100000
open Go.RowKit Go.Proofs.YtjbhpfmnfdebkaaGreat.Eng Enc Go.Shelf Go.Sort

namespace Zo
instance inhZn : Inhabited Zn := ⟨⟨0, 0, 0, 0, 0, 0⟩⟩
def Lt (x y : Zn) : Prop := x.a < y.a ∨ x.a = y.a ∧ (x.b < y.b ∨ x.b = y.b ∧ (x.c < y.c ∨ x.c = y.c ∧ (x.d < y.d ∨ x.d = y.d ∧ (x.e < y.e ∨ x.e = y.e ∧ (x.f < y.f ∨ x.f = y.f ∧ False)))))
theorem cmpI_lt (x y : Int) : cmpI x y < 0 ↔ x < y := by unfold cmpI; split <;> (try split) <;> omega
theorem cmpI_eq (x y : Int) : cmpI x y = 0 ↔ x = y := by unfold cmpI; split <;> (try split) <;> omega
theorem step_lt {x y c : Int} {P : Prop} (h : c < 0 ↔ P) : (if cmpI x y ≠ 0 then cmpI x y else c) < 0 ↔ (x < y ∨ x = y ∧ P) := by
  have h1 := cmpI_lt x y
  have h2 := cmpI_eq x y
  by_cases hc : cmpI x y = 0
  · rw [if_neg (by simp [hc]), h]
    have := h2.1 hc
    constructor
    · intro hp; exact .inr ⟨this, hp⟩
    · rintro (hl | ⟨_, hp⟩)
      · omega
      · exact hp
  · rw [if_pos hc, h1]
    constructor
    · exact .inl
    · rintro (hl | ⟨he, _⟩)
      · exact hl
      · exact absurd (h2.2 he) hc
theorem cmp_lt (x y : Zn) : cmp x y < 0 ↔ Lt x y := by
  unfold cmp Lt
  exact step_lt (step_lt (step_lt (step_lt (step_lt (step_lt (by simp))))))
theorem lex_trans {x y z : Int} {P Q R : Prop} (h : P → Q → R) : (x < y ∨ x = y ∧ P) → (y < z ∨ y = z ∧ Q) → (x < z ∨ x = z ∧ R) := by
  rintro (h1 | ⟨h1, hp⟩) (h2 | ⟨h2, hq⟩)
  · left; omega
  · left; omega
  · left; omega
  · right; exact ⟨by omega, h hp hq⟩
theorem lex_ntrans {x y z : Int} {P Q R : Prop} (h : ¬ P → ¬ Q → ¬ R) : ¬ (x < y ∨ x = y ∧ P) → ¬ (y < z ∨ y = z ∧ Q) → ¬ (x < z ∨ x = z ∧ R) := by
  intro h1 h2
  have a1 : ¬ x < y := fun h => h1 (.inl h)
  have a2 : ¬ y < z := fun h => h2 (.inl h)
  rintro (h3 | ⟨h3, hr⟩)
  · omega
  · have e1 : x = y := by omega
    have e2 : y = z := by omega
    exact h (fun hp => h1 (.inr ⟨e1, hp⟩)) (fun hq => h2 (.inr ⟨e2, hq⟩)) hr
theorem lex_tot {x y : Int} {P Q E : Prop} (h : ¬ P → ¬ Q → E) : ¬ (x < y ∨ x = y ∧ P) → ¬ (y < x ∨ y = x ∧ Q) → x = y ∧ E := by
  intro h1 h2
  have a1 : ¬ x < y := fun h => h1 (.inl h)
  have a2 : ¬ y < x := fun h => h2 (.inl h)
  have e1 : x = y := by omega
  exact ⟨e1, h (fun hp => h1 (.inr ⟨e1, hp⟩)) (fun hq => h2 (.inr ⟨e1.symm, hq⟩))⟩
theorem Lt.irrefl (x : Zn) : ¬ Lt x x := by unfold Lt; simp
theorem Lt.trans {x y z : Zn} : Lt x y → Lt y z → Lt x z := by
  unfold Lt
  exact lex_trans (lex_trans (lex_trans (lex_trans (lex_trans (lex_trans fun h _ => h)))))
theorem Lt.ntrans {x y z : Zn} : ¬ Lt x y → ¬ Lt y z → ¬ Lt x z := by
  unfold Lt
  exact lex_ntrans (lex_ntrans (lex_ntrans (lex_ntrans (lex_ntrans (lex_ntrans fun h _ => h)))))
theorem Lt.tot {x y : Zn} (h1 : ¬ Lt x y) (h2 : ¬ Lt y x) : x = y := by
  unfold Lt at h1 h2
  obtain ⟨e1, e2, e3, e4, e5, e6, _⟩ := lex_tot (lex_tot (lex_tot (lex_tot (lex_tot (lex_tot (E := True) fun _ _ => trivial))))) h1 h2
  cases x; cases y; simp_all
theorem lt_iff (x y : Zn) : ltOf cmp x y = true ↔ Lt x y := by unfold ltOf; simp [cmp_lt]
theorem lt_niff (x y : Zn) : ltOf cmp x y = false ↔ ¬ Lt x y := by unfold ltOf; simp [← cmp_lt]
theorem swo : SWO (ltOf cmp) where
  irrefl x := (lt_niff x x).2 (Lt.irrefl x)
  trans x y z h1 h2 := (lt_iff x z).2 (((lt_iff x y).1 h1).trans ((lt_iff y z).1 h2))
  ntrans x y z h1 h2 := (lt_niff x z).2 (Lt.ntrans ((lt_niff x y).1 h1) ((lt_niff y z).1 h2))
theorem tot (x y : Zn) (h1 : ltOf cmp x y = false) (h2 : ltOf cmp y x = false) : x = y := Lt.tot ((lt_niff x y).1 h1) ((lt_niff y x).1 h2)
def sort (l : List Zn) : List Zn := l.mergeSort fun x y => !(ltOf cmp) y x
theorem sort_len (l : List Zn) : (sort l).length = l.length := List.length_mergeSort _
theorem sort_perm (l : List Zn) : (sort l).Perm l := List.mergeSort_perm l _
theorem sort_sorted (l : List Zn) : (sort l).Pairwise fun x y => ¬ Lt y x := by
  have h := List.pairwise_mergeSort (le := fun x y => !(ltOf cmp) y x) (fun x y z h1 h2 => by
    simp only [Bool.not_eq_eq_eq_not, Bool.not_true] at *
    exact (lt_niff z x).2 (Lt.ntrans ((lt_niff z y).1 h2) ((lt_niff y x).1 h1))) (fun x y => by
    simp only [Bool.or_eq_true, Bool.not_eq_eq_eq_not, Bool.not_true]
    by_cases h : Lt y x
    · exact .inr ((lt_niff x y).2 fun k => Lt.irrefl _ (h.trans k))
    · exact .inl ((lt_niff y x).2 h)) l
  refine h.imp fun {x y} hxy => ?_
  simp only [Bool.not_eq_eq_eq_not, Bool.not_true] at hxy
  exact (lt_niff y x).1 hxy
end Zo

theorem zcmpLays (blk off size : Nat) (w : World) : CmpLays Tryz.prog 213 #[] (Enc.enc (α := Zn)) 6 Zo.cmp blk off size w := fun m os dk _ x y => by
  refine (zcmp_at x y (sortWorldK Enc.enc 6 w blk off m dk os)).mono ?_
  rintro e w' ⟨rfl, q, os', rfl⟩
  exact ⟨rfl, q, os', rfl⟩

theorem flat_list {α : Type} [Enc α] [Inhabited α] (l : List α) : (flatK Enc.enc (size α) l.toArray).toList = cellsL l := by
  have h1 : (flatK (Enc.enc (α := α)) (size α) l.toArray).size = l.length * size α := by simp
  apply List.ext_getElem?
  intro t
  by_cases ht : t < l.length * size α
  · have hp : 0 < size α := Enc.pos
    have hd : t / size α < l.length := (Nat.div_lt_iff_lt_mul hp).2 ht
    have hm : t % size α < size α := Nat.mod_lt _ hp
    have h2 := get_flatK (Enc.enc (α := α)) (size α) l.toArray t (by simpa using ht)
    rw [getElem!_pos _ t (by rw [h1]; exact ht)] at h2
    rw [Array.getElem?_toList, Array.getElem?_eq_getElem (by rw [h1]; exact ht), h2]
    have e1 : l.toArray[t / size α]! = l[t / size α] := by rw [getElem!_pos _ _ (by simpa using hd)]; simp
    rw [e1]
    have hc := cellsL_get l (List.getElem?_eq_getElem hd) (i := t % size α) (c := (Enc.enc l[t / size α])[t % size α]!) (by rw [getElem!_pos _ _ (by rw [Enc.len]; exact hm)]; exact List.getElem?_eq_getElem _)
    rw [← hc]
    congr 1
    rw [Nat.mul_comm]; exact Nat.div_add_mod t (size α)
  · rw [List.getElem?_eq_none (by rw [Array.length_toList, h1]; omega), List.getElem?_eq_none (by rw [cellsL_len]; omega)]
theorem heap_sortedA {w : World} {g n : Nat} {os : Array Obj} {cur : Array Value} {e : TypeId} {fr : Nat × Nat} (d : Array Value) (hb : w.heap[g]? = some (.cells cur e fr)) :
    (grow (putRow id (Sort.ahead w n) g 0 d) os).heap[g]? = some (.cells (putCells id 0 d cur) e fr) := by
  have hg : g < w.heap.size := (Array.getElem?_eq_some_iff.1 hb).1
  rw [heap_grow_old _ _ (by simpa using hg)]
  simp [putRow, mapBlock, Sort.ahead, Array.getElem?_modify, hb, onCells]
theorem grownBy_sortedA {w : World} {g n : Nat} {os : Array Obj} (d : Array Value) : w.grownBy (grow (putRow id (Sort.ahead w n) g 0 d) os) (some g) := by
  refine ⟨rfl, rfl, rfl, by simp, fun k hk hne => ?_⟩
  rw [heap_grow_old _ _ (by simpa using hk)]
  have : g ≠ k := fun e => hne (by rw [e])
  simp [putRow, mapBlock, Sort.ahead, Array.getElem?_modify, this]
theorem take_putCellsA (cur d : Array Value) (h : d.size ≤ cur.size) : (putCells id 0 d cur).toList.take d.size = d.toList := by
  apply List.ext_getElem?
  intro j
  by_cases hj : j < d.size
  · rw [List.getElem?_take_of_lt hj, Array.getElem?_toList]
    simp [putCells, hj, show j < cur.size by omega]
  · rw [List.getElem?_take_eq_none (by omega), List.getElem?_eq_none (by simp; omega)]
theorem holds_flat {w : World} {g : Nat} {cur d : Array Value} {e : TypeId} (hb : w.heap[g]? = some (.cells cur e (0, 0))) (ht : cur.toList.take d.size = d.toList) : Holds id w g 0 d := by
  intro j hj
  refine ⟨?_, by simp [World.frozen?, hb]⟩
  have h1 : (cur.toList.take d.size)[j]? = d.toList[j]? := by rw [ht]
  rw [List.getElem?_take_of_lt hj] at h1
  simp only [World.cell?, hb, Nat.zero_add]
  simp only [Option.isSome_none, Bool.false_eq_true, if_false]
  rw [← Array.getElem?_toList, h1]
  simp [hj]

theorem sortZ_own (base : Nat) (v : Value) (l : List Zn) (hl : l.length ≤ 1000000) (w : World) (hO : Own 104 base w v l) :
    Calls Tryz.prog 257 #[v, .func (.func 213) #[] #[]] w fun e w' => e = .returned (.tuple #[]) ∧ Own 104 base w' v (Zo.sort l) ∧ w.grownBy w' v.ownBlock := by
  obtain ⟨hc, ⟨rfl, h0⟩ | ⟨g, cap, cur, rfl, hb, hg, hn, hm, hs, ht⟩⟩ := id hO
  · obtain rfl := List.eq_nil_of_length_eq_zero h0
    refine (AnyF.slices_SortFunc_none Tryz.sortZ none 0 _ w).mono ?_
    rintro e w' ⟨rfl, rfl⟩
    exact ⟨rfl, by rw [show Zo.sort [] = [] by simp [Zo.sort]]; exact hO, rfl, rfl, rfl, Nat.le_refl _, fun _ _ _ => rfl⟩
  · have hf := flat_list l
    have hfs : (flatK (Enc.enc (α := Zn)) 6 l.toArray).size = l.length * 6 := by simp
    have hH : HoldsK (Enc.enc (α := Zn)) 6 w g 0 l.toArray := holds_flat hg (by rw [hfs]; exact ht.trans hf.symm)
    refine (AnyQ.slices_SortFunc_total Tryz.sortZ 6 Tryz.isAgg104 Tryz.sizeOf104 (Enc.enc (α := Zn)) (fun x => rfl) (fun x v hv => Enc.one x v hv) Zo.cmp Zo.swo 213 #[] g 0 cap l.toArray w Tryz.call213 (zcmpLays g 0 _ w) hH (Array.getElem?_eq_some_iff.1 hg).1 (by simp; omega) Zo.tot).mono ?_
    rintro e w' ⟨rfl, n, os, rfl⟩
    have hlen : (Zo.sort l).length = l.length := Zo.sort_len l
    refine ⟨rfl, ?_, grownBy_sortedA _⟩
    have hf2 := flat_list (Zo.sort l)
    have hfs2 : (flatK (Enc.enc (α := Zn)) 6 (Zo.sort l).toArray).size = l.length * 6 := by simp [hlen]
    have hsz : cur.size = cap * 6 := hs
    refine ⟨by rw [cellsL_len, hlen], .inr ⟨g, cap, _, by rw [hlen], hb, heap_sortedA _ hg, by rw [hlen]; exact hn, hm, ?_, ?_⟩⟩
    · rw [show size Zn = 6 from rfl, ← hsz]; simp [putCells]
    · rw [hlen, ← hf2]
      have h6 := take_putCellsA cur (flatK (Enc.enc (α := Zn)) 6 (Zo.sort l).toArray) (by rw [hfs2, hsz]; omega)
      rw [hfs2] at h6
      exact h6

theorem sortedZ_any (Bs : Nat) (a : Option Addr) (cap : Nat) (zs : List Zn) (hlen : zs.length ≤ 1000000) (w : World) (hc : w.cell? ⟨Bs, 0, none⟩ = some (.slice a zs.length cap)) (hS : Sl w.heap.size w (.slice a zs.length cap) zs) :
    Calls Tryz.prog 211 #[.func (.func 258) #[] #[.pointer (some ⟨Bs, 0, none⟩)], .func (.func 213) #[] #[]] w fun e w' => ∃ v, e = .returned v ∧ Below Bs w w' ∧ Own 104 w.heap.size w' v (Zo.sort zs) := by
  have hBs : Bs < w.heap.size := World.block_lt_of_cell? _ _ hc
  refine fun_at 0 Bs w (Nat.le_of_lt hBs) Tryz.func211 (args := [.val (.func (.func 258) #[] #[.pointer (some ⟨Bs, 0, none⟩)]), .val (.func (.func 213) #[] #[])]) rfl rfl ?_
  refine CallI.mk fun w1 h1 => ?_
  have hg1 : Below w.heap.size w w1 := h1.go
  refine (collectZ_any Bs a cap zs hlen w1 ((hg1.cell (p := ⟨Bs, 0, none⟩) hBs).trans hc) (hS.go hg1 hg1.size)).mono ?_
  rintro e w2 ⟨v, rfl, hB2, hO⟩
  refine ⟨⟨hB2, by simp⟩, _, rfl, ?_⟩
  obtain ⟨a', c', rfl⟩ := hO.form
  refine CallI.mk fun w3 h3 => (sortZ_own w1.heap.size _ zs hlen w3 (hO.at h3 (by simp))).mono ?_
  rintro e w4 ⟨rfl, hO4, hg⟩
  have hlen2 : (Zo.sort zs).length = zs.length := Zo.sort_len zs
  refine ⟨keep_grown h3 hg fun k hk => ⟨by have h5 := (hO.lt k hk).1; have := hg1.size; show Bs ≤ k; omega, by simp⟩, _, rfl, ?_⟩
  exact EndI.mk fun w5 h5 => (hO4.at h5 (by simp)).lower hg1.size
end Go.Proofs.YtjbhpfmnfdebkaaGreat

namespace Go.Proofs.YtjbhpfmnfdebkaaGreat
set_option linter.unusedVariables false
set_option linter.unusedSimpArgs false
namespace Cv
def cpt : List Zn → List Zn
  | [] => []
  | x :: l => if l.head? = some x then cpt l else x :: cpt l
theorem cpt_cons (x : Zn) (l : List Zn) : cpt (x :: l) = if l.head? = some x then cpt l else x :: cpt l := rfl
theorem cpt_mem (l : List Zn) (x : Zn) : x ∈ cpt l ↔ x ∈ l := by
  induction l with
  | nil => simp [cpt]
  | cons y l ih =>
    rw [cpt_cons, List.mem_cons, ← ih]
    split
    · rename_i h
      have hy : y ∈ l := List.mem_of_mem_head? (by rw [h]; rfl)
      constructor
      · exact .inr
      · rintro (rfl | h2)
        · exact ih.2 hy
        · exact h2
    · rw [List.mem_cons]
theorem cpt_len (l : List Zn) : (cpt l).length ≤ l.length := by
  induction l with
  | nil => simp [cpt]
  | cons x l ih => rw [cpt_cons]; split <;> simp only [List.length_cons] <;> omega
theorem cpt_snoc (p : List Zn) (y x : Zn) : cpt (p ++ [y] ++ [x]) = if x = y then cpt (p ++ [y]) else cpt (p ++ [y]) ++ [x] := by
  induction p with
  | nil =>
    simp only [List.nil_append, List.cons_append, cpt_cons, List.head?_cons, List.head?_nil, Option.some.injEq]
    by_cases h : x = y
    · subst h; simp [cpt]
    · simp [h, cpt]
  | cons a p ih =>
    simp only [List.cons_append, cpt_cons]
    have hh : (p ++ [y] ++ [x]).head? = (p ++ [y]).head? := by cases p <;> rfl
    rw [hh, ih]
    split <;> split <;> simp_all
theorem cpt_step {l : List Zn} {k : Nat} {x y : Zn} (hy : l[k]? = some y) (hx : l[k + 1]? = some x) : cpt (l.take (k + 2)) = if x = y then cpt (l.take (k + 1)) else cpt (l.take (k + 1)) ++ [x] := by
  have e1 : l.take (k + 1) = l.take k ++ [y] := by rw [List.take_add_one, hy]; rfl
  have e2 : l.take (k + 2) = l.take k ++ [y] ++ [x] := by rw [show k + 2 = k + 1 + 1 from rfl, List.take_add_one, hx, e1]; rfl
  rw [e1, e2, cpt_snoc]
theorem cpt_all {l : List Zn} (h : ∀ k x y, l[k]? = some y → l[k + 1]? = some x → x ≠ y) : cpt l = l := by
  induction l with
  | nil => rfl
  | cons a l ih =>
    rw [cpt_cons, ih fun k x y hy hx => h (k + 1) x y hy hx]
    split
    · rename_i hh
      cases l with
      | nil => cases hh
      | cons b l => simp at hh; exact absurd hh (h 0 b a rfl rfl)
    · rfl
end Cv
end Go.Proofs.YtjbhpfmnfdebkaaGreat

