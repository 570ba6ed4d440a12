/-
  Merged texts of this law (each with its own head below).
-/
import Derived.Test.YtjbhpfmnfdebkaaGreatLCloseLeast3
import Derived.Test.YtjbhpfmnfdebkaaGreatLCloseLeast4
import Derived.Lib.SliceRun
import Derived.Shelf.Bits.Mul64
import Derived.Shelf.Spec.BitsCarry
import Derived.Ground.NamesProg
import Derived.Test.YtjbhpfmnfdebkaaGreatProg
import Derived.Laws.StructEq
import Derived.Test.YtjbhpfmnfdebkaaGreatLCloseLeast1
import Derived.RangeFuncBox
import Derived.RangeFuncBound
import Derived.RangeFuncLeaves
import Derived.Shelf.Abstract
import Derived.WalkKit
import Derived.OwnWalkIn
import Derived.TacticsInMore
import Derived.LoopNIn
import Derived.LoopIn
import Derived.Deep.QuietTactic
import Derived.BigQuiet
import Derived.Sort.Grow
import Derived.Shelf.SlSortCmp.NoneTotal
import Derived.Ground.SlsfProg
import Derived.Sort.OwnSorted
import Derived.Shelf.SlIterI.Nil
import Derived.Shelf.SlIterI.Sorted
import Derived.Shelf.SlIterI.Collect
import Derived.Shelf.SlGeneric
import Derived.Shelf.SortM.Plain
import Derived.Shelf.SortM.SortNone
import Derived.Ground.GgzProg
import Derived.Ground.SlgmProg
import Derived.Maps.Own
import Derived.Maps.Views
import Derived.Lib.SlKeysI
import Derived.Shelf.Spec.SlicesGrow
import Derived.Ground.Names8Prog
/-
  slices.IndexFunc and ContainsFunc at a list of api.Zone: with a function that answers p of an element, and goes from T k to T (k + 1).
-/
namespace Go.Proofs.YtjbhpfmnfdebkaaGreat
set_option linter.unusedVariables false
set_option linter.unusedSimpArgs false
set_option maxRecDepth 100000
open Go.RowKit Go.Proofs.YtjbhpfmnfdebkaaGreat.Eng Enc

theorem indexZ_any (l : List Zn) (p : Zn → Bool) (a : Option Addr) (cap : Nat) (fid : FuncId) (caps : Array Value) (B : Nat) (w : World) (hB : B ≤ w.heap.size) (hS : Sl B w (.slice a l.length cap) l)
    (T : Nat → World → Prop) (h0 : T 0 w) (hst : ∀ k W W', T k W → Below W.heap.size W W' → T k W') (en : Enters Tryz.prog fid)
    (hcall : ∀ k x W, l[k]? = some x → Below B w W → T k W → Calls Tryz.prog fid (val x :: caps.toList).toArray W fun e W' => e = .returned (.bool (p x)) ∧ Below B W W' ∧ T (k + 1) W') :
    Calls Tryz.prog 131 #[.slice a l.length cap, .func (.func fid) #[] caps] w fun e w' => ∃ v, e = .returned v ∧ Below B w w' ∧ v = .int .i64 (idxF p l) ∧ T (cntF p l) w' := by
  obtain ⟨a', cap', e', hcap, hmax, _⟩ := hS.form
  injection e' with e1 e2 e3
  subst e1; subst e3
  unfold maxLen at hmax
  refine fun_at 0 B w hB Tryz.func131 (args := [.val (.slice a l.length cap), .val (.func (.func fid) #[] caps)]) rfl rfl ?_
  refine LoopI.inv (α := Nat × World) (fun x => [(8, .val (.int .i64 x.1))]) (fun _ => []) (fun x => x.2) (fun x => x.1 ≤ l.length ∧ T x.1 x.2 ∧ Below B w x.2 ∧ ∀ j y, j < x.1 → l[j]? = some y → p y = false) (fun x => l.length - x.1) ?_ ?_
  · intro w1 h1
    exact ⟨(0, w1), Cov.mk (by repeat' (first | exact trivial | refine And.intro rfl ?_)) rfl rfl rfl rfl rfl, rfl, Nat.zero_le _, hst _ _ _ h0 h1.go, h1.below, fun j y hj => by omega⟩
  · rintro ⟨k, W⟩ ⟨hk, hT, hBw, hno⟩
    refine Branch.mk (fun hb => ?_) (fun hb => ?_)
    · have hlt : k < l.length := by simpa using hb
      obtain ⟨x, hx⟩ : ∃ x, l[k]? = some x := ⟨l[k], List.getElem?_eq_getElem hlt⟩
      refine hS.idx hx fun ad had => ?_
      refine hS.ld hx had hBw (by simp) ?_
      refine Need.mk en ?_
      refine CallI.mk fun w1 h1 => ?_
      have hT1 := hst _ _ _ hT h1.go
      refine (hcall k x w1 hx h1.below hT1).mono ?_
      rintro e w2 ⟨rfl, hB2, hT2⟩
      refine ⟨⟨hB2, by simp⟩, _, rfl, ?_⟩
      refine Branch.mk (fun hp => ?_) (fun hp => ?_)
      · refine EndI.mk fun w3 h3 => ?_
        obtain ⟨i1, i2⟩ := idxF_at p l k x hx hp hno
        refine ⟨by rw [i1], by rw [i2]; exact hst _ _ _ hT2 h3.go⟩
      · refine Need.mk (by show _ ∧ _; omega) (EndI.mk fun w3 h3 => ?_)
        refine ⟨(k + 1, w3), Cov.mk (by repeat' (first | exact trivial | refine And.intro rfl ?_)) rfl rfl rfl rfl rfl, rfl, ⟨hlt, hst _ _ _ hT2 h3.go, h3.below, fun j y hj hy => ?_⟩, by simp only; omega⟩
        by_cases hjk : j = k
        · subst hjk; rw [hx] at hy; injection hy with hy; subst hy; exact hp
        · exact hno j y (by omega) hy
    · have hge : k = l.length := by have : ¬ k < l.length := by simpa using hb
                                    omega
      subst hge
      refine EndI.mk fun w3 h3 => ?_
      obtain ⟨i1, i2⟩ := idxF_none p l fun j y hy => hno j y (List.getElem?_eq_some_iff.1 hy).1 hy
      exact ⟨by rw [i1], by rw [i2]; exact hst _ _ _ hT h3.go⟩

theorem containsZ_any (l : List Zn) (p : Zn → Bool) (a : Option Addr) (cap : Nat) (fid : FuncId) (caps : Array Value) (B : Nat) (w : World) (hB : B ≤ w.heap.size) (hS : Sl B w (.slice a l.length cap) l)
    (T : Nat → World → Prop) (h0 : T 0 w) (hst : ∀ k W W', T k W → Below W.heap.size W W' → T k W') (en : Enters Tryz.prog fid)
    (hcall : ∀ k x W, l[k]? = some x → Below B w W → T k W → Calls Tryz.prog fid (val x :: caps.toList).toArray W fun e W' => e = .returned (.bool (p x)) ∧ Below B W W' ∧ T (k + 1) W') :
    Calls Tryz.prog 64 #[.slice a l.length cap, .func (.func fid) #[] caps] w fun e w' => ∃ v, e = .returned v ∧ Below B w w' ∧ v = .bool (l.any p) ∧ T (cntF p l) w' := by
  refine fun_at 0 B w hB Tryz.func64 (args := [.val (.slice a l.length cap), .val (.func (.func fid) #[] caps)]) rfl rfl ?_
  refine CallI.mk fun w1 h1 => ?_
  have hB1 : B ≤ w1.heap.size := Nat.le_trans hB h1.size
  refine (indexZ_any l p a cap fid caps B w1 hB1 (hS.below h1.below) T (hst _ _ _ h0 h1.go) hst en fun k x W hx hW hT => hcall k x W hx (h1.below.trans hW) hT).mono ?_
  rintro e w2 ⟨v, rfl, hB2, rfl, hT⟩
  refine ⟨⟨hB2, by simp⟩, _, rfl, ?_⟩
  refine EndI.mk fun w3 h3 => ⟨?_, hst _ _ _ hT h3.go⟩
  rw [← idxF_any]

/-- with a function that leaves the memory alone. -/
theorem containsZ_pure (l : List Zn) (p : Zn → Bool) (a : Option Addr) (cap : Nat) (fid : FuncId) (caps : Array Value) (w : World) (hS : Sl w.heap.size w (.slice a l.length cap) l) (en : Enters Tryz.prog fid)
    (hcall : ∀ x W, x ∈ l → Below w.heap.size w W → Calls Tryz.prog fid (val x :: caps.toList).toArray W fun e W' => e = .returned (.bool (p x)) ∧ Below W.heap.size W W') :
    Calls Tryz.prog 64 #[.slice a l.length cap, .func (.func fid) #[] caps] w fun e w' => e = .returned (.bool (l.any p)) ∧ Below w.heap.size w w' := by
  refine (containsZ_any l p a cap fid caps w.heap.size w (Nat.le_refl _) hS (fun _ _ => True) trivial (fun _ _ _ _ _ => trivial) en fun k x W hx hB _ => ?_).mono ?_
  · refine (hcall x W (List.mem_of_getElem? hx) hB).mono ?_
    rintro e W' ⟨rfl, hB'⟩
    exact ⟨rfl, hB'.mono hB.size, trivial⟩
  · rintro e w' ⟨v, rfl, hB, rfl, _⟩
    exact ⟨rfl, hB⟩
end Go.Proofs.YtjbhpfmnfdebkaaGreat

/-
  slices.Clone at a list of api.Zone: a row of the call's own that shows the same list.
-/
namespace Go.Proofs.YtjbhpfmnfdebkaaGreat
set_option linter.unusedVariables false
set_option linter.unusedSimpArgs false
set_option maxRecDepth 100000
open Go.RowKit Go.Proofs.YtjbhpfmnfdebkaaGreat.Eng Enc

theorem cloneZ_any (l : List Zn) (a : Option Addr) (cap : Nat) (w : World) (hS : Sl w.heap.size w (.slice a l.length cap) l) (hlen : l.length ≤ 1000000) :
    Calls Tryz.prog 96 #[.slice a l.length cap] w (Ret w fun v w' => Own 104 w.heap.size w' v l) := by
  refine fun_ret 0 w Tryz.func96 (args := [.val (.slice a l.length cap)]) rfl rfl ?_
  refine GenV.to (fun w1 => Lib.run_eql_slice_nil w1 22 104 a l.length cap 0 0 Tryz.underlying22) fun w1 h1 => ?_
  refine Branch.mk (fun hb => ?_) (fun hb => ?_)
  · refine EndI.mk fun w2 h2 => ?_
    have ha : a = none := by cases a <;> simp_all
    obtain ⟨a', cap', e', hcap, hmax, hn⟩ := hS.form
    injection e' with e1 e2 e3
    subst e1; subst e3
    have h0 := hn ha
    obtain rfl : l = [] := List.eq_nil_of_length_eq_zero (by omega)
    exact Own.nil
  · refine NewI.mk fun b hb1 => ?_
    have hsrc : ∀ w2, At ⟨w, w.heap.size, Nat.le_refl _⟩ [⟨[], 104⟩] [b] [] w1 w2 → SrcC w2 (.slice a l.length cap) 6 l.length (cellsL l) := fun w2 h2 => (hS.below h2.below).src
    refine GenN.appF (α := Zn) elZ [] l w.heap.size rfl (fun w2 h2 => ?_) hsrc ?_ ?_ (fun w2 h2 => h2.below.size) fun v' w2 w3 h2 hB ho => ?_
    · exact ⟨rfl, .inr ⟨b, 0, #[], rfl, h2.fresh b (by simp), h2.blk 0 b _ rfl rfl, Nat.le_refl _, by simp [maxLen], rfl, rfl⟩⟩
    · simp [maxLen]; omega
    · simp; omega
    · exact EndI.mk fun w4 h4 => ho.below h4.go
end Go.Proofs.YtjbhpfmnfdebkaaGreat

/-
  The contracts of cover.checked and cover.In, by the engine.
-/
namespace Go.Proofs.YtjbhpfmnfdebkaaGreat
set_option linter.unusedVariables false
set_option linter.unusedSimpArgs false
set_option maxRecDepth 100000
open Go.RowKit Go.Proofs.YtjbhpfmnfdebkaaGreat.Eng Enc

namespace Cv
def odd (z : Zn) : Bool := decide (Zo.chk z ≠ 0)
/-- the error of lists of zones. -/
def checked (ls : List (List Zn)) : Int := if ls.any (fun l => decide (4096 < l.length)) = true then 4 else if ls.any (fun l => l.any odd) = true then 8 else 0
def in_ (z : Zn) (l : List Zn) : Bool × Int :=
  if checked [l, [z]] = 0 then (decide ((Mi.left z l).2 = 0) && decide ((Mi.left z l).1.length = 0), (Mi.left z l).2) else (false, checked [l, [z]])
end Cv
/-- lists of zones, each as it is shown. -/
def Shown (n : Nat) (W : World) (ss : List Svl) (ls : List (List Zn)) : Prop := ss.length = ls.length ∧ ∀ (k : Nat) (s : Svl) (l : List Zn), ss[k]? = some s → ls[k]? = some l → Sl n W (.slice s.a s.len s.cap) l ∧ s.len = l.length
theorem codd_any (z : Zn) (w : World) : Calls Tryz.prog 248 #[.agg #[.int .i64 z.a, .int .i64 z.b, .int .i64 z.c, .int .i64 z.d, .int .i64 z.e, .int .i64 z.f]] w fun e w' => e = .returned (.bool (Cv.odd z)) ∧ Below w.heap.size w w' := by
  refine fun_eq 0 w Tryz.func248 (args := [.agg [.val (.int .i64 z.a), .val (.int .i64 z.b), .val (.int .i64 z.c), .val (.int .i64 z.d), .val (.int .i64 z.e), .val (.int .i64 z.f)]]) rfl rfl ?_
  refine NewI.mk fun b1 hb1 => ?_
  refine CallI.to1 (fun w => zcheck_any z w) fun w2 => ?_
  exact EndI.mk fun w9 h9 => rfl
theorem checked_any (ss : List Svl) (ls : List (List Zn)) (a : Option Addr) (cap : Nat) (w : World) (hA : Shown w.heap.size w ss ls) (hS : Sl w.heap.size w (.slice a ss.length cap) ss) :
    Calls Tryz.prog 190 #[.slice a ss.length cap] w fun e w' => e = .returned (.int .i64 (Cv.checked ls)) ∧ Below w.heap.size w w' := by
  refine fun_eq 0 w Tryz.func190 (args := [.val (.slice a ss.length cap)]) rfl rfl ?_
  obtain ⟨hlen, hA⟩ := hA
  have hform := hS.form
  obtain ⟨_, _, hfe, hcap1, hcap2, _⟩ := hform
  injection hfe with _ _ hfe
  subst hfe
  unfold maxLen at hcap2
  unfold Cv.checked
  refine LoopI.invC (α := Nat × World) (fun y => [(10, .val (.int .i64 y.1))]) (fun y => y.2) (fun y => y.1 ≤ ss.length ∧ Below w.heap.size w y.2 ∧ ∀ l, l ∈ ls.take y.1 → l.length ≤ 4096) (fun y => ss.length - y.1) ?_ ?_
  · intro w1 h1
    exact ⟨(0, w1), Cov.mk (by repeat' (first | exact trivial | refine And.intro rfl ?_)) rfl rfl rfl rfl rfl, rfl, Nat.zero_le _, h1.below, by simp⟩
  rintro ⟨k, W⟩ ⟨hk, hW, hall⟩
  refine Branch.mk (fun hc => ?_) (fun hc => ?_)
  · have hlt : k < ss.length := by simpa using hc
    have hg := List.getElem?_eq_getElem (l := ss) (i := k) hlt
    have hl := List.getElem?_eq_getElem (l := ls) (i := k) (by omega)
    obtain ⟨hs1, hs2⟩ := hA k _ _ hg hl
    generalize ls[k]'(by omega) = l at hl hs1 hs2
    have hSW := hS.go hW hW.size
    refine hSW.idx hg fun ad had => ?_
    refine hSW.ldv hg rfl had (Below.refl _ _) (by simp) ?_
    refine Branch.mk (fun hc2 => ?_) (fun hc2 => ?_)
    · have h4 : 4096 < l.length := by have : (4096 : Int) < (ss[k]'hlt).len := by simpa using hc2
                                      omega
      rw [if_pos (by rw [List.any_eq_true]; exact ⟨l, List.mem_of_getElem? hl, by simpa using h4⟩)]
      exact EndI.mk fun w3 h3 => rfl
    · have hle : l.length ≤ 4096 := by have : ¬ (4096 : Int) < (ss[k]'hlt).len := by simpa using hc2
                                       omega
      refine Need.mk (by simp only [inK]; omega) (EndI.mk fun w7 h7 => ⟨(k + 1, w7), Cov.mk (by repeat' (first | exact trivial | refine And.intro rfl ?_)) rfl rfl rfl rfl rfl, rfl, ⟨hlt, h7.below, fun y hy => ?_⟩, by simp only; omega⟩)
      have e : ls.take (k + 1) = ls.take k ++ [l] := by rw [List.take_add_one, hl]; rfl
      rw [e] at hy
      rcases List.mem_append.1 hy with hy | hy
      · exact hall y hy
      · rw [List.mem_singleton.1 hy]; exact hle
  have hge : k = ls.length := by have : ¬ k < ss.length := by simpa using hc
                                 omega
  subst hge
  rw [List.take_length] at hall
  rw [if_neg (by rw [List.any_eq_true]; rintro ⟨x, hx, h⟩; have := hall x hx; simp at h; omega)]
  clear hall hc hk
  refine LoopI.invC (α := Nat × World) (fun y => [(20, .val (.int .i64 y.1))]) (fun y => y.2) (fun y => y.1 ≤ ss.length ∧ Below w.heap.size w y.2 ∧ ∀ l, l ∈ ls.take y.1 → l.any Cv.odd = false) (fun y => ss.length - y.1) ?_ ?_
  · intro w1 h1
    exact ⟨(0, w1), Cov.mk (by repeat' (first | exact trivial | refine And.intro rfl ?_)) rfl rfl rfl rfl rfl, rfl, Nat.zero_le _, h1.below, by simp⟩
  rintro ⟨k, V⟩ ⟨hk, hV, hall⟩
  refine Branch.mk (fun hc => ?_) (fun hc => ?_)
  · have hlt : k < ss.length := by simpa using hc
    have hg := List.getElem?_eq_getElem (l := ss) (i := k) hlt
    have hl := List.getElem?_eq_getElem (l := ls) (i := k) (by omega)
    obtain ⟨hs1, hs2⟩ := hA k _ _ hg hl
    generalize ls[k]'(by omega) = l at hl hs1 hs2
    rw [hs2] at hs1
    have hSW := hS.go hV hV.size
    refine hSW.idx hg fun ad had => ?_
    refine hSW.ldv hg rfl had (Below.refl _ _) (by simp) ?_
    rw [hs2]
    apply CallI.use1
    focus (exact fun w4 h4 => containsZ_pure l Cv.odd _ _ 248 #[] w4 (hs1.go h4.below h4.below.size) Tryz.call248 fun x W _ _ => codd_any x W)
    intro w4 v4 h4 hB4
    refine Branch.mk (fun hc2 => ?_) (fun hc2 => ?_)
    · have h4 : l.any Cv.odd = true := by simpa using hc2
      rw [if_pos (by rw [List.any_eq_true]; exact ⟨l, List.mem_of_getElem? hl, h4⟩)]
      exact EndI.mk fun w3 h3 => rfl
    · have hle : l.any Cv.odd = false := by simpa using hc2
      refine Need.mk (by simp only [inK]; omega) (EndI.mk fun w7 h7 => ⟨(k + 1, w7), Cov.mk (by repeat' (first | exact trivial | refine And.intro rfl ?_)) rfl rfl rfl rfl rfl, rfl, ⟨hlt, h7.below, fun y hy => ?_⟩, by simp only; omega⟩)
      have e : ls.take (k + 1) = ls.take k ++ [l] := by rw [List.take_add_one, hl]; rfl
      rw [e] at hy
      rcases List.mem_append.1 hy with hy | hy
      · exact hall y hy
      · rw [List.mem_singleton.1 hy]; exact hle
  have hge : k = ls.length := by have : ¬ k < ss.length := by simpa using hc
                                 omega
  subst hge
  rw [List.take_length] at hall
  rw [if_neg (by rw [List.any_eq_true]; rintro ⟨x, hx, h⟩; rw [hall x hx] at h; cases h)]
  exact EndI.mk fun w9 h9 => rfl
theorem shown_two {n : Nat} {W : World} {s t : Svl} {l m : List Zn} (h1 : Sl n W (.slice s.a s.len s.cap) l) (e1 : s.len = l.length) (h2 : Sl n W (.slice t.a t.len t.cap) m) (e2 : t.len = m.length) : Shown n W [s, t] [l, m] := by
  refine ⟨rfl, fun k s' l' hs hl => ?_⟩
  have hk : k < 2 := (List.getElem?_eq_some_iff.1 hs).1
  have : k = 0 ∨ k = 1 := by omega
  rcases this with rfl | rfl
  · simp at hs hl; subst hs; subst hl; exact ⟨h1, e1⟩
  · simp at hs hl; subst hs; subst hl; exact ⟨h2, e2⟩
theorem shown_one {n : Nat} {W : World} {s : Svl} {l : List Zn} (h1 : Sl n W (.slice s.a s.len s.cap) l) (e1 : s.len = l.length) : Shown n W [s] [l] := by
  refine ⟨rfl, fun k s' l' hs hl => ?_⟩
  have hk : k < 1 := (List.getElem?_eq_some_iff.1 hs).1
  have : k = 0 := by omega
  subst this
  simp at hs hl; subst hs; subst hl; exact ⟨h1, e1⟩
theorem cin_any (z : Zn) (l : List Zn) (a : Option Addr) (cap : Nat) (w : World) (hS : Sl w.heap.size w (.slice a l.length cap) l) :
    Calls Tryz.prog 192 #[.agg #[.int .i64 z.a, .int .i64 z.b, .int .i64 z.c, .int .i64 z.d, .int .i64 z.e, .int .i64 z.f], .slice a l.length cap] w fun e w' => e = .returned (.tuple #[.bool (Cv.in_ z l).1, .int .i64 (Cv.in_ z l).2]) ∧ Below w.heap.size w w' := by
  refine fun_eq 0 w Tryz.func192 (args := [.agg [.val (.int .i64 z.a), .val (.int .i64 z.b), .val (.int .i64 z.c), .val (.int .i64 z.d), .val (.int .i64 z.e), .val (.int .i64 z.f)], .val (.slice a l.length cap)]) rfl rfl ?_
  have st := Stay.first (w := w)
  refine NewI.mk fun b1 hb1 => ?_
  refine NewI.mk fun b2 hb2 => ?_
  refine NewI.mk fun b3 hb3 => ?_
  unfold Cv.in_
  apply CallI.use1
  · exact fun w1 h1 => checked_any [⟨a, l.length, cap⟩, ⟨some ⟨b2, 0, none⟩, 1, 1⟩] [l, [z]] _ _ w1 (shown_two (hS.go h1.below h1.below.size) rfl (Sl.own (l := [z]) h1 1 rfl rfl rfl (Nat.le_refl _) (by simp [maxLen])) rfl) (Sl.own (l := [(⟨a, l.length, cap⟩ : Svl), ⟨some ⟨b2, 0, none⟩, 1, 1⟩]) h1 2 rfl rfl rfl (Nat.le_refl _) (by simp [maxLen]))
  intro w1 v1 h1 hB1
  have hv1 : Below w.heap.size w v1 := h1.below.trans (hB1.mono h1.below.size)
  refine Branch.mk (fun hc => ?_) (fun hc => ?_)
  · have h0 : ¬ Cv.checked [l, [z]] = 0 := by simpa using hc
    rw [if_neg h0]
    exact EndI.mk fun w3 h3 => rfl
  have h0 : Cv.checked [l, [z]] = 0 := by simpa using hc
  rw [if_pos h0]
  apply CallI.use
  focus (exact fun w2 h2 => left_any z l a cap w2 (hS.go h2.below h2.below.size))
  rintro v w2 v2 h2 hB2 ⟨a2, c2, rfl, hS2⟩
  generalize Mi.left z l = X at *
  obtain ⟨x, e⟩ := X
  refine Branch.mk (fun hc2 => ?_) (fun hc2 => ?_)
  · have h1 : e = 0 := by simpa using hc2
    subst h1
    refine EndI.mk fun w3 h3 => ?_
    simp
  · have h1 : ¬ e = 0 := by simpa using hc2
    refine EndI.mk fun w3 h3 => ?_
    simp [h1]
end Go.Proofs.YtjbhpfmnfdebkaaGreat

/-
  DERIVED: THE SHELF's CONTRACTS AT THIS DUMP, IN PLAIN WORDS (tools/lay-plain.mjs out of 'YtjbhpfmnfdebkaaGreatShelf0.lean', which tools/lay-shelf.mjs wrote): THE SAME DECLARATIONS UNDER THE SAME NAMES: 'import', 'namespace', 'open', 'def', 'theorem' AND NOTHING ELSE: no command of the shelf's: FOR A HAND-IN. Each laying: the table of numbers ('.._ren') and one theorem, a field a fact of the dump's own or the kernel's comparison; each contract: ONE APPLICATION.
-/
namespace Go.Proofs
open Go.Shelf
end Go.Proofs

/-
  The contracts of package rat that compare: product, compare, Cmp, by the engine.
-/
namespace Go.Proofs.YtjbhpfmnfdebkaaGreat
set_option linter.unusedVariables false
set_option linter.unusedSimpArgs false
set_option maxRecDepth 100000
open Go.RowKit Go.Proofs.YtjbhpfmnfdebkaaGreat.Eng Enc

end Go.Proofs.YtjbhpfmnfdebkaaGreat

/-
  The contracts of package rat that make fractions: low, Of, sum, Add, by the engine.
-/
namespace Go.Proofs.YtjbhpfmnfdebkaaGreat
set_option linter.unusedVariables false
set_option linter.unusedSimpArgs false
set_option maxRecDepth 100000
open Go.RowKit Go.Proofs.YtjbhpfmnfdebkaaGreat.Eng Enc

theorem div_in {n g : Int} (hn : inK .i64 n) (hg : 1 ≤ g) : inK .i64 (n / g) := Fr.ediv_in hg hn
theorem gcdI_any (x y : Int) (a b : Nat) (hx : x = a) (hy : y = b) (ha : a < 18446744073709551616) (hb : b < 18446744073709551616) (w : World) :
    Calls Tryz.prog 204 #[.int .u64 x, .int .u64 y] w fun e w' => e = .returned (.int .u64 (Nat.gcd a b)) ∧ Below w.heap.size w w' := by
  subst hx; subst hy; exact gcd_any a b ha hb w
theorem low_any (n d : Int) (hd : 1 ≤ d) (hn : inK .i64 n) (hd2 : inK .i64 d) (w : World) :
    Calls Tryz.prog 132 #[.int .i64 n, .int .i64 d] w fun e w' => e = .returned (.tuple #[.agg #[.int .i64 (Fr.low n d).1.num, .int .i64 (Fr.low n d).1.den], .int .i64 (Fr.low n d).2]) ∧ Below w.heap.size w w' := by
  refine fun_eq 0 w Tryz.func132 (args := [.val (.int .i64 n), .val (.int .i64 d)]) rfl rfl ?_
  have hn' := hn
  have hd' := hd2
  simp only [inK] at hn' hd'
  refine NewI.mk fun b1 hb1 => ?_
  (first
    | (refine CallI.to1 (size_any n hn) fun w2 => ?_)
    | (refine Branch.yes rfl ?_)
    | (refine Branch.no rfl ?_)
    | (refine Branch.mk (fun hb => ?_) (fun hb => ?_))
    | (refine NewI.mk fun nb hnb => ?_)
    | (refine Need.mk (by show _ ∧ _; omega) ?_)
    | (refine Need.mk (by omega) ?_)
    | (refine Need.mk ?_ ?_)
    | (refine EndI.mk fun w1 h1 => ?_))
  obtain ⟨D, rfl⟩ : ∃ D : Nat, d = D := ⟨d.toNat, by omega⟩
  (first
    | (refine CallI.to1 (gcdI_any _ _ n.natAbs D rfl (by omega) (by omega) (by omega)) fun w2 => ?_)
    | (refine Branch.yes rfl ?_)
    | (refine Branch.no rfl ?_)
    | (refine Branch.mk (fun hb => ?_) (fun hb => ?_))
    | (refine NewI.mk fun nb hnb => ?_)
    | (refine Need.mk (by show _ ∧ _; omega) ?_)
    | (refine Need.mk (by omega) ?_)
    | (refine Need.mk ?_ ?_)
    | (refine EndI.mk fun w1 h1 => ?_))
  have hgD : (Nat.gcd n.natAbs D : Int) ∣ (D : Int) := Int.natCast_dvd_natCast.2 (Nat.gcd_dvd_right ..)
  have hgn : (Nat.gcd n.natAbs D : Int) ∣ n := Int.ofNat_dvd_left.2 (Nat.gcd_dvd_left ..)
  have hg1 : 1 ≤ (Nat.gcd n.natAbs D : Int) := by
    have : 0 < Nat.gcd n.natAbs D := Nat.gcd_pos_of_pos_right _ (by omega)
    omega
  have hgle : (Nat.gcd n.natAbs D : Int) ≤ D := Int.le_of_dvd (by omega) hgD
  have hl : Fr.low n D = if Fr.okB (n / (Nat.gcd n.natAbs D : Int)) ((D : Int) / (Nat.gcd n.natAbs D : Int)) = true then (⟨n / (Nat.gcd n.natAbs D : Int), (D : Int) / (Nat.gcd n.natAbs D : Int)⟩, 0) else (⟨0, 0⟩, 10) := rfl
  rw [hl]
  generalize (Nat.gcd n.natAbs D : Int) = g at *
  have e1 : n.tdiv g = n / g := Int.tdiv_eq_ediv_of_dvd hgn
  have e2 : (D : Int).tdiv g = (D : Int) / g := Int.tdiv_eq_ediv_of_dvd hgD
  conv => whnf
  rw [show (g + 9223372036854775808) % 18446744073709551616 - 9223372036854775808 = g by omega]
  refine DrawI.go (.tk 0 (.tk 1 (.tk 2 (.tk 3 (.tk 4 (.tk 5 (.tk 6 (.ev 7 (.ev 8 .done))))))))) (by kernel_rfl) fun w1 h1 => ?_
  refine Need.mk ⟨by omega, by rw [e1]; exact div_in hn hg1⟩ ?_
  refine Need.mk ⟨by omega, by rw [e2]; exact div_in hd2 hg1⟩ ?_
  rw [e1, e2]
  refine NewI.mk fun b2 hb2 => ?_
  apply CallI.use1
  · exact fun w3 h3 => rcheck_any (n / g) (D / g) (div_in hn hg1) (div_in hd2 hg1) w3
  intro w3 w4 h3 hB4
  refine Branch.mk (fun hc => ?_) (fun hc => ?_)
  · refine EndI.mk fun w5 h5 => ?_
    rw [if_pos (Fr.chk_eq.1 (by simpa using hc))]
  · refine EndI.mk fun w5 h5 => ?_
    rw [if_neg (fun h => by rw [Fr.chk_yes h] at hc; cases hc)]
theorem rof_any (n d : Int) (hn : inK .i64 n) (hd2 : inK .i64 d) (w : World) :
    Calls Tryz.prog 66 #[.int .i64 n, .int .i64 d] w fun e w' => e = .returned (.tuple #[.agg #[.int .i64 (Fr.of n d).1.num, .int .i64 (Fr.of n d).1.den], .int .i64 (Fr.of n d).2]) ∧ Below w.heap.size w w' := by
  refine fun_eq 0 w Tryz.func66 (args := [.val (.int .i64 n), .val (.int .i64 d)]) rfl rfl ?_
  refine NewI.mk fun b1 hb1 => ?_
  unfold Fr.of
  refine Branch.mk (fun hc => ?_) (fun hc => ?_)
  · refine EndI.mk fun w5 h5 => ?_
    rw [if_pos (by simpa using hc)]
  have hd : ¬ d < 1 := by simpa using hc
  rw [if_neg hd]
  (first
    | (refine CallI.to1 (low_any n d (by omega) hn hd2) fun w2 => ?_)
    | (refine Branch.yes rfl ?_)
    | (refine Branch.no rfl ?_)
    | (refine Branch.mk (fun hb => ?_) (fun hb => ?_))
    | (refine NewI.mk fun nb hnb => ?_)
    | (refine Need.mk (by show _ ∧ _; omega) ?_)
    | (refine Need.mk (by omega) ?_)
    | (refine Need.mk ?_ ?_)
    | (refine EndI.mk fun w1 h1 => ?_))
  exact EndI.mk fun w5 h5 => rfl

end Go.Proofs.YtjbhpfmnfdebkaaGreat

/-
  The contract of rat.Mid, by the engine.
-/
namespace Go.Proofs.YtjbhpfmnfdebkaaGreat
set_option linter.unusedVariables false
set_option linter.unusedSimpArgs false
set_option maxRecDepth 100000
open Go.RowKit Go.Proofs.YtjbhpfmnfdebkaaGreat.Eng Enc

end Go.Proofs.YtjbhpfmnfdebkaaGreat

/-
  The contract of incl.Pick and what it calls, by the engine.
-/
namespace Go.Proofs.YtjbhpfmnfdebkaaGreat
set_option linter.unusedVariables false
set_option linter.unusedSimpArgs false
set_option maxRecDepth 100000
open Go.RowKit Go.Proofs.YtjbhpfmnfdebkaaGreat.Eng Enc

def Incl.End.val (x : Incl.End) : Value := .agg #[.bool x.is, .int .i64 x.at_.num, .int .i64 x.at_.den, .bool x.strict]

end Go.Proofs.YtjbhpfmnfdebkaaGreat

/-
  What a matrix means: the times that keep it; closing turns none of them. No program is in sight.
-/
namespace Go.Proofs.YtjbhpfmnfdebkaaGreat.Dbm
set_option linter.unusedVariables false
set_option linter.unusedSimpArgs false
open Go.Proofs.YtjbhpfmnfdebkaaGreat.Fr

def satO (d : Rat) : OB → Prop
  | none => True
  | some v => if Bd.st v = true then d < ((v / 2 : Int) : Rat) else d ≤ ((v / 2 : Int) : Rat)
theorem st_iff (v : Int) : Bd.st v = true ↔ v % 2 = 0 := by simp [Bd.st]
theorem satO_add {d e : Rat} {a b : OB} (h : satO d a) (k : satO e b) : satO (d + e) (oadd a b) := by
  cases a with
  | none => trivial
  | some u =>
    cases b with
    | none => trivial
    | some v =>
      simp only [satO, oadd] at h k ⊢
      rw [bsum_half]
      have hp : Bd.st (bsum u v) = true ↔ (Bd.st u = true ∨ Bd.st v = true) := by
        rw [st_iff, st_iff, st_iff]
        unfold bsum
        rcases parity u with h1 | h1 <;> rcases parity v with h2 | h2 <;> rw [h1, h2] <;> constructor <;> intro h <;> omega
      rw [Rat.intCast_add]
      generalize ((u / 2 : Int) : Rat) = x at *
      generalize ((v / 2 : Int) : Rat) = y at *
      cases hu : Bd.st u <;> cases hv : Bd.st v <;> simp only [hu, hv, Bool.false_eq_true, if_true, if_false, or_self, or_true, true_or, or_false, false_or] at h k hp ⊢
      · rw [if_neg (by rw [hp]; simp)]; grind
      · rw [if_pos (by rw [hp]; trivial)]; grind
      · rw [if_pos (by rw [hp]; trivial)]; grind
      · rw [if_pos (by rw [hp]; trivial)]; grind
theorem satO_mono {d : Rat} {a b : OB} (h : ole a b) (k : satO d a) : satO d b := by
  cases b with
  | none => trivial
  | some v =>
    cases a with
    | none => exact h.elim
    | some u =>
      have huv : u ≤ v := h
      simp only [satO] at k ⊢
      have h1 : u / 2 ≤ v / 2 := by omega
      have h2 : ((u / 2 : Int) : Rat) ≤ ((v / 2 : Int) : Rat) := by exact_mod_cast h1
      cases hu : Bd.st u <;> cases hv : Bd.st v <;> simp only [hu, hv, Bool.false_eq_true, if_true, if_false] at k ⊢
      · grind
      · have h3 : u / 2 < v / 2 := by
          have a1 : ¬ u % 2 = 0 := fun e => by rw [(st_iff u).2 e] at hu; cases hu
          have a2 := (st_iff v).1 hv
          omega
        have h4 : ((u / 2 : Int) : Rat) < ((v / 2 : Int) : Rat) := by exact_mod_cast h3
        grind
      · grind
      · grind
theorem satO_zero {v : Int} : satO 0 (some v) ↔ 1 ≤ v := by
  simp only [satO]
  cases hv : Bd.st v <;> simp only [Bool.false_eq_true, if_true, if_false]
  · have a1 : ¬ v % 2 = 0 := fun e => by rw [(st_iff v).2 e] at hv; cases hv
    constructor
    · intro h
      have : (0 : Int) ≤ v / 2 := by exact_mod_cast h
      omega
    · intro h
      have : (0 : Int) ≤ v / 2 := by omega
      exact_mod_cast this
  · have a1 := (st_iff v).1 hv
    constructor
    · intro h
      have : (0 : Int) < v / 2 := by exact_mod_cast h
      omega
    · intro h
      have : (0 : Int) < v / 2 := by omega
      exact_mod_cast this
/-- times that keep each bound. -/
def Fits (N : Nat) (E : Mx) (t : Nat → Rat) : Prop := ∀ i j, i < N → j < N → satO (t i - t j) (E i j)
theorem Fits.way {N : Nat} {E : Mx} {t : Nat → Rat} (h : Fits N E t) : ∀ (mid : List Nat) (i j : Nat), i < N → j < N → (∀ a ∈ mid, a < N) → satO (t i - t j) (Dbm.way E (i :: (mid ++ [j])))
  | [], i, j, hi, hj, _ => by
    simp only [List.nil_append, way_two]; exact h i j hi hj
  | a :: mid, i, j, hi, hj, hm => by
    have ha := hm a (by simp)
    have ih := h.way mid a j ha hj (fun b hb => hm b (by simp [hb]))
    simp only [List.cons_append, Dbm.way]
    have := satO_add (h i a hi ha) ih
    rwa [show t i - t a + (t a - t j) = t i - t j by grind] at this
theorem Inv.fits {N : Nat} {E M : Mx} {t : Nat → Rat} {k : Nat} (hk : k ≤ N) (inv : Inv N k E M) (h : Fits N E t) : Fits N M t := fun i j hi hj => by
  by_cases e : i = j
  · subst e
    rw [inv.diag i hi, Rat.sub_self]
    exact satO_zero.2 (by omega)
  · cases hv : M i j with
    | none => trivial
    | some v =>
      obtain ⟨mid, _, hm, hw⟩ := inv.wit i j hi hj e v hv
      rw [← hw]
      exact h.way mid i j hi hj fun a ha => Nat.lt_of_lt_of_le (hm a ha) hk
theorem Inv.fits_back {N : Nat} {E M : Mx} {t : Nat → Rat} {k : Nat} (inv : Inv N k E M) (h : Fits N M t) : Fits N E t := fun i j hi hj => satO_mono (inv.low i j hi hj) (h i j hi hj)

/-- with the diagonal at 0. -/
theorem fits_diag {N : Nat} {L L1 : List Int} {t : Nat → Rat} (hd : ∀ i, i < N → 1 ≤ L[i * N + i]?.getD 0) (h : ∀ i j, i < N → j < N → L1[i * N + j]?.getD 0 = if i = j then 1 else L[i * N + j]?.getD 0) :
    Fits N (mx N L1) t ↔ Fits N (mx N L) t := by
  have h1 : ∀ i j, i < N → j < N → i ≠ j → mx N L1 i j = mx N L i j := fun i j hi hj e => by unfold mx; rw [h i j hi hj, if_neg e]
  constructor
  · intro k i j hi hj
    by_cases e : i = j
    · subst e
      rw [Rat.sub_self]
      unfold mx ob
      split
      · trivial
      · exact satO_zero.2 (hd i hi)
    · rw [← h1 i j hi hj e]; exact k i j hi hj
  · intro k i j hi hj
    by_cases e : i = j
    · subst e
      unfold mx
      rw [h i i hi hi, if_pos rfl, Rat.sub_self]
      exact satO_zero.2 (by omega)
    · rw [h1 i j hi hj e]; exact k i j hi hj
/-- closing turns none of the times that keep a matrix. -/
theorem close_fits {N : Nat} {L C : List Int} (h0 : chk N L = 0) (h : closeL N L = some C) (t : Nat → Rat) : Fits N (mx N C) t ↔ Fits N (mx N L) t := by
  obtain ⟨L1, a2, a3, inv, hl, hE⟩ := close_inv h0 h
  rw [← fits_diag a2 a3]
  exact ⟨fun k => inv.fits_back k, fun k => inv.fits (Nat.le_refl _) k⟩
/-- a matrix that some times keep is not empty. -/
theorem close_some {N : Nat} {L : List Int} (h0 : chk N L = 0) {t : Nat → Rat} (ht : Fits N (mx N L) t) : ∃ C, closeL N L = some C := by
  obtain ⟨c1, c2, c3, c4⟩ := chk_iff.1 h0
  have hN4 : N ≤ 4 := by omega
  have hL : L.length = N * N := by exact_mod_cast c3
  have hdL : ∀ i, i < N → 1 ≤ L[i * N + i]?.getD 0 := fun i hi => by
    have := ht i i hi hi
    rw [Rat.sub_self] at this
    unfold mx ob at this
    split at this
    · rename_i h; rw [h]; decide
    · exact satO_zero.1 this
  have hd0 : ∀ n, n ≤ N → ∃ Ln, (List.range n).foldlM (diag1 N) L = some Ln := by
    intro n
    induction n with
    | zero => intro _; exact ⟨L, rfl⟩
    | succ n ih =>
      intro hn
      obtain ⟨Ln, e⟩ := ih (by omega)
      obtain ⟨a1, a2, a3⟩ := diag_spec hL n Ln (by omega) e
      rw [List.range_succ, List.foldlM_append, e]
      have : Ln[n * N + n]?.getD 0 = L[n * N + n]?.getD 0 := by rw [a3 n n (by omega) (by omega), if_neg (by omega)]
      refine ⟨Ln.set (n * N + n) 1, ?_⟩
      simp only [List.foldlM_cons, List.foldlM_nil, Option.bind_eq_bind, Option.bind_some, diag1]
      rw [if_neg (by rw [this]; have := hdL n (by omega); omega)]; rfl
  obtain ⟨L1, e1⟩ := hd0 N (Nat.le_refl _)
  obtain ⟨a1, a2, a3⟩ := diag_spec hL N L1 (Nat.le_refl _) e1
  have a3' : ∀ i j, i < N → j < N → L1[i * N + j]?.getD 0 = if i = j then 1 else L[i * N + j]?.getD 0 := fun i j hi hj => by
    rw [a3 i j hi hj]
    by_cases e : i = j
    · rw [if_pos ⟨e, hi⟩, if_pos e]
    · rw [if_neg (fun h => e h.1), if_neg e]
  have hd1 : ∀ i, i < N → mx N L1 i i = some 1 := fun i hi => by unfold mx; rw [a3' i i hi hi, if_pos rfl]; rfl
  have hE : ∀ i j v, i < N → j < N → mx N L1 i j = some v → -288230376151711744 ≤ v / 2 ∧ v / 2 ≤ 288230376151711744 := fun i j v hi hj hv => by
    obtain ⟨e1, e2⟩ := mx_some hv
    rw [a3' i j hi hj] at e1
    split at e1
    · subst e1; decide
    · have := chk_lim h0 (i * N + j) (by rw [hL]; exact place_lt hi hj)
      rw [e1] at this
      exact this.resolve_left e2
  have ht1 := (fits_diag (t := t) hdL a3').2 ht
  have hst : ∀ n, n ≤ N → ∃ Cn, (List.range n).foldlM (stage N) L1 = some Cn := by
    intro n
    induction n with
    | zero => intro _; exact ⟨L1, rfl⟩
    | succ n ih =>
      intro hn
      obtain ⟨M, e⟩ := ih (by omega)
      obtain ⟨b1, b2⟩ := fold_inv hN4 a1 hd1 hE n M (by omega) e
      rw [List.range_succ, List.foldlM_append, e]
      have hlM := inv_lim b2 (by omega) hN4 hE
      have hMd : M[n * N + n]?.getD 0 = 1 := (mx_some (b2.diag n (by omega))).1
      have hthr : ∀ i j, i < N → j < N → mx N (thrL N n M) i j = thr n (mx N M) i j := fun i j hi hj => thrL_mx (by omega) b1 hMd (fun q hq => lim_mono (hlM q hq) (by omega)) hi hj
      have htM := b2.fits (by omega) ht1
      have hok : diagOk N (thrL N n M) = true := by
        unfold diagOk
        rw [List.all_eq_true]
        intro i hi
        have hi := List.mem_range.1 hi
        refine decide_eq_true ?_
        have h1 : satO 0 (mx N (thrL N n M) i i) := by
          rw [hthr i i hi hi]
          rcases thr_cases n (mx N M) i i with h | ⟨h, _⟩
          · rw [h, b2.diag i hi]; exact satO_zero.2 (by omega)
          · rw [h]
            have := satO_add (htM i n hi (by omega)) (htM n i (by omega) hi)
            rwa [show t i - t n + (t n - t i) = 0 by grind] at this
        unfold mx ob at h1
        split at h1
        · rename_i h; rw [h]; decide
        · exact satO_zero.1 h1
      refine ⟨thrL N n M, ?_⟩
      simp only [List.foldlM_cons, List.foldlM_nil, Option.bind_eq_bind, Option.bind_some, stage]
      rw [if_pos hok]; rfl
  obtain ⟨C, e2⟩ := hst N (Nat.le_refl _)
  refine ⟨C, ?_⟩
  unfold closeL
  rw [e1, Option.bind_some, e2]
end Go.Proofs.YtjbhpfmnfdebkaaGreat.Dbm

/-
  What keeping a matrix says, bound by bound and by values. No program is in sight.
-/
namespace Go.Proofs.YtjbhpfmnfdebkaaGreat
set_option linter.unusedVariables false
namespace Dbm
/-- the times' values, that of clock 0 first. -/
def tvs (T : List Rt) (i : Nat) : Rat := Fr.v ((moments T)[i]?.getD ⟨0, 1⟩)
end Dbm
end Go.Proofs.YtjbhpfmnfdebkaaGreat

/-
  What is picked of a closed matrix of three clocks keeps it: sums of small fractions are exact, each end holds what it should. No program is in sight.
-/
namespace Go.Proofs.YtjbhpfmnfdebkaaGreat
set_option linter.unusedVariables false
set_option linter.unusedSimpArgs false
namespace Fr
/-- a small fraction: what it is divided by is at most D, its value at most M. -/
structure Sm (D M : Int) (a : Rt) : Prop where
  ok : a.ok = true
  den : a.den ≤ D
  lo : -(M * a.den) ≤ a.num
  hi : a.num ≤ M * a.den
theorem Sm.mono {D D' M M' : Int} {a : Rt} (h : Sm D M a) (hD : D ≤ D') (hM : M ≤ M') : Sm D' M' a := by
  have o := ok_bd h.ok
  have hm : M * a.den ≤ M' * a.den := Int.mul_le_mul_of_nonneg_right hM (by omega)
  exact ⟨h.ok, Int.le_trans h.den hD, by have := h.lo; omega, by have := h.hi; omega⟩
theorem v_den {a : Rt} (ha : a.ok = true) : (a.den : Rat) ≠ 0 := by
  have oa := ok_bd ha
  intro h; have : a.den = 0 := by exact_mod_cast h
  omega
/-- a fraction in lowest terms out of a great one. -/
theorem low_sm {T D M d : Int} (hD : 1 ≤ D) (hd : D ≤ d) (hd2 : d ≤ 1048576) (hM : 0 ≤ M) (hM2 : M < 2305843009213693952) (hMd : M * d ≤ 9223372036854775807) (h1 : -(M * D) ≤ T) (h2 : T ≤ M * D) :
    okB (T / Int.gcd T D) (D / Int.gcd T D) = true ∧ inI (T / Int.gcd T D) = true ∧ Sm d M ⟨T / Int.gcd T D, D / Int.gcd T D⟩ ∧ T / Int.gcd T D * D = T * (D / Int.gcd T D) := by
  have hg : 1 ≤ (Int.gcd T D : Int) := by
    have : 0 < Int.gcd T D := Int.gcd_pos_of_ne_zero_right _ (by omega)
    omega
  have d1 : (Int.gcd T D : Int) ∣ T := Int.gcd_dvd_left ..
  have d2 : (Int.gcd T D : Int) ∣ D := Int.gcd_dvd_right ..
  have hcop : Int.gcd (T / Int.gcd T D) (D / Int.gcd T D) = 1 := Int.gcd_ediv_gcd_ediv_gcd (i := T) (j := D) (by omega)
  generalize (Int.gcd T D : Int) = g at *
  obtain ⟨u, rfl⟩ := d1
  obtain ⟨x, rfl⟩ := d2
  rw [Int.mul_ediv_cancel_left _ (by omega), Int.mul_ediv_cancel_left _ (by omega)] at *
  have hx : 1 ≤ x := by
    rcases Int.lt_or_le 0 x with h | h
    · omega
    · have := Int.mul_nonpos_of_nonneg_of_nonpos (a := g) (b := x) (by omega) h
      omega
  have hxd : x ≤ d := by
    have := Int.mul_le_mul_of_nonneg_right hg (show 0 ≤ x by omega)
    omega
  have k1 : -(M * x) ≤ u := by
    refine Int.le_of_mul_le_mul_left (a := g) ?_ (by omega)
    rw [Int.mul_neg, Int.mul_left_comm]; exact h1
  have k2 : u ≤ M * x := by
    refine Int.le_of_mul_le_mul_left (a := g) ?_ (by omega)
    rw [Int.mul_left_comm g M x]; exact h2
  have hMx : M * x ≤ M * d := Int.mul_le_mul_of_nonneg_left hxd hM
  have hin : inB u x = true := by
    apply in_iff.2
    have a1 : -M ≤ u / x := by
      refine (Int.le_ediv_iff_mul_le (by omega)).2 ?_
      rw [Int.neg_mul]; exact k1
    have a2 : u / x ≤ M := by
      have := Int.ediv_le_ediv (c := x) (by omega) k2
      rwa [Int.mul_ediv_cancel _ (by omega)] at this
    omega
  have hok : okB u x = true := by
    unfold okB
    rw [hin]
    have hc2 : Nat.gcd u.natAbs x.natAbs = 1 := hcop
    simp only [hc2]; simp; omega
  refine ⟨hok, ?_, ⟨hok, hxd, k1, k2⟩, ?_⟩
  · unfold inI; simp; omega
  · rw [Int.mul_left_comm, ← Int.mul_assoc]
theorem v_of_mul {a : Rt} (ha : a.ok = true) {T D : Int} (hD : 1 ≤ D) (h : a.num * D = T * a.den) : v a * (D : Rat) = T := by
  have h1 := v_den ha
  have h2 : (a.num : Rat) * (D : Rat) = (T : Rat) * (a.den : Rat) := by exact_mod_cast h
  unfold v
  grind
theorem sum_sm {a b : Rt} {k Da Db Ma Mb d M : Int} (ha : Sm Da Ma a) (hb : Sm Db Mb b) (hk : k = 1 ∨ k = 2) (hMa : 0 ≤ Ma) (hMb : 0 ≤ Mb) (hd : Da * Db * k ≤ d) (hd2 : d ≤ 1048576) (hM : Ma + Mb ≤ M * k) (hM2 : M < 2305843009213693952) (hMd : M * d ≤ 9223372036854775807) :
    (sum a b k).2 = 0 ∧ Sm d M (sum a b k).1 ∧ v (sum a b k).1 * (k : Rat) = v a + v b := by
  have oa := ok_bd ha.ok
  have ob := ok_bd hb.ok
  have hM0 : 0 ≤ M := by rcases hk with rfl | rfl <;> omega
  have e1 : a.den * b.den ≤ Da * Db := Int.mul_le_mul ha.den hb.den (by omega) (by have := ha.den; omega)
  have e2 : 1 ≤ a.den * b.den := by
    have := Int.mul_le_mul (a := 1) (b := 1) oa.1 ob.1 (by omega) (by omega)
    omega
  have hdn : 1 ≤ dn a b k ∧ dn a b k ≤ d := by
    unfold dn
    rcases hk with rfl | rfl <;> omega
  have hT : -(M * dn a b k) ≤ tn a b ∧ tn a b ≤ M * dn a b k := by
    have p1 : a.num * b.den ≤ Ma * a.den * b.den := Int.mul_le_mul_of_nonneg_right ha.hi (by omega)
    have p2 : b.num * a.den ≤ Mb * b.den * a.den := Int.mul_le_mul_of_nonneg_right hb.hi (by omega)
    have p3 : -(Ma * a.den) * b.den ≤ a.num * b.den := Int.mul_le_mul_of_nonneg_right ha.lo (by omega)
    have p4 : -(Mb * b.den) * a.den ≤ b.num * a.den := Int.mul_le_mul_of_nonneg_right hb.lo (by omega)
    have p5 : (Ma + Mb) * (a.den * b.den) ≤ M * k * (a.den * b.den) := Int.mul_le_mul_of_nonneg_right hM (by omega)
    have q1 : M * dn a b k = M * k * (a.den * b.den) := by unfold dn; grind
    have q2 : Ma * a.den * b.den + Mb * b.den * a.den = (Ma + Mb) * (a.den * b.den) := by grind
    have q3 : -(Ma * a.den) * b.den + -(Mb * b.den) * a.den = -((Ma + Mb) * (a.den * b.den)) := by grind
    rw [q1]; unfold tn
    omega
  obtain ⟨l1, l2, l3, l4⟩ := low_sm hdn.1 hdn.2 hd2 hM0 hM2 hMd hT.1 hT.2
  unfold sum
  rw [if_pos ⟨l1, l2⟩]
  refine ⟨rfl, l3, ?_⟩
  have hv := v_of_mul l3.ok hdn.1 l4
  have h1 := v_den ha.ok
  have h2 := v_den hb.ok
  simp only at hv ⊢
  have hk0 : (k : Rat) ≠ 0 := by rcases hk with rfl | rfl <;> decide
  generalize v (⟨tn a b / Int.gcd (tn a b) (dn a b k), dn a b k / Int.gcd (tn a b) (dn a b k)⟩ : Rt) = x at *
  unfold dn tn at hv
  push_cast at hv
  unfold v
  grind
theorem of_sm {c M : Int} (h : -M ≤ c ∧ c ≤ M) (hM : M < 2305843009213693952) : Sm 1 M (of c 1).1 ∧ v (of c 1).1 = c := by
  have hok : okB c 1 = true := by
    unfold okB
    have : inB c 1 = true := in_iff.2 (by simp; omega)
    rw [this]; simp
  have e : of c 1 = (⟨c, 1⟩, 0) := by
    unfold of low
    have hg : Int.gcd c 1 = 1 := by simp
    rw [if_neg (by omega), hg]
    simp only [Int.cast_ofNat_Int, Int.ediv_one]
    rw [if_pos hok]
  rw [e]
  refine ⟨⟨hok, by simp, by simp; omega, by simp; omega⟩, ?_⟩
  show (c : Rat) / ((1 : Int) : Rat) = c
  have h1 : ((1 : Int) : Rat) = 1 := rfl
  rw [h1]; grind
theorem shift_sm {a : Rt} {D M c m d : Int} (ha : Sm D M a) (hM : 0 ≤ M) (hc : -m ≤ c ∧ c ≤ m) (hd : D ≤ d) (hd2 : d ≤ 1048576) (hM2 : M + m < 2305843009213693952) (hMd : (M + m) * d ≤ 9223372036854775807) : Sm d (M + m) (shift a c) ∧ v (shift a c) = v a + c := by
  obtain ⟨h1, h2⟩ := of_sm hc (by omega)
  have h := sum_sm (k := 1) (d := d) (M := M + m) ha h1 (.inl rfl) hM (by omega) (by omega) hd2 (by omega) hM2 hMd
  unfold shift add
  rw [if_pos ⟨ha.ok, h1.ok⟩]
  refine ⟨h.2.1, ?_⟩
  have := h.2.2
  rw [h2] at this
  grind
theorem mid_sm {a b : Rt} {D M d : Int} (ha : Sm D M a) (hb : Sm D M b) (hM : 0 ≤ M) (hd : D * D * 2 ≤ d) (hd2 : d ≤ 1048576) (hM2 : M < 2305843009213693952) (hMd : M * d ≤ 9223372036854775807) : Sm d M (mid a b).1 ∧ v (mid a b).1 * 2 = v a + v b := by
  have h := sum_sm (k := 2) (d := d) (M := M) ha hb (.inr rfl) hM hM hd hd2 (by omega) hM2 hMd
  unfold mid
  rw [if_pos ⟨ha.ok, hb.ok⟩]
  exact ⟨h.2.1, by have := h.2.2; exact_mod_cast this⟩
theorem cmp_v {a b : Rt} (ha : a.ok = true) (hb : b.ok = true) : ((cmp a b).1 < 0 ∧ v a < v b) ∨ ((cmp a b).1 = 0 ∧ v a = v b) ∨ (0 < (cmp a b).1 ∧ v b < v a) := by
  unfold cmp
  rw [if_pos ⟨ha, hb⟩]
  simp only
  have hD := den_pos ha hb
  have hs := v_sub ha hb
  have key : ∀ x : Int, (v a - v b) * ((a.den * b.den : Int) : Rat) = ((a.num * b.den - b.num * a.den : Int) : Rat) := fun _ => by
    rw [hs]
    exact Rat.div_mul_cancel (by intro h; rw [h] at hD; exact absurd hD (by decide))
  have k0 := key 0
  unfold cmpR cmpI
  split
  · rename_i h
    refine .inl ⟨by omega, ?_⟩
    have : ((a.num * b.den - b.num * a.den : Int) : Rat) < 0 := by exact_mod_cast (by omega : a.num * b.den - b.num * a.den < 0)
    rw [← k0] at this
    rcases Classical.em (v a < v b) with hh | hh
    · exact hh
    · have h2 : 0 ≤ v a - v b := by grind
      have := Rat.mul_nonneg h2 (Rat.le_of_lt hD)
      grind
  · split
    · rename_i h
      refine .inr (.inr ⟨by omega, ?_⟩)
      have : (0 : Rat) < ((a.num * b.den - b.num * a.den : Int) : Rat) := by exact_mod_cast (by omega : 0 < a.num * b.den - b.num * a.den)
      rw [← k0] at this
      rcases Classical.em (v b < v a) with hh | hh
      · exact hh
      · have h2 : 0 ≤ v b - v a := by grind
        have := Rat.mul_nonneg h2 (Rat.le_of_lt hD)
        grind
    · refine .inr (.inl ⟨rfl, ?_⟩)
      have : ((a.num * b.den - b.num * a.den : Int) : Rat) = 0 := by exact_mod_cast (by omega : a.num * b.den - b.num * a.den = 0)
      rw [this] at k0
      rcases Rat.mul_eq_zero.1 k0 with h | h
      · grind
      · rw [h] at hD; exact absurd hD (by decide)
end Fr

namespace Incl
open Fr Dbm
/-- what a lower, an upper end says of a time. -/
def loQ (E : End) (x : Rat) : Prop := E.is = true → (if E.strict = true then v E.at_ < x else v E.at_ ≤ x)
def hiQ (E : End) (x : Rat) : Prop := E.is = true → (if E.strict = true then x < v E.at_ else x ≤ v E.at_)
/-- by what bound an end stands where it stands (s: the sign). -/
def Att (P : Rat → Int → Prop) (s : Int) (E : End) : Prop := E.is = true → ∃ r b, P r b ∧ b ≠ NO ∧ v E.at_ = r - (s : Rat) * ((b / 2 : Int) : Rat) ∧ (E.strict = true ↔ Bd.st b = true)
structure EOk (D M : Int) (P : Rat → Int → Prop) (s : Int) (E : End) : Prop where
  sm : E.is = true → Sm D M E.at_
  att : Att P s E
theorem value_no : Bd.value NO = (0, false, 6) := by decide
theorem value_of {b : Int} (h : lim 288230376151711744 b) (hn : b ≠ NO) : Bd.value b = (b / 2, Bd.st b, 0) := by
  have hb := h.resolve_left hn
  have hm : Bd.may b = true := by
    unfold Bd.may Num.okB
    simp; right; omega
  have hn' : ¬ b = 9223372036854775807 := hn
  unfold Bd.value
  rw [if_pos hm, if_neg hn']
theorem near_lo {P : Rat → Int → Prop} {E : End} {D M Dr Mr b : Int} {r : Rt} (hE : EOk D M P 1 E) (hr : Sm Dr Mr r) (hMr : 0 ≤ Mr) (hDr : Dr ≤ D) (hD : D ≤ 1048576) (hMM : Mr + 288230376151711744 ≤ M) (hM2 : M < 2305843009213693952) (hMd : M * D ≤ 9223372036854775807) (hb : lim 288230376151711744 b) (hP : P (v r) b) :
    EOk D M P 1 (nearer E b r 1) ∧ ∀ x, loQ (nearer E b r 1) x ↔ (loQ E x ∧ satO (v r - x) (ob b)) := by
  unfold nearer
  by_cases hn : b = NO
  · subst hn
    rw [value_no]
    rw [if_pos (by decide)]
    refine ⟨hE, fun x => ⟨fun h => ⟨h, ?_⟩, fun h => h.1⟩⟩
    simp [ob, satO]
  have hbb := hb.resolve_left hn
  rw [value_of hb hn]
  simp only [ne_eq, not_true_eq_false, if_false]
  have hDp : 1 ≤ D := by have := (ok_bd hr.ok).1; have := hr.den; omega
  have hMd2 : (Mr + 288230376151711744) * D ≤ 9223372036854775807 := Int.le_trans (Int.mul_le_mul_of_nonneg_right hMM (by omega)) hMd
  obtain ⟨s1, s2⟩ := shift_sm (c := -1 * (b / 2)) (m := 288230376151711744) (d := D) hr hMr (by omega) hDr hD (by omega) hMd2
  have s1 := s1.mono (Int.le_refl D) hMM
  have s3 : v (shift r (-1 * (b / 2))) = v r - ((b / 2 : Int) : Rat) := by rw [s2]; push_cast; grind
  generalize shift r (-1 * (b / 2)) = at_ at *
  have hob : ob b = some b := by unfold ob; rw [if_neg hn]
  rw [hob]
  have hnew : EOk D M P 1 ⟨true, at_, Bd.st b⟩ := ⟨fun _ => s1, fun _ => ⟨v r, b, hP, hn, by rw [s3]; push_cast; grind, Iff.rfl⟩⟩
  have hsat : ∀ x, satO (v r - x) (some b) ↔ (if Bd.st b = true then v at_ < x else v at_ ≤ x) := fun x => by
    simp only [satO, s3]
    cases Bd.st b <;> simp <;> constructor <;> intro h <;> grind
  by_cases hi : E.is = false
  · rw [if_pos (.inl hi)]
    refine ⟨hnew, fun x => ?_⟩
    rw [hsat]
    unfold loQ
    rw [hi]; simp
  have hi : E.is = true := by simpa using hi
  have hc := cmp_v s1.ok (hE.sm hi).ok
  rcases hc with ⟨c1, c2⟩ | ⟨c1, c2⟩ | ⟨c1, c2⟩
  · rw [if_neg (by rw [hi]; simp; omega), if_neg (by omega)]
    refine ⟨hE, fun x => ⟨fun h => ⟨h, ?_⟩, fun h => h.1⟩⟩
    rw [hsat]
    have h' := h hi
    split at h' <;> split <;> grind
  · rw [if_neg (by rw [hi, c1]; simp), if_pos c1]
    refine ⟨⟨fun _ => hE.sm hi, fun _ => ?_⟩, fun x => ?_⟩
    · obtain ⟨r', b', p1, p2, p3, p4⟩ := hE.att hi
      cases hs : Bd.st b
      · exact ⟨r', b', p1, p2, p3, by simp only [Bool.or_false]; exact p4⟩
      · exact ⟨v r, b, hP, hn, by simp only; rw [← c2, s3]; push_cast; grind, by simp [hs]⟩
    · rw [hsat]
      unfold loQ
      simp only [hi, true_implies]
      cases hs : E.strict <;> cases hs2 : Bd.st b <;> simp <;> rw [c2] <;> (try constructor) <;> grind
  · rw [if_pos (.inr (by omega))]
    refine ⟨hnew, fun x => ?_⟩
    rw [hsat]
    unfold loQ
    simp only [hi, true_implies]
    constructor
    · intro h
      refine ⟨?_, h⟩
      split at h <;> split <;> grind
    · exact fun h => h.2
theorem near_hi {P : Rat → Int → Prop} {E : End} {D M Dr Mr b : Int} {r : Rt} (hE : EOk D M P (-1) E) (hr : Sm Dr Mr r) (hMr : 0 ≤ Mr) (hDr : Dr ≤ D) (hD : D ≤ 1048576) (hMM : Mr + 288230376151711744 ≤ M) (hM2 : M < 2305843009213693952) (hMd : M * D ≤ 9223372036854775807) (hb : lim 288230376151711744 b) (hP : P (v r) b) :
    EOk D M P (-1) (nearer E b r (-1)) ∧ ∀ x, hiQ (nearer E b r (-1)) x ↔ (hiQ E x ∧ satO (x - v r) (ob b)) := by
  unfold nearer
  by_cases hn : b = NO
  · subst hn
    rw [value_no]
    rw [if_pos (by decide)]
    refine ⟨hE, fun x => ⟨fun h => ⟨h, ?_⟩, fun h => h.1⟩⟩
    simp [ob, satO]
  have hbb := hb.resolve_left hn
  rw [value_of hb hn]
  simp only [ne_eq, not_true_eq_false, if_false]
  have hDp : 1 ≤ D := by have := (ok_bd hr.ok).1; have := hr.den; omega
  have hMd2 : (Mr + 288230376151711744) * D ≤ 9223372036854775807 := Int.le_trans (Int.mul_le_mul_of_nonneg_right hMM (by omega)) hMd
  obtain ⟨s1, s2⟩ := shift_sm (c := - -1 * (b / 2)) (m := 288230376151711744) (d := D) hr hMr (by omega) hDr hD (by omega) hMd2
  have s1 := s1.mono (Int.le_refl D) hMM
  have s3 : v (shift r (- -1 * (b / 2))) = v r + ((b / 2 : Int) : Rat) := by rw [s2]; push_cast; grind
  generalize shift r (- -1 * (b / 2)) = at_ at *
  have hob : ob b = some b := by unfold ob; rw [if_neg hn]
  rw [hob]
  have hnew : EOk D M P (-1) ⟨true, at_, Bd.st b⟩ := ⟨fun _ => s1, fun _ => ⟨v r, b, hP, hn, by rw [s3]; push_cast; grind, Iff.rfl⟩⟩
  have hsat : ∀ x, satO (x - v r) (some b) ↔ (if Bd.st b = true then x < v at_ else x ≤ v at_) := fun x => by
    simp only [satO, s3]
    cases Bd.st b <;> simp <;> constructor <;> intro h <;> grind
  by_cases hi : E.is = false
  · rw [if_pos (.inl hi)]
    refine ⟨hnew, fun x => ?_⟩
    rw [hsat]
    unfold hiQ
    rw [hi]; simp
  have hi : E.is = true := by simpa using hi
  have hc := cmp_v s1.ok (hE.sm hi).ok
  rcases hc with ⟨c1, c2⟩ | ⟨c1, c2⟩ | ⟨c1, c2⟩
  · rw [if_pos (.inr (by omega))]
    refine ⟨hnew, fun x => ?_⟩
    rw [hsat]
    unfold hiQ
    simp only [hi, true_implies]
    constructor
    · intro h
      refine ⟨?_, h⟩
      split at h <;> split <;> grind
    · exact fun h => h.2
  · rw [if_neg (by rw [hi, c1]; simp), if_pos c1]
    refine ⟨⟨fun _ => hE.sm hi, fun _ => ?_⟩, fun x => ?_⟩
    · obtain ⟨r', b', p1, p2, p3, p4⟩ := hE.att hi
      cases hs : Bd.st b
      · exact ⟨r', b', p1, p2, p3, by simp only [Bool.or_false]; exact p4⟩
      · exact ⟨v r, b, hP, hn, by simp only; rw [← c2, s3]; push_cast; grind, by simp [hs]⟩
    · rw [hsat]
      unfold hiQ
      simp only [hi, true_implies]
      cases hs : E.strict <;> cases hs2 : Bd.st b <;> simp <;> rw [c2] <;> (try constructor) <;> grind
  · rw [if_neg (by rw [hi]; simp; omega), if_neg (by omega)]
    refine ⟨hE, fun x => ⟨fun h => ⟨h, ?_⟩, fun h => h.1⟩⟩
    rw [hsat]
    have h' := h hi
    split at h' <;> split <;> grind
theorem st_bsum (u v : Int) : Bd.st (bsum u v) = true ↔ (Bd.st u = true ∨ Bd.st v = true) := by
  rw [st_iff, st_iff, st_iff]
  unfold bsum
  rcases parity u with h1 | h1 <;> rcases parity v with h2 | h2 <;> rw [h1, h2] <;> constructor <;> intro h <;> omega
/-- the ends leave room. -/
theorem ends_room {P Q : Rat → Int → Prop} {l h : End} {D M : Int} (hl : EOk D M P 1 l) (hh : EOk D M Q (-1) h) (hc : ∀ r b r' b', P r b → Q r' b' → b ≠ NO → b' ≠ NO → satO (r - r') (some (bsum b b'))) (h1 : l.is = true) (h2 : h.is = true) :
    v l.at_ ≤ v h.at_ ∧ ((l.strict = true ∨ h.strict = true) → v l.at_ < v h.at_) := by
  obtain ⟨r, b, p1, p2, p3, p4⟩ := hl.att h1
  obtain ⟨r', b', q1, q2, q3, q4⟩ := hh.att h2
  have hs := hc r b r' b' p1 q1 p2 q2
  have hst := st_bsum b b'
  rw [← p4, ← q4] at hst
  simp only [satO, bsum_half] at hs
  rw [p3, q3]
  push_cast at hs ⊢
  generalize ((b / 2 : Int) : Rat) = x at *
  generalize ((b' / 2 : Int) : Rat) = y at *
  split at hs
  · rename_i hk
    exact ⟨by grind, fun _ => by grind⟩
  · rename_i hk
    exact ⟨by grind, fun hh => absurd (hst.2 hh) hk⟩
theorem choose_ok {P Q : Rat → Int → Prop} {l h : End} {D M : Int} (hl : EOk D M P 1 l) (hh : EOk D M Q (-1) h) (hc : ∀ r b r' b', P r b → Q r' b' → b ≠ NO → b' ≠ NO → satO (r - r') (some (bsum b b')))
    (hD : 1 ≤ D) (hD2 : D * D * 2 ≤ 1048576) (hM : 0 ≤ M) (hM2 : M + 1 < 2305843009213693952) (hMd : (M + 1) * (D * D * 2) ≤ 9223372036854775807) :
    Sm (D * D * 2) (M + 1) (choose l h) ∧ loQ l (v (choose l h)) ∧ hiQ h (v (choose l h)) := by
  have hDD : D ≤ D * D * 2 := by
    have := Int.mul_le_mul_of_nonneg_right hD (show 0 ≤ D by omega)
    omega
  have hroom := ends_room hl hh hc
  unfold choose
  split
  · rename_i h1
    refine ⟨(hl.sm h1.1).mono hDD (by omega), fun _ => by rw [h1.2]; simp, fun h2 => ?_⟩
    obtain ⟨r1, r2⟩ := hroom h1.1 h2
    split
    · exact r2 (.inr (by assumption))
    · exact r1
  · rename_i n1
    split
    · rename_i h2
      refine ⟨(hh.sm h2.1).mono hDD (by omega), fun h1 => ?_, fun _ => by rw [h2.2]; simp⟩
      obtain ⟨r1, r2⟩ := hroom h1 h2.1
      split
      · exact r2 (.inl (by assumption))
      · exact r1
    · rename_i n2
      split
      · rename_i h3
        obtain ⟨r1, r2⟩ := hroom h3.1 h3.2
        have s1 : l.strict = true := by
          cases hs : l.strict
          · exact absurd ⟨h3.1, hs⟩ n1
          · rfl
        have r3 := r2 (.inl s1)
        obtain ⟨m1, m2⟩ := mid_sm (d := D * D * 2) (hl.sm h3.1) (hh.sm h3.2) hM (Int.le_refl _) hD2 (by omega) (Int.le_trans (Int.mul_le_mul_of_nonneg_right (show M ≤ M + 1 by omega) (by omega)) hMd)
        refine ⟨m1.mono (Int.le_refl _) (by omega), fun _ => ?_, fun _ => ?_⟩
        · split <;> grind
        · split <;> grind
      · rename_i n3
        split
        · rename_i h1
          have h2 : h.is = false := by
            cases hs : h.is
            · rfl
            · exact absurd ⟨h1, hs⟩ n3
          obtain ⟨m1, m2⟩ := shift_sm (c := 1) (m := 1) (d := D * D * 2) (hl.sm h1) hM (by omega) hDD hD2 hM2 hMd
          refine ⟨m1, fun _ => ?_, fun hh2 => by rw [h2] at hh2; cases hh2⟩
          rw [m2]
          split <;> grind
        · rename_i n4
          have h1 : l.is = false := by simpa using n4
          split
          · rename_i h2
            obtain ⟨m1, m2⟩ := shift_sm (c := -1) (m := 1) (d := D * D * 2) (hh.sm h2) hM (by omega) hDD hD2 hM2 hMd
            refine ⟨m1, fun hh2 => absurd hh2 (by rw [h1]; decide), fun _ => ?_⟩
            rw [m2]
            split <;> grind
          · rename_i n5
            have h2 : h.is = false := by simpa using n5
            refine ⟨⟨by decide, by simp only; omega, by simp only; omega, by simp only; omega⟩, fun hh2 => absurd hh2 (by rw [h1]; decide), fun hh2 => absurd hh2 (by rw [h2]; decide)⟩
theorem ends_ok {n : Nat} {C : List Int} {so : List Rt} {D M Dr Mr : Int} (hso : ∀ j, j < so.length → Sm Dr Mr (so[j]?.getD ⟨0, 1⟩)) (hMr : 0 ≤ Mr) (hDr : Dr ≤ D) (hD : D ≤ 1048576) (hMM : Mr + 288230376151711744 ≤ M) (hM2 : M < 2305843009213693952) (hMd : M * D ≤ 9223372036854775807)
    (hb : ∀ j, j < so.length → lim 288230376151711744 (C[j * n + so.length]?.getD 0) ∧ lim 288230376151711744 (C[so.length * n + j]?.getD 0)) : ∀ k, k ≤ so.length →
    (EOk D M (fun r b => ∃ j, j < so.length ∧ r = v (so[j]?.getD ⟨0, 1⟩) ∧ b = C[j * n + so.length]?.getD 0) 1 (ends n C so k).1 ∧ ∀ x, loQ (ends n C so k).1 x ↔ ∀ j, j < k → satO (v (so[j]?.getD ⟨0, 1⟩) - x) (ob (C[j * n + so.length]?.getD 0))) ∧
    (EOk D M (fun r b => ∃ j, j < so.length ∧ r = v (so[j]?.getD ⟨0, 1⟩) ∧ b = C[so.length * n + j]?.getD 0) (-1) (ends n C so k).2 ∧ ∀ x, hiQ (ends n C so k).2 x ↔ ∀ j, j < k → satO (x - v (so[j]?.getD ⟨0, 1⟩)) (ob (C[so.length * n + j]?.getD 0)))
  | 0, _ => by
    exact ⟨⟨⟨fun h => by simp [ends, End.none] at h, fun h => by simp [ends, End.none] at h⟩, fun x => ⟨fun _ j hj => by omega, fun _ h => by simp [ends, End.none] at h⟩⟩, ⟨⟨fun h => by simp [ends, End.none] at h, fun h => by simp [ends, End.none] at h⟩, fun x => ⟨fun _ j hj => by omega, fun _ h => by simp [ends, End.none] at h⟩⟩⟩
  | k + 1, hk => by
    obtain ⟨⟨l1, l2⟩, ⟨h1, h2⟩⟩ := ends_ok hso hMr hDr hD hMM hM2 hMd hb k (by omega)
    obtain ⟨a1, a2⟩ := near_lo l1 (hso k (by omega)) hMr hDr hD hMM hM2 hMd (hb k (by omega)).1 ⟨k, by omega, rfl, rfl⟩
    obtain ⟨b1, b2⟩ := near_hi h1 (hso k (by omega)) hMr hDr hD hMM hM2 hMd (hb k (by omega)).2 ⟨k, by omega, rfl, rfl⟩
    have key : ∀ (p : Nat → Prop), (∀ j, j < k + 1 → p j) ↔ ((∀ j, j < k → p j) ∧ p k) := fun p => by
      constructor
      · exact fun h => ⟨fun j hj => h j (by omega), h k (by omega)⟩
      · rintro ⟨h, h'⟩ j hj
        rcases Nat.lt_succ_iff_lt_or_eq.1 hj with hj | rfl
        · exact h j hj
        · exact h'
    refine ⟨⟨a1, fun x => ?_⟩, ⟨b1, fun x => ?_⟩⟩
    · show loQ (nearer _ _ _ 1) x ↔ _
      rw [a2, l2, key (fun j => satO (v (so[j]?.getD ⟨0, 1⟩) - x) (ob (C[j * n + so.length]?.getD 0)))]
    · show hiQ (nearer _ _ _ (-1)) x ↔ _
      rw [b2, h2, key (fun j => satO (x - v (so[j]?.getD ⟨0, 1⟩)) (ob (C[so.length * n + j]?.getD 0)))]
/-- one clock more. -/
theorem pick_ok {N : Nat} {C : List Int} {so : List Rt} {D M : Int} (hC : Clo N C) (hlim : ∀ i j, i < N → j < N → lim 288230376151711744 (C[i * N + j]?.getD 0)) (hm : so.length < N) (hso : ∀ j, j < so.length → Sm D M (so[j]?.getD ⟨0, 1⟩))
    (hf : ∀ i j, i < so.length → j < so.length → satO (v (so[i]?.getD ⟨0, 1⟩) - v (so[j]?.getD ⟨0, 1⟩)) (mx N C i j)) (hM : 0 ≤ M) (hD : 1 ≤ D) (hD2 : D * D * 2 ≤ 1048576) (hM2 : M + 288230376151711744 + 1 < 2305843009213693952) (hMd : (M + 288230376151711744 + 1) * (D * D * 2) ≤ 9223372036854775807) :
    Sm (D * D * 2) (M + 288230376151711744 + 1) (pick N C so) ∧ ∀ j, j < so.length → satO (v (so[j]?.getD ⟨0, 1⟩) - v (pick N C so)) (mx N C j so.length) ∧ satO (v (pick N C so) - v (so[j]?.getD ⟨0, 1⟩)) (mx N C so.length j) := by
  have hDD : D ≤ D * D * 2 := by
    have := Int.mul_le_mul_of_nonneg_right hD (show 0 ≤ D by omega)
    omega
  have hq : (M + 288230376151711744) * D ≤ 9223372036854775807 := Int.le_trans (Int.mul_le_mul (show M + 288230376151711744 ≤ M + 288230376151711744 + 1 by omega) hDD (by omega) (by omega)) hMd
  obtain ⟨⟨l1, l2⟩, ⟨h1, h2⟩⟩ := ends_ok (n := N) (C := C) (D := D) (M := M + 288230376151711744) hso hM (Int.le_refl _) (by omega) (Int.le_refl _) (by omega) hq (fun j hj => ⟨hlim j _ (by omega) hm, hlim _ j hm (by omega)⟩) so.length (Nat.le_refl _)
  have hc : ∀ r b r' b', (∃ j, j < so.length ∧ r = v (so[j]?.getD ⟨0, 1⟩) ∧ b = C[j * N + so.length]?.getD 0) → (∃ j, j < so.length ∧ r' = v (so[j]?.getD ⟨0, 1⟩) ∧ b' = C[so.length * N + j]?.getD 0) → b ≠ NO → b' ≠ NO → satO (r - r') (some (bsum b b')) := by
    rintro r b r' b' ⟨j, hj, rfl, rfl⟩ ⟨i, hi, rfl, rfl⟩ n1 n2
    have ht := hC.tri j i so.length (by omega) (by omega) hm
    have := satO_mono ht (hf j i hj hi)
    have e1 : mx N C j so.length = some (C[j * N + so.length]?.getD 0) := by unfold mx ob; rw [if_neg n1]
    have e2 : mx N C so.length i = some (C[so.length * N + i]?.getD 0) := by unfold mx ob; rw [if_neg n2]
    rw [e1, e2] at this
    exact this
  obtain ⟨c1, c2, c3⟩ := choose_ok l1 h1 hc hD hD2 (by omega) hM2 hMd
  exact ⟨c1, fun j hj => ⟨(l2 _).1 c2 j hj, (h2 _).1 c3 j hj⟩⟩
/-- what is picked of a closed matrix of three clocks keeps it. -/
theorem picks_in {C : List Int} (hc : chk 3 C = 0) (hC : Clo 3 C) : ∃ t u : Rt, picks 3 C = ([t, u], 0) ∧ t.ok = true ∧ u.ok = true ∧ Fits 3 (mx 3 C) (tvs [t, u]) := by
  have hlen : C.length = 9 := hC.len
  have hlim : ∀ i j, i < 3 → j < 3 → lim 288230376151711744 (C[i * 3 + j]?.getD 0) := fun i j hi hj => chk_lim hc _ (by omega)
  have s0 : Sm 1 0 ⟨0, 1⟩ := ⟨by decide, by decide, by decide, by decide⟩
  have v0 : v ⟨0, 1⟩ = 0 := by
    show ((0 : Int) : Rat) / ((1 : Int) : Rat) = 0
    have h1 : ((1 : Int) : Rat) = 1 := rfl
    have h2 : ((0 : Int) : Rat) = 0 := rfl
    rw [h1, h2]; grind
  have d1 : ∀ i, i < 3 → satO 0 (mx 3 C i i) := fun i hi => by
    unfold mx ob
    rw [hC.diag i hi]
    exact satO_zero.2 (by omega)
  obtain ⟨a1, a2⟩ := pick_ok (so := [⟨0, 1⟩]) (D := 1) (M := 0) hC hlim (by decide) (fun j hj => by
      have hj : j < 1 := hj
      have e0 : j = 0 := by omega
      rw [e0]; exact s0)
    (fun i j hi hj => by
      have hi : i < 1 := hi
      have hj : j < 1 := hj
      have e0 : i = 0 := by omega
      have e1 : j = 0 := by omega
      rw [e0, e1, Rat.sub_self]; exact d1 0 (by decide)) (by decide) (by decide) (by decide) (by decide) (by decide)
  generalize ht : pick 3 C [⟨0, 1⟩] = t at *
  have b1 := a2 0 (by decide)
  have a1' : Sm 2 288230376151711745 t := a1
  have s0' := s0.mono (show (1 : Int) ≤ 2 by decide) (show (0 : Int) ≤ 288230376151711745 by decide)
  obtain ⟨c1, c2⟩ := pick_ok (so := [⟨0, 1⟩, t]) (D := 2) (M := 288230376151711745) hC hlim (by simp) (fun j hj => by
      have hj : j < 2 := hj
      have : j = 0 ∨ j = 1 := by omega
      rcases this with rfl | rfl
      · exact s0'
      · exact a1')
    (fun i j hi hj => by
      have hi : i < 2 := hi
      have hj : j < 2 := hj
      have : i = 0 ∨ i = 1 := by omega
      have : j = 0 ∨ j = 1 := by omega
      rcases ‹i = 0 ∨ _› with rfl | rfl <;> rcases ‹j = 0 ∨ _› with rfl | rfl
      · rw [Rat.sub_self]; exact d1 0 (by decide)
      · exact b1.1
      · exact b1.2
      · rw [Rat.sub_self]; exact d1 1 (by decide)) (by decide) (by decide) (by decide) (by decide) (by decide)
  generalize hu : pick 3 C [⟨0, 1⟩, t] = u at *
  have b2 := c2 0 (by simp)
  have b3 := c2 1 (by simp)
  have hp : picked 3 C = [t, u] := by
    unfold picked
    show (sofar 3 C 2).drop 1 = _
    simp only [sofar, List.singleton_append, List.cons_append, List.nil_append, ht, hu, List.drop_succ_cons, List.drop_zero]
  refine ⟨t, u, ?_, a1.ok, c1.ok, ?_⟩
  · unfold picks
    rw [if_pos hc]
    have e3 : Int.toNat 3 = 3 := rfl
    rw [e3, hC.close]
    simp only [hp]
  · intro i j hi hj
    have : i = 0 ∨ i = 1 ∨ i = 2 := by omega
    have : j = 0 ∨ j = 1 ∨ j = 2 := by omega
    rcases ‹i = 0 ∨ _› with rfl | rfl | rfl <;> rcases ‹j = 0 ∨ _› with rfl | rfl | rfl
    · rw [Rat.sub_self]; exact d1 0 (by decide)
    · exact b1.1
    · exact b2.1
    · exact b1.2
    · rw [Rat.sub_self]; exact d1 1 (by decide)
    · exact b3.1
    · exact b2.2
    · exact b3.2
    · rw [Rat.sub_self]; exact d1 2 (by decide)
end Incl
end Go.Proofs.YtjbhpfmnfdebkaaGreat

/-
  The contracts of zone.Pick and cover.Witness, by the engine.
-/
namespace Go.Proofs.YtjbhpfmnfdebkaaGreat
set_option linter.unusedVariables false
set_option linter.unusedSimpArgs false
set_option maxRecDepth 100000
open Go.RowKit Go.Proofs.YtjbhpfmnfdebkaaGreat.Eng Enc

namespace Zo
theorem clo {z : Zn} (h : chk z = 0) : Dbm.chk 3 (matL z) = 0 ∧ Dbm.Clo 3 (matL z) := by
  have hk := chk_eq.1 h
  unfold Dbm.close at hk
  split at hk
  · rename_i h0
    split at hk
    · rename_i C hC
      have : C = matL z := by simpa using hk
      subst this
      exact ⟨h0, Dbm.close_clo h0 hC⟩
    · simp at hk
  · simp at hk
def pick (z : Zn) : Pt × Int := if chk z = 0 then (match (Incl.picks 3 (matL z)).1 with | [t, u] => (⟨t, u⟩, 0) | _ => (⟨⟨0, 0⟩, ⟨0, 0⟩⟩, 0)) else (⟨⟨0, 0⟩, ⟨0, 0⟩⟩, 8)
end Zo
namespace Cv
def witness (z : Zn) (l : List Zn) : Pt × Int :=
  if checked [l, [z]] = 0 then (if (Mi.left z l).2 = 0 then (match (Mi.left z l).1 with | [] => (⟨⟨0, 0⟩, ⟨0, 0⟩⟩, 6) | x :: _ => Zo.pick x) else (⟨⟨0, 0⟩, ⟨0, 0⟩⟩, (Mi.left z l).2)) else (⟨⟨0, 0⟩, ⟨0, 0⟩⟩, checked [l, [z]])
end Cv
end Go.Proofs.YtjbhpfmnfdebkaaGreat

/-
  What the examples and the questions of chapter 12 mean, in plain words. No program is in sight.
-/
namespace Go.Proofs.YtjbhpfmnfdebkaaGreat
set_option linter.unusedVariables false
namespace Cv
def of (lo hi : Int) : Zn := (Zo.make ⟨lo, false, hi, false, false⟩ ⟨0, false, 4, false, false⟩ ⟨0, true, 0, false, true⟩).1
end Cv
namespace Cv
def among (l : List Zn) (p : Pt) : Bool × Bool := if l.any (fun b => decide ((Zo.has b p).2 ≠ 0)) = true then (false, false) else (l.any (fun b => (Zo.has b p).1), true)
end Cv
end Go.Proofs.YtjbhpfmnfdebkaaGreat

/-
  What is left of zones, as sets of points; the plain law of CoverWitness.
-/
namespace Go.Proofs.YtjbhpfmnfdebkaaGreat
set_option linter.unusedVariables false
set_option linter.unusedSimpArgs false
open Go.RowKit Go.Proofs.YtjbhpfmnfdebkaaGreat.Eng Enc
namespace Mi
open Dbm
/-- times that are a zone's. -/
def Fz (z : Zn) (t : Nat → Rat) : Prop := Fits 3 (mx 3 (Zo.matL z)) t
/-- the difference that a zone's bound speaks of. -/
def dif (i : Nat) (t : Nat → Rat) : Rat := if i = 0 then t 1 - t 0 else if i = 1 then t 0 - t 1 else if i = 2 then t 2 - t 0 else if i = 3 then t 0 - t 2 else if i = 4 then t 2 - t 1 else t 1 - t 2
theorem six {k : Nat} (h : k < 6) : k = 0 ∨ k = 1 ∨ k = 2 ∨ k = 3 ∨ k = 4 ∨ k = 5 := by omega
theorem fz_iff (z : Zn) (t : Nat → Rat) : Fz z t ↔ ∀ i, i < 6 → satO (dif i t) (ob (Zo.get z i)) := by
  have o1 : ob 1 = some 1 := by decide
  constructor
  · intro h i hi
    rcases six hi with rfl | rfl | rfl | rfl | rfl | rfl
    · exact h 1 0 (by decide) (by decide)
    · exact h 0 1 (by decide) (by decide)
    · exact h 2 0 (by decide) (by decide)
    · exact h 0 2 (by decide) (by decide)
    · exact h 2 1 (by decide) (by decide)
    · exact h 1 2 (by decide) (by decide)
  · intro h i j hi hj
    have : i = 0 ∨ i = 1 ∨ i = 2 := by omega
    have : j = 0 ∨ j = 1 ∨ j = 2 := by omega
    rcases ‹i = 0 ∨ _› with rfl | rfl | rfl <;> rcases ‹j = 0 ∨ _› with rfl | rfl | rfl
    · rw [Rat.sub_self]; show satO 0 (ob 1); rw [o1]; exact satO_zero.2 (by omega)
    · exact h 1 (by decide)
    · exact h 3 (by decide)
    · exact h 0 (by decide)
    · rw [Rat.sub_self]; show satO 0 (ob 1); rw [o1]; exact satO_zero.2 (by omega)
    · exact h 5 (by decide)
    · exact h 2 (by decide)
    · exact h 4 (by decide)
    · rw [Rat.sub_self]; show satO 0 (ob 1); rw [o1]; exact satO_zero.2 (by omega)
theorem satO_min (d : Rat) (x b : Int) : (x = NO ∨ x < NO) → (b = NO ∨ b < NO) → (satO d (ob (min x b)) ↔ satO d (ob x) ∧ satO d (ob b)) := by
  intro hx hb
  have mono : ∀ u v : Int, u ≤ v → (v = NO ∨ v < NO) → satO d (ob u) → satO d (ob v) := fun u v huv hv h => by
    refine satO_mono ?_ h
    unfold ob
    split
    · rename_i hu
      have : v = NO := by omega
      rw [if_pos this]; trivial
    · split
      · trivial
      · exact huv
  rcases Int.le_total x b with h | h
  · rw [Int.min_eq_left h]
    exact ⟨fun k => ⟨k, mono _ _ h hb k⟩, fun k => k.1⟩
  · rw [Int.min_eq_right h]
    exact ⟨fun k => ⟨mono _ _ h hx k, k⟩, fun k => k.2⟩
theorem get_set (z : Zn) {i j : Nat} (hi : i < 6) (hj : j < 6) (x : Int) : Zo.get (Zo.set z i x) j = if j = i then x else Zo.get z j := by
  rcases six hi with rfl | rfl | rfl | rfl | rfl | rfl <;> rcases six hj with rfl | rfl | rfl | rfl | rfl | rfl <;> rfl
theorem lim_lt {m b : Int} (h : lim m b) (hm : m ≤ 2305843009213693951) : b = NO ∨ b < NO := by
  rcases h with h | h
  · exact .inl h
  · right; unfold NO; omega
theorem get_lim {z : Zn} (h : chk 3 (Zo.matL z) = 0) {i : Nat} (hi : i < 6) : lim 288230376151711744 (Zo.get z i) := by
  have g : ∀ q, q < 9 → lim 288230376151711744 ((Zo.matL z)[q]?.getD 0) := fun q hq => chk_lim h q hq
  rcases six hi with rfl | rfl | rfl | rfl | rfl | rfl
  · exact g 3 (by decide)
  · exact g 1 (by decide)
  · exact g 6 (by decide)
  · exact g 2 (by decide)
  · exact g 7 (by decide)
  · exact g 5 (by decide)
theorem cut_fz {z : Zn} (hz : chk 3 (Zo.matL z) = 0) {i : Nat} (hi : i < 6) {b : Int} (hb : b = NO ∨ b < NO) (t : Nat → Rat) : Fz (cut z i b) t ↔ Fz z t ∧ satO (dif i t) (ob b) := by
  have hm := satO_min (dif i t) (Zo.get z i) b (lim_lt (get_lim hz hi) (by omega)) hb
  rw [fz_iff, fz_iff]
  unfold cut
  constructor
  · intro h
    have hi' := h i hi
    rw [get_set z hi hi, if_pos rfl] at hi'
    refine ⟨fun j hj => ?_, (hm.1 hi').2⟩
    by_cases e : j = i
    · subst e; exact (hm.1 hi').1
    · have := h j hj
      rwa [get_set z hi hj, if_neg e] at this
  · rintro ⟨h1, h2⟩ j hj
    rw [get_set z hi hj]
    by_cases e : j = i
    · subst e; rw [if_pos rfl]; exact hm.2 ⟨h1 j hj, h2⟩
    · rw [if_neg e]; exact h1 j hj
/-- a zone out of a matrix. -/
theorem of_ok {L : List Int} (h : (Zo.of 3 L).2 = 0) : Zo.chk (Zo.of 3 L).1 = 0 ∧ ∀ t, Fz (Zo.of 3 L).1 t ↔ Fits 3 (mx 3 L) t := by
  unfold Zo.of at h ⊢
  by_cases h0 : chk 3 L = 0
  case neg => rw [if_neg h0] at h; cases h
  rw [if_pos h0, if_pos rfl] at h ⊢
  have hcl : close 3 L = (match closeL 3 L with | some L' => (3, L', 0) | none => (0, [], 6)) := by unfold close; rw [if_pos h0]; rfl
  cases hC : closeL 3 L with
  | none => rw [hC] at hcl; rw [hcl] at h; rw [if_neg (by decide)] at h; cases h
  | some C =>
    rw [hC] at hcl
    rw [hcl] at h ⊢
    rw [if_pos rfl] at h ⊢
    unfold Zo.told at h ⊢
    by_cases h1 : chk 3 C = 0
    case neg =>
      have : (if chk 3 C = 0 then (Zo.ofL C, (0 : Int)) else (Zo.nought, 8)).2 = 0 := h
      rw [if_neg h1] at this; cases this
    have e1 : (if chk 3 C = 0 then (Zo.ofL C, (0 : Int)) else (Zo.nought, 8)) = (Zo.ofL C, 0) := if_pos h1
    show Zo.chk (if chk 3 C = 0 then (Zo.ofL C, (0 : Int)) else (Zo.nought, 8)).1 = 0 ∧ ∀ t, Fz (if chk 3 C = 0 then (Zo.ofL C, (0 : Int)) else (Zo.nought, 8)).1 t ↔ _
    rw [e1]
    have clo := close_clo h0 hC
    have hm : Zo.matL (Zo.ofL C) = C := by
      have hlen : C.length = 9 := clo.len
      have d0 := clo.diag 0 (by decide)
      have d1 := clo.diag 1 (by decide)
      have d2 := clo.diag 2 (by decide)
      match C, hlen with
      | [c0, c1, c2, c3, c4, c5, c6, c7, c8], _ =>
        simp at d0 d1 d2
        subst d0; subst d1; subst d2
        rfl
    refine ⟨?_, fun t => ?_⟩
    · unfold Zo.chk
      rw [hm]
      have : close 3 C = (3, C, 0) := by
        unfold close
        rw [if_pos h1]
        show (match closeL 3 C with | some L' => ((3 : Int), L', (0 : Int)) | none => (0, [], 6)) = _
        rw [clo.close]
      rw [if_pos this]
    · unfold Fz
      rw [hm]
      exact close_fits h0 hC t
theorem wth_ok {z : Zn} (hz : chk 3 (Zo.matL z) = 0) {i : Nat} (hi : i < 6) {b : Int} (hb : b = NO ∨ b < NO) (h : (wth z i b).2 = 0) : Zo.chk (wth z i b).1 = 0 ∧ ∀ t, Fz (wth z i b).1 t ↔ Fz z t ∧ satO (dif i t) (ob b) := by
  unfold wth at h ⊢
  by_cases h0 : chk 3 (Zo.matL (cut z i b)) = 0
  case neg => rw [if_neg h0] at h; cases h
  rw [if_pos h0] at h ⊢
  obtain ⟨h1, h2⟩ := of_ok h
  exact ⟨h1, fun t => (h2 t).trans (cut_fz hz hi hb t)⟩
theorem dif_other {i : Nat} (hi : i < 6) (t : Nat → Rat) : dif (other i) t = - dif i t := by
  rcases six hi with rfl | rfl | rfl | rfl | rfl | rfl <;> simp [dif, other] <;> grind
theorem not_lt {b : Int} (h : (Bd.not b).2 = 0) (hl : lim 288230376151711744 b) : b ≠ NO ∧ (Bd.not b).1 < NO ∧ ∀ d : Rat, satO (-d) (ob (Bd.not b).1) ↔ ¬ satO d (ob b) := by
  unfold Bd.not at h ⊢
  by_cases hn : b = NO
  · subst hn
    rw [Incl.value_no] at h
    rw [if_neg (by decide)] at h; cases h
  rw [Incl.value_of hl hn] at h ⊢
  simp only [if_true] at h ⊢
  have hb := hl.resolve_left hn
  have hok : Num.okB (-(b / 2)) = true := Num.okB_iff.2 (by omega)
  unfold Bd.made at h ⊢
  rw [if_pos hok] at h ⊢
  simp only
  refine ⟨hn, ?_, fun d => ?_⟩
  · unfold Bd.mk NO; split <;> omega
  · have hob : ob b = some b := by unfold ob; rw [if_neg hn]
    rw [hob]
    have hm : Bd.mk (-(b / 2)) (!Bd.st b) < NO ∧ -1000000000000000000 ≤ Bd.mk (-(b / 2)) (!Bd.st b) := by unfold Bd.mk NO; split <;> omega
    have hob2 : ob (Bd.mk (-(b / 2)) (!Bd.st b)) = some (Bd.mk (-(b / 2)) (!Bd.st b)) := by unfold ob; rw [if_neg (by omega)]
    rw [hob2]
    simp only [satO]
    cases hs : Bd.st b
    · have e1 : Bd.mk (-(b / 2)) (!false) = -(b / 2) * 2 := rfl
      have e2 : Bd.st (-(b / 2) * 2) = true := (st_iff _).2 (by omega)
      have e3 : -(b / 2) * 2 / 2 = -(b / 2) := by omega
      rw [e1, e2, e3, Rat.intCast_neg]
      simp only [Bool.false_eq_true, if_true, if_false]
      constructor <;> intro h <;> grind
    · have e1 : Bd.mk (-(b / 2)) (!true) = -(b / 2) * 2 + 1 := rfl
      have e2 : Bd.st (-(b / 2) * 2 + 1) = false := by
        cases hh : Bd.st (-(b / 2) * 2 + 1)
        · rfl
        · have := (st_iff _).1 hh; omega
      have e3 : (-(b / 2) * 2 + 1) / 2 = -(b / 2) := by omega
      rw [e1, e2, e3, Rat.intCast_neg]
      simp only [Bool.false_eq_true, if_true, if_false]
      constructor <;> intro h <;> grind
/-- each of what is told is of the one, and breaks one of the other's bounds. -/
theorem go_ok {b : Zn} (hb : chk 3 (Zo.matL b) = 0) : ∀ (l : List Nat) (x : Zn), (∀ i, i ∈ l → i < 6) → chk 3 (Zo.matL x) = 0 → (∀ y, y ∈ go b l x → y.2 = 0) →
    ∀ y, y ∈ go b l x → Zo.chk y.1 = 0 ∧ ∀ t, Fz y.1 t → Fz x t ∧ ∃ i, i < 6 ∧ ¬ satO (dif i t) (ob (Zo.get b i))
  | [], x, _, _, _, y, hy => by simp [go] at hy
  | i :: l, x, hl, hx, h0, y, hy => by
    have hi := hl i (by simp)
    have hll : ∀ j, j ∈ l → j < 6 := fun j hj => hl j (by simp [hj])
    unfold go at h0 hy
    by_cases hn : (Bd.not (Zo.get b i)).2 ≠ 0
    · rw [if_pos hn] at h0 hy
      exact go_ok hb l x hll hx h0 y hy
    rw [if_neg hn] at h0 hy
    have hn : (Bd.not (Zo.get b i)).2 = 0 := by simpa using hn
    obtain ⟨n1, n2, n3⟩ := not_lt hn (get_lim hb hi)
    have ho : other i < 6 := by unfold other; split <;> omega
    rcases List.mem_append.1 hy with hy' | hy'
    · by_cases h6 : (wth x (other i) (Bd.not (Zo.get b i)).1).2 = 6
      · rw [if_pos h6] at hy'; simp at hy'
      · rw [if_neg h6] at hy'
        have e := List.mem_singleton.1 hy'
        have hz := h0 _ (by rw [if_neg h6]; exact List.mem_append.2 (.inl (List.mem_singleton.2 rfl)))
        obtain ⟨w1, w2⟩ := wth_ok hx ho (.inr n2) hz
        rw [e]
        refine ⟨w1, fun t ht => ?_⟩
        obtain ⟨k1, k2⟩ := (w2 t).1 ht
        rw [dif_other hi] at k2
        exact ⟨k1, i, hi, (n3 _).1 k2⟩
    · by_cases h6 : (wth x i (Zo.get b i)).2 = 6
      · rw [if_pos h6] at hy'; simp at hy'
      · rw [if_neg h6] at hy' h0
        have hz : (wth x i (Zo.get b i)).2 = 0 := by
          by_cases e : (wth x i (Zo.get b i)).2 = 0
          · exact e
          · exact h0 _ (List.mem_append.2 (.inr (List.mem_append.2 (.inl (by rw [if_neg e]; exact List.mem_singleton.2 rfl)))))
        rw [if_pos hz, List.nil_append] at hy' h0
        obtain ⟨w1, w2⟩ := wth_ok hx hi (lim_lt (get_lim hb hi) (by omega)) hz
        obtain ⟨g1, g2⟩ := go_ok hb l _ hll (Zo.clo w1).1 (fun y hy => h0 y (List.mem_append.2 (.inr hy))) y hy'
        refine ⟨g1, fun t ht => ?_⟩
        obtain ⟨k1, k2⟩ := g2 t ht
        exact ⟨((w2 t).1 k1).1, k2⟩
/-- zones that may be, and lie in a set. -/
def Within (S : (Nat → Rat) → Prop) (l : List Zn) : Prop := ∀ z, z ∈ l → Zo.chk z = 0 ∧ ∀ t, Fz z t → S t
theorem minus_ok {a b : Zn} (ha : Zo.chk a = 0) (hb : Zo.chk b = 0) (h : (minus a b).2 = 0) : Within (fun t => Fz a t ∧ ¬ Fz b t) (minus a b).1 := by
  unfold minus at h ⊢
  rw [if_pos ⟨ha, hb⟩] at h ⊢
  cases hf : (parts a b).find? (fun x => decide (x.2 ≠ 0)) with
  | some x =>
    rw [hf] at h
    have := List.find?_some hf
    simp at this h
    exact absurd h this
  | none =>
    have h0 : ∀ y, y ∈ parts a b → y.2 = 0 := fun y hy => by have := List.find?_eq_none.1 hf y hy; simpa using this
    intro z hz
    simp only [List.mem_map] at hz
    obtain ⟨y, hy, rfl⟩ := hz
    obtain ⟨g1, g2⟩ := go_ok (Zo.clo hb).1 [0, 1, 2, 3, 4, 5] a (by simp) (Zo.clo ha).1 h0 y hy
    refine ⟨g1, fun t ht => ?_⟩
    obtain ⟨k1, i, hi, k2⟩ := g2 t ht
    exact ⟨k1, fun hbt => k2 ((fz_iff b t).1 hbt i hi)⟩
theorem inner_ok {b : Zn} (hb : Zo.chk b = 0) {A : (Nat → Rat) → Prop} : ∀ (out next : List Zn), Within A out → Within (fun t => A t ∧ ¬ Fz b t) next → (inner b out next).2 = 0 → Within (fun t => A t ∧ ¬ Fz b t) (inner b out next).1
  | [], next, _, hn, _ => hn
  | z :: t, next, ho, hn, h => by
    rw [inner_cons] at h ⊢
    by_cases h1 : (minus z b).2 ≠ 0
    · rw [if_pos h1] at h; exact absurd h h1
    rw [if_neg h1] at h ⊢
    by_cases h2 : 4096 < (next ++ (minus z b).1).length
    · rw [if_pos h2] at h; cases h
    rw [if_neg h2] at h ⊢
    obtain ⟨z1, z2⟩ := ho z (by simp)
    refine inner_ok hb t _ (fun y hy => ho y (by simp [hy])) (fun y hy => ?_) h
    rcases List.mem_append.1 hy with hy | hy
    · exact hn y hy
    · obtain ⟨k1, k2⟩ := minus_ok z1 hb (by simpa using h1) y hy
      exact ⟨k1, fun t ht => ⟨z2 t (k2 t ht).1, (k2 t ht).2⟩⟩
theorem outer_ok : ∀ (l out : List Zn) {A : (Nat → Rat) → Prop}, (∀ b, b ∈ l → Zo.chk b = 0) → Within A out → (outer l out).2 = 0 → Within (fun t => A t ∧ ∀ b, b ∈ l → ¬ Fz b t) (outer l out).1
  | [], out, A, _, ho, _ => fun z hz => ⟨(ho z hz).1, fun t ht => ⟨(ho z hz).2 t ht, by simp⟩⟩
  | b :: l, out, A, hl, ho, h => by
    rw [outer_cons] at h ⊢
    by_cases h1 : (inner b out []).2 ≠ 0
    · rw [if_pos h1] at h; exact absurd h h1
    rw [if_neg h1] at h ⊢
    have hi := inner_ok (hl b (by simp)) out [] ho (fun z hz => by simp at hz) (by simpa using h1)
    have ho' := outer_ok l _ (fun y hy => hl y (by simp [hy])) hi h
    intro z hz
    obtain ⟨k1, k2⟩ := ho' z hz
    refine ⟨k1, fun t ht => ?_⟩
    obtain ⟨⟨q1, q2⟩, q3⟩ := k2 t ht
    refine ⟨q1, fun y hy => ?_⟩
    rcases List.mem_cons.1 hy with rfl | hy
    · exact q2
    · exact q3 y hy
theorem left_ok {a : Zn} {l : List Zn} (h : (left a l).2 = 0) : Zo.chk a = 0 ∧ (∀ b, b ∈ l → Zo.chk b = 0) ∧ left a l = outer l [a] ∧ Within (fun t => Fz a t ∧ ∀ b, b ∈ l → ¬ Fz b t) (left a l).1 := by
  unfold left at h ⊢
  by_cases ha : Zo.chk a ≠ 0
  · rw [if_pos ha] at h; cases h
  rw [if_neg ha] at h ⊢
  have ha : Zo.chk a = 0 := by simpa using ha
  by_cases hl : l.any (fun b => decide (Zo.chk b ≠ 0)) = true
  · rw [if_pos hl] at h; cases h
  rw [if_neg hl] at h ⊢
  have hl : ∀ b, b ∈ l → Zo.chk b = 0 := fun b hb => by
    rcases Classical.em (Zo.chk b = 0) with e | e
    · exact e
    · exact absurd (List.any_eq_true.2 ⟨b, hb, by simpa using e⟩) hl
  exact ⟨ha, hl, rfl, outer_ok l [a] hl (fun z hz => by rw [List.mem_singleton.1 hz]; exact ⟨ha, fun t ht => ht⟩) h⟩
end Mi
theorem Zo.pick_ok {z : Zn} (hz : Zo.chk z = 0) : (Zo.pick z).2 = 0 ∧ (Zo.pick z).1.t.ok = true ∧ (Zo.pick z).1.u.ok = true ∧ Mi.Fz z (Dbm.tvs [(Zo.pick z).1.t, (Zo.pick z).1.u]) := by
  obtain ⟨c1, c2⟩ := Zo.clo hz
  obtain ⟨t, u, hp, ht, hu, hf⟩ := Incl.picks_in c1 c2
  unfold Zo.pick
  rw [if_pos hz, hp]
  exact ⟨rfl, ht, hu, hf⟩
namespace Cv
/-- what the law of witnesses wants. -/
structure WitLaw (z : Zn) (l : List Zn) (more : Zn) : Prop where
  err : (in_ z l).2 ≠ 0 → (witness z l).2 = (in_ z l).2 ∧ (in_ z l).1 = false
  yes : (in_ z l).2 = 0 → (in_ z l).1 = true → (witness z l).2 = 6 ∧ ((in_ z (l ++ [more])).2 = 0 → (in_ z (l ++ [more])).1 = true)
  no : (in_ z l).2 = 0 → (in_ z l).1 = false → (witness z l).2 = 0 ∧ Zo.has z (witness z l).1 = (true, 0) ∧ among l (witness z l).1 = (false, true)
  ins : (witness z l).1.ins
theorem in_split (z : Zn) (l : List Zn) : (checked [l, [z]] ≠ 0 ∧ in_ z l = (false, checked [l, [z]])) ∨ (checked [l, [z]] = 0 ∧ in_ z l = (decide ((Mi.left z l).2 = 0) && decide ((Mi.left z l).1.length = 0), (Mi.left z l).2)) := by
  unfold in_
  by_cases h : checked [l, [z]] = 0
  · right; rw [if_pos h]; exact ⟨h, rfl⟩
  · left; rw [if_neg h]; exact ⟨h, rfl⟩
end Cv
end Go.Proofs.YtjbhpfmnfdebkaaGreat

/-
  What is left of zones is all that is not the others' (the other half of XPlainWit); what cover.In tells, in points.
-/
namespace Go.Proofs.YtjbhpfmnfdebkaaGreat
set_option linter.unusedVariables false
set_option linter.unusedSimpArgs false
open Go.RowKit Go.Proofs.YtjbhpfmnfdebkaaGreat.Eng Enc
namespace Mi
open Dbm
theorem of_none {L : List Int} (h : (Zo.of 3 L).2 = 6) (t : Nat → Rat) : ¬ Fits 3 (mx 3 L) t := by
  intro ht
  unfold Zo.of at h
  by_cases h0 : chk 3 L = 0
  case neg => rw [if_neg h0] at h; cases h
  rw [if_pos h0, if_pos rfl] at h
  obtain ⟨C, hC⟩ := close_some h0 ht
  have hcl : close 3 L = (3, C, 0) := by
    unfold close; rw [if_pos h0]
    show (match closeL 3 L with | some L' => ((3 : Int), L', (0 : Int)) | none => (0, [], 6)) = _
    rw [hC]
  rw [hcl] at h
  rw [if_pos rfl] at h
  unfold Zo.told at h
  by_cases h1 : chk 3 C = 0
  · have : (if chk 3 C = 0 then (Zo.ofL C, (0 : Int)) else (Zo.nought, 8)).2 = 6 := h
    rw [if_pos h1] at this; cases this
  · have : (if chk 3 C = 0 then (Zo.ofL C, (0 : Int)) else (Zo.nought, 8)).2 = 6 := h
    rw [if_neg h1] at this; cases this
theorem wth_none {z : Zn} (hz : chk 3 (Zo.matL z) = 0) {i : Nat} (hi : i < 6) {b : Int} (hb : b = NO ∨ b < NO) (h : (wth z i b).2 = 6) (t : Nat → Rat) : ¬ (Fz z t ∧ satO (dif i t) (ob b)) := by
  unfold wth at h
  by_cases h0 : chk 3 (Zo.matL (cut z i b)) = 0
  case neg => rw [if_neg h0] at h; cases h
  rw [if_pos h0] at h
  intro ht
  exact of_none h t ((cut_fz hz hi hb t).2 ht)
theorem not_err {b : Int} (h : (Bd.not b).2 ≠ 0) (hl : lim 288230376151711744 b) : b = NO := by
  by_cases hn : b = NO
  · exact hn
  exfalso
  apply h
  unfold Bd.not
  rw [Incl.value_of hl hn]
  have hb := hl.resolve_left hn
  have hok : Num.okB (-(b / 2)) = true := Num.okB_iff.2 (by omega)
  simp only [if_true]
  unfold Bd.made
  rw [if_pos hok]
theorem go_all {b : Zn} (hb : chk 3 (Zo.matL b) = 0) : ∀ (l : List Nat) (x : Zn), (∀ i, i ∈ l → i < 6) → chk 3 (Zo.matL x) = 0 → (∀ y, y ∈ go b l x → y.2 = 0) →
    ∀ t, Fz x t → (∃ i, i ∈ l ∧ ¬ satO (dif i t) (ob (Zo.get b i))) → ∃ y, y ∈ go b l x ∧ Fz y.1 t
  | [], x, _, _, _, t, _, ⟨i, hi, _⟩ => by simp at hi
  | i :: l, x, hl, hx, h0, t, ht, hi0 => by
    have hi := hl i (by simp)
    have hll : ∀ j, j ∈ l → j < 6 := fun j hj => hl j (by simp [hj])
    unfold go at h0 ⊢
    by_cases hn : (Bd.not (Zo.get b i)).2 ≠ 0
    · rw [if_pos hn] at h0 ⊢
      have hno := not_err hn (get_lim hb hi)
      obtain ⟨j, hj, hs⟩ := hi0
      rcases List.mem_cons.1 hj with rfl | hj
      · exfalso; apply hs; rw [hno]; trivial
      · exact go_all hb l x hll hx h0 t ht ⟨j, hj, hs⟩
    rw [if_neg hn] at h0 ⊢
    have hn : (Bd.not (Zo.get b i)).2 = 0 := by simpa using hn
    obtain ⟨n1, n2, n3⟩ := not_lt hn (get_lim hb hi)
    have ho : other i < 6 := by unfold other; split <;> omega
    by_cases hs : satO (dif i t) (ob (Zo.get b i))
    · have h6 : (wth x i (Zo.get b i)).2 ≠ 6 := fun e => wth_none hx hi (lim_lt (get_lim hb hi) (by omega)) e t ⟨ht, hs⟩
      rw [if_neg h6] at h0 ⊢
      have hz : (wth x i (Zo.get b i)).2 = 0 := by
        by_cases e : (wth x i (Zo.get b i)).2 = 0
        · exact e
        · exact h0 _ (List.mem_append.2 (.inr (List.mem_append.2 (.inl (by rw [if_neg e]; exact List.mem_singleton.2 rfl)))))
      rw [if_pos hz, List.nil_append] at h0 ⊢
      obtain ⟨w1, w2⟩ := wth_ok hx hi (lim_lt (get_lim hb hi) (by omega)) hz
      obtain ⟨j, hj, hsj⟩ := hi0
      rcases List.mem_cons.1 hj with rfl | hj
      · exact absurd hs hsj
      obtain ⟨y, hy, hyt⟩ := go_all hb l _ hll (Zo.clo w1).1 (fun y hy => h0 y (List.mem_append.2 (.inr hy))) t ((w2 t).2 ⟨ht, hs⟩) ⟨j, hj, hsj⟩
      exact ⟨y, List.mem_append.2 (.inr hy), hyt⟩
    · have hsn : satO (dif (other i) t) (ob (Bd.not (Zo.get b i)).1) := by rw [dif_other hi]; exact (n3 _).2 hs
      have h6 : (wth x (other i) (Bd.not (Zo.get b i)).1).2 ≠ 6 := fun e => wth_none hx ho (.inr n2) e t ⟨ht, hsn⟩
      rw [if_neg h6] at h0 ⊢
      have hm : wth x (other i) (Bd.not (Zo.get b i)).1 ∈ [wth x (other i) (Bd.not (Zo.get b i)).1] ++ (if (wth x i (Zo.get b i)).2 = 6 then [] else (if (wth x i (Zo.get b i)).2 = 0 then [] else [wth x i (Zo.get b i)]) ++ go b l (wth x i (Zo.get b i)).1) := List.mem_append.2 (.inl (List.mem_singleton.2 rfl))
      obtain ⟨w1, w2⟩ := wth_ok hx ho (.inr n2) (h0 _ hm)
      exact ⟨_, hm, (w2 t).2 ⟨ht, hsn⟩⟩
theorem minus_all {a b : Zn} (ha : Zo.chk a = 0) (hb : Zo.chk b = 0) (h : (minus a b).2 = 0) {t : Nat → Rat} (ht : Fz a t) (hn : ¬ Fz b t) : ∃ y, y ∈ (minus a b).1 ∧ Fz y t := by
  unfold minus at h ⊢
  rw [if_pos ⟨ha, hb⟩] at h ⊢
  cases hf : (parts a b).find? (fun x => decide (x.2 ≠ 0)) with
  | some x =>
    rw [hf] at h
    have := List.find?_some hf
    simp at this h
    exact absurd h this
  | none =>
    have h0 : ∀ y, y ∈ parts a b → y.2 = 0 := fun y hy => by have := List.find?_eq_none.1 hf y hy; simpa using this
    have hex : ∃ i, i < 6 ∧ ¬ satO (dif i t) (ob (Zo.get b i)) := by
      apply Classical.byContradiction
      intro hall
      exact hn ((fz_iff b t).2 fun i hi => Classical.byContradiction fun hs => hall ⟨i, hi, hs⟩)
    obtain ⟨i, hi, hs⟩ := hex
    obtain ⟨y, hy, hyt⟩ := go_all (Zo.clo hb).1 [0, 1, 2, 3, 4, 5] a (by simp) (Zo.clo ha).1 h0 t ht ⟨i, by rcases six hi with rfl | rfl | rfl | rfl | rfl | rfl <;> simp, hs⟩
    exact ⟨y.1, List.mem_map.2 ⟨y, hy, rfl⟩, hyt⟩
theorem inner_all {b : Zn} (hb : Zo.chk b = 0) : ∀ (out next : List Zn), (∀ z, z ∈ out → Zo.chk z = 0) → (inner b out next).2 = 0 → ∀ t, ((∃ y, y ∈ next ∧ Fz y t) ∨ ((∃ y, y ∈ out ∧ Fz y t) ∧ ¬ Fz b t)) → ∃ y, y ∈ (inner b out next).1 ∧ Fz y t
  | [], next, _, _, t, h => by
    rcases h with h | ⟨⟨y, hy, _⟩, _⟩
    · exact h
    · simp at hy
  | z :: o, next, ho, h, t, hm => by
    rw [inner_cons] at h ⊢
    by_cases h1 : (minus z b).2 ≠ 0
    · rw [if_pos h1] at h; exact absurd h h1
    rw [if_neg h1] at h ⊢
    by_cases h2 : 4096 < (next ++ (minus z b).1).length
    · rw [if_pos h2] at h; cases h
    rw [if_neg h2] at h ⊢
    refine inner_all hb o _ (fun y hy => ho y (by simp [hy])) h t ?_
    rcases hm with ⟨y, hy, hyt⟩ | ⟨⟨y, hy, hyt⟩, hnb⟩
    · exact .inl ⟨y, List.mem_append.2 (.inl hy), hyt⟩
    · rcases List.mem_cons.1 hy with rfl | hy
      · obtain ⟨x, hx, hxt⟩ := minus_all (ho y (by simp)) hb (by simpa using h1) hyt hnb
        exact .inl ⟨x, List.mem_append.2 (.inr hx), hxt⟩
      · exact .inr ⟨⟨y, hy, hyt⟩, hnb⟩
theorem outer_all : ∀ (l out : List Zn), (∀ b, b ∈ l → Zo.chk b = 0) → (∀ b, b ∈ out → Zo.chk b = 0) → (outer l out).2 = 0 → ∀ t, (∃ y, y ∈ out ∧ Fz y t) → (∀ b, b ∈ l → ¬ Fz b t) → ∃ y, y ∈ (outer l out).1 ∧ Fz y t
  | [], out, _, _, _, t, h, _ => h
  | b :: l, out, hl, ho, h, t, hm, hn => by
    rw [outer_cons] at h ⊢
    by_cases h1 : (inner b out []).2 ≠ 0
    · rw [if_pos h1] at h; exact absurd h h1
    rw [if_neg h1] at h ⊢
    have hb := hl b (by simp)
    have hi := inner_ok hb (A := fun _ => True) out [] (fun z hz => ⟨ho z hz, fun _ _ => trivial⟩) (fun z hz => by simp at hz) (by simpa using h1)
    exact outer_all l _ (fun y hy => hl y (by simp [hy])) (fun y hy => (hi y hy).1) h t (inner_all hb out [] ho (by simpa using h1) t (.inr ⟨hm, hn b (by simp)⟩)) fun y hy => hn y (by simp [hy])
theorem left_all {a : Zn} {l : List Zn} (h : (left a l).2 = 0) {t : Nat → Rat} (ht : Fz a t) (hn : ∀ b, b ∈ l → ¬ Fz b t) : ∃ y, y ∈ (left a l).1 ∧ Fz y t := by
  obtain ⟨ha, hl, hlo, _⟩ := left_ok h
  rw [hlo] at h ⊢
  exact outer_all l [a] hl (fun b hb => by rw [List.mem_singleton.1 hb]; exact ha) h t ⟨a, by simp, ht⟩ hn
theorem fz_ex {z : Zn} (hz : Zo.chk z = 0) : ∃ t, Fz z t := ⟨_, (Zo.pick_ok hz).2.2.2⟩
end Mi
namespace Cv
open Mi
/-- all points of a zone are of some. -/
def Cov (z : Zn) (l : List Zn) : Prop := ∀ t, Fz z t → ∃ b, b ∈ l ∧ Fz b t
theorem Cov.mono {z : Zn} {l m : List Zn} (h : Cov z l) (hs : ∀ x, x ∈ l → x ∈ m) : Cov z m := fun t ht => by
  obtain ⟨b, hb, hbt⟩ := h t ht
  exact ⟨b, hs b hb, hbt⟩
theorem in_ok {z : Zn} {l : List Zn} (h : (in_ z l).2 = 0) : Zo.chk z = 0 ∧ (∀ b, b ∈ l → Zo.chk b = 0) ∧ ((in_ z l).1 = true ↔ Cov z l) := by
  rcases in_split z l with ⟨h0, e⟩ | ⟨h0, e⟩
  · rw [e] at h; exact absurd h h0
  rw [e] at h ⊢
  simp only at h
  obtain ⟨ha, hl, hlo, hw⟩ := left_ok h
  refine ⟨ha, hl, ?_⟩
  simp only [h, decide_true, Bool.true_and, decide_eq_true_eq]
  constructor
  · intro hlen t ht
    apply Classical.byContradiction
    intro hno
    obtain ⟨y, hy, _⟩ := left_all h ht fun b hb hbt => hno ⟨b, hb, hbt⟩
    rw [List.eq_nil_of_length_eq_zero hlen] at hy
    simp at hy
  · intro hc
    cases hx : (left z l).1 with
    | nil => rfl
    | cons x r =>
      exfalso
      obtain ⟨x1, x2⟩ := hw x (by rw [hx]; simp)
      obtain ⟨t, ht⟩ := fz_ex x1
      obtain ⟨q1, q2⟩ := x2 t ht
      obtain ⟨b, hb, hbt⟩ := hc t q1
      exact q2 b hb hbt
end Cv
end Go.Proofs.YtjbhpfmnfdebkaaGreat

/-
  What comes of small zones has no error but that there is none; what is left of a zone are zones that have no point in common. No program is in sight.
-/
namespace Go.Proofs.YtjbhpfmnfdebkaaGreat
set_option linter.unusedVariables false
set_option linter.unusedSimpArgs false
open Go.RowKit Go.Proofs.YtjbhpfmnfdebkaaGreat.Eng Enc
namespace Mi
open Dbm
/-- all bounds are there, and small. -/
def Sm (S : Int) (z : Zn) : Prop := ∀ k, k < 6 → Zo.get z k ≤ S
theorem get_mayC {z : Zn} (h : chk 3 (Zo.matL z) = 0) {k : Nat} (hk : k < 6) : mayC (Zo.get z k) = true := by
  obtain ⟨_, _, _, h4⟩ := chk_iff.1 h
  simp only [Zo.matL, List.any_cons, List.any_nil, Bool.or_false, Bool.or_eq_false_iff, Bool.not_eq_false'] at h4
  obtain ⟨_, h1, h2, h3, _, h5, h6, h7, _⟩ := h4
  rcases six hk with rfl | rfl | rfl | rfl | rfl | rfl <;> assumption
theorem chk_of_get {z : Zn} (h : ∀ k, k < 6 → mayC (Zo.get z k) = true) : chk 3 (Zo.matL z) = 0 := by
  have h0 : mayC z.a = true := h 0 (by decide)
  have h1 : mayC z.b = true := h 1 (by decide)
  have h2 : mayC z.c = true := h 2 (by decide)
  have h3 : mayC z.d = true := h 3 (by decide)
  have h4 : mayC z.e = true := h 4 (by decide)
  have h5 : mayC z.f = true := h 5 (by decide)
  have h6 : mayC 1 = true := by decide
  refine chk_iff.2 ⟨by decide, by decide, by simp [Zo.matL], ?_⟩
  simp [Zo.matL, h0, h1, h2, h3, h4, h5, h6]
theorem mayC_iff {b : Int} : mayC b = true ↔ b = NO ∨ (-288230376151711744 ≤ b / 2 ∧ b / 2 ≤ 288230376151711744) := by
  unfold mayC NO
  simp
/-- a closed matrix of small bounds. -/
theorem of_sm {L : List Int} {S : Int} (h0 : chk 3 L = 0) (hS : 0 ≤ S ∧ S ≤ 288230376151711744) (h : ∀ i j, i < 3 → j < 3 → i ≠ j → L[i * 3 + j]?.getD 0 ≤ S) :
    (Zo.of 3 L).2 = 6 ∨ ((Zo.of 3 L).2 = 0 ∧ Clo 3 (Zo.matL (Zo.of 3 L).1) ∧ ∀ i j, i < 3 → j < 3 → i ≠ j → (Zo.matL (Zo.of 3 L).1)[i * 3 + j]?.getD 0 ≤ L[i * 3 + j]?.getD 0) := by
  unfold Zo.of
  rw [if_pos h0, if_pos rfl]
  have hcl : close 3 L = (match closeL 3 L with | some L' => (3, L', 0) | none => (0, [], 6)) := by unfold close; rw [if_pos h0]; rfl
  cases hC : closeL 3 L with
  | none => rw [hC] at hcl; rw [hcl]; left; rfl
  | some C =>
    right
    rw [hC] at hcl
    rw [hcl, if_pos rfl]
    obtain ⟨L1, a2, a3, inv, hl, hE⟩ := close_inv h0 hC
    have clo := close_clo h0 hC
    have low : ∀ i j, i < 3 → j < 3 → i ≠ j → C[i * 3 + j]?.getD 0 ≤ L[i * 3 + j]?.getD 0 ∧ C[i * 3 + j]?.getD 0 ≠ NO := fun i j hi hj hne => by
      have h1 := inv.low i j hi hj
      have h2 := h i j hi hj hne
      have hno : L[i * 3 + j]?.getD 0 ≠ NO := fun e => by rw [e] at h2; unfold NO at h2; omega
      have h3 : mx 3 L1 i j = some (L[i * 3 + j]?.getD 0) := by
        unfold mx ob
        rw [a3 i j hi hj, if_neg hne, if_neg hno]
      rw [h3] at h1
      cases hv : mx 3 C i j with
      | none => rw [hv] at h1; exact h1.elim
      | some v =>
        rw [hv] at h1
        obtain ⟨e1, e2⟩ := mx_some hv
        rw [e1]
        exact ⟨h1, e2⟩
    have hmay : ∀ i j, i < 3 → j < 3 → mayC (C[i * 3 + j]?.getD 0) = true := fun i j hi hj => by
      by_cases e : i = j
      · subst e
        rw [clo.diag i hi]; decide
      · obtain ⟨l1, l2⟩ := low i j hi hj e
        obtain ⟨l3, l4⟩ := low j i hj hi (fun h => e h.symm)
        have s1 := h i j hi hj e
        have s2 := h j i hj hi (fun h => e h.symm)
        have h3 := clo.tri i i j hi hi hj
        have m1 : mx 3 C i i = some 1 := by unfold mx; rw [clo.diag i hi]; rfl
        have m2 : mx 3 C i j = some (C[i * 3 + j]?.getD 0) := by unfold mx ob; rw [if_neg l2]
        have m3 : mx 3 C j i = some (C[j * 3 + i]?.getD 0) := by unfold mx ob; rw [if_neg l4]
        rw [m1, m2, m3] at h3
        have h4 : (1 : Int) ≤ bsum (C[i * 3 + j]?.getD 0) (C[j * 3 + i]?.getD 0) := h3
        have h5 := bsum_half (C[i * 3 + j]?.getD 0) (C[j * 3 + i]?.getD 0)
        exact mayC_iff.2 (.inr (by omega))
    have hlen : C.length = 9 := clo.len
    have h1 : chk 3 C = 0 := by
      refine chk_iff.2 ⟨by decide, by decide, by rw [hlen]; decide, ?_⟩
      rw [List.any_eq_false]
      intro b hb
      obtain ⟨q, hq, rfl⟩ := List.getElem_of_mem hb
      have := hmay (q / 3) (q % 3) (by omega) (by omega)
      rw [show q / 3 * 3 + q % 3 = q by omega, List.getElem?_eq_getElem hq] at this
      simpa using this
    have e1 : (Zo.told (3, C, (0 : Int)).2.1) = (Zo.ofL C, 0) := by unfold Zo.told; exact if_pos h1
    have hm : Zo.matL (Zo.ofL C) = C := by
      have d0 := clo.diag 0 (by decide)
      have d1 := clo.diag 1 (by decide)
      have d2 := clo.diag 2 (by decide)
      match C, hlen with
      | [c0, c1, c2, c3, c4, c5, c6, c7, c8], _ =>
        simp at d0 d1 d2
        subst d0; subst d1; subst d2
        rfl
    rw [e1]
    refine ⟨rfl, ?_, fun i j hi hj hne => ?_⟩
    · rw [hm]; exact clo
    · rw [hm]; exact (low i j hi hj hne).1
/-- bounds, by their places. -/
theorem get_of_mat {z y : Zn} (h : ∀ i j, i < 3 → j < 3 → i ≠ j → (Zo.matL z)[i * 3 + j]?.getD 0 ≤ (Zo.matL y)[i * 3 + j]?.getD 0) : ∀ k, k < 6 → Zo.get z k ≤ Zo.get y k := fun k hk => by
  rcases six hk with rfl | rfl | rfl | rfl | rfl | rfl
  · exact h 1 0 (by decide) (by decide) (by decide)
  · exact h 0 1 (by decide) (by decide) (by decide)
  · exact h 2 0 (by decide) (by decide) (by decide)
  · exact h 0 2 (by decide) (by decide) (by decide)
  · exact h 2 1 (by decide) (by decide) (by decide)
  · exact h 1 2 (by decide) (by decide) (by decide)
theorem mat_of_get {z : Zn} {S : Int} (h : Sm S z) : ∀ i j, i < 3 → j < 3 → i ≠ j → (Zo.matL z)[i * 3 + j]?.getD 0 ≤ S := fun i j hi hj hne => by
  rcases (by omega : i = 0 ∨ i = 1 ∨ i = 2) with rfl | rfl | rfl <;> rcases (by omega : j = 0 ∨ j = 1 ∨ j = 2) with rfl | rfl | rfl <;> first
    | exact absurd rfl hne
    | exact h 0 (by decide)
    | exact h 1 (by decide)
    | exact h 2 (by decide)
    | exact h 3 (by decide)
    | exact h 4 (by decide)
    | exact h 5 (by decide)
theorem min_mayC {x y : Int} (hx : mayC x = true) (hy : mayC y = true) : mayC (min x y) = true := by
  rcases Int.le_total x y with h | h
  · rw [Int.min_eq_left h]; exact hx
  · rw [Int.min_eq_right h]; exact hy
theorem wth_sm {z : Zn} {S : Int} (hS : 0 ≤ S ∧ S ≤ 288230376151711744) (hz : Zo.chk z = 0) (hs : Sm S z) {i : Nat} (hi : i < 6) {b : Int} (hb : mayC b = true) :
    (wth z i b).2 = 6 ∨ ((wth z i b).2 = 0 ∧ ∀ k, k < 6 → Zo.get (wth z i b).1 k ≤ Zo.get z k) := by
  have hcut : ∀ k, k < 6 → Zo.get (cut z i b) k = if k = i then min (Zo.get z i) b else Zo.get z k := fun k hk => by unfold cut; exact get_set z hi hk _
  have hle : ∀ k, k < 6 → Zo.get (cut z i b) k ≤ Zo.get z k := fun k hk => by
    rw [hcut k hk]
    split
    · rename_i e; rw [e]; omega
    · omega
  have h0 : chk 3 (Zo.matL (cut z i b)) = 0 := chk_of_get fun k hk => by
    rw [hcut k hk]
    split
    · exact min_mayC (get_mayC (Zo.clo hz).1 hi) hb
    · exact get_mayC (Zo.clo hz).1 hk
  unfold wth
  rw [if_pos h0]
  rcases of_sm h0 hS (mat_of_get fun k hk => Int.le_trans (hle k hk) (hs k hk)) with h | ⟨h1, _, h3⟩
  · exact .inl h
  · exact .inr ⟨h1, fun k hk => Int.le_trans (get_of_mat h3 k hk) (hle k hk)⟩
theorem not_mayK {b : Int} (h : (Bd.not b).2 = 0) (hl : lim 288230376151711744 b) : mayC (Bd.not b).1 = true := by
  unfold Bd.not at h ⊢
  by_cases hn : b = NO
  · subst hn
    rw [Incl.value_no] at h
    rw [if_neg (by decide)] at h; cases h
  rw [Incl.value_of hl hn] at h ⊢
  have hb := hl.resolve_left hn
  have hok : Num.okB (-(b / 2)) = true := Num.okB_iff.2 (by omega)
  simp only [if_true] at h ⊢
  unfold Bd.made at h ⊢
  rw [if_pos hok] at h ⊢
  simp only
  refine mayC_iff.2 (.inr ?_)
  unfold Bd.mk
  split <;> omega
/-- no times keep both. -/
def Dj (x y : Zn) : Prop := ∀ t, ¬ (Fz x t ∧ Fz y t)
theorem go_sm {b : Zn} {S : Int} (hS : 0 ≤ S ∧ S ≤ 288230376151711744) (hb : Zo.chk b = 0) : ∀ (l : List Nat) (x : Zn), (∀ i, i ∈ l → i < 6) → Zo.chk x = 0 → Sm S x →
    (∀ y, y ∈ go b l x → y.2 = 0 ∧ ∀ k, k < 6 → Zo.get y.1 k ≤ Zo.get x k) ∧ ((go b l x).map (·.1)).Pairwise Dj
  | [], x, _, _, _ => ⟨fun y hy => by simp [go] at hy, by simp [go]⟩
  | i :: l, x, hl, hx, hs => by
    have hi := hl i (by simp)
    have hll : ∀ j, j ∈ l → j < 6 := fun j hj => hl j (by simp [hj])
    have hcb := (Zo.clo hb).1
    unfold go
    by_cases hn : (Bd.not (Zo.get b i)).2 ≠ 0
    · rw [if_pos hn]
      exact go_sm hS hb l x hll hx hs
    rw [if_neg hn]
    have hn : (Bd.not (Zo.get b i)).2 = 0 := by simpa using hn
    obtain ⟨n1, n2, n3⟩ := not_lt hn (get_lim hcb hi)
    have ho : other i < 6 := by unfold other; split <;> omega
    have hA := wth_sm hS hx hs ho (not_mayK hn (get_lim hcb hi))
    have hB := wth_sm hS hx hs hi (get_mayC hcb hi)
    -- the first one
    have first : ∀ y, y ∈ (if (wth x (other i) (Bd.not (Zo.get b i)).1).2 = 6 then [] else [wth x (other i) (Bd.not (Zo.get b i)).1]) → (y.2 = 0 ∧ ∀ k, k < 6 → Zo.get y.1 k ≤ Zo.get x k) ∧ ∀ t, Fz y.1 t → ¬ satO (dif i t) (ob (Zo.get b i)) := fun y hy => by
      rcases hA with hA | ⟨hA1, hA2⟩
      · rw [if_pos hA] at hy; simp at hy
      · rw [if_neg (by rw [hA1]; decide)] at hy
        rw [List.mem_singleton.1 hy]
        refine ⟨⟨hA1, hA2⟩, fun t ht => ?_⟩
        have := ((wth_ok (Zo.clo hx).1 ho (.inr n2) hA1).2 t).1 ht
        rw [dif_other hi] at this
        exact (n3 _).1 this.2
    have hfd : ((if (wth x (other i) (Bd.not (Zo.get b i)).1).2 = 6 then [] else [wth x (other i) (Bd.not (Zo.get b i)).1]).map (·.1)).Pairwise Dj := by
      split <;> simp
    rcases hB with hB | ⟨hB1, hB2⟩
    · rw [if_pos (show (wth x i (Zo.get b i)).2 = 6 from hB), List.append_nil]
      exact ⟨fun y hy => (first y hy).1, hfd⟩
    · rw [if_neg (show ¬ (wth x i (Zo.get b i)).2 = 6 by rw [hB1]; decide), if_pos hB1, List.nil_append]
      obtain ⟨w1, w2⟩ := wth_ok (Zo.clo hx).1 hi (lim_lt (get_lim hcb hi) (by omega)) hB1
      obtain ⟨g1, g2⟩ := go_sm hS hb l _ hll w1 (fun k hk => Int.le_trans (hB2 k hk) (hs k hk))
      refine ⟨fun y hy => ?_, ?_⟩
      · rcases List.mem_append.1 hy with hy | hy
        · exact (first y hy).1
        · exact ⟨(g1 y hy).1, fun k hk => Int.le_trans ((g1 y hy).2 k hk) (hB2 k hk)⟩
      · rw [List.map_append, List.pairwise_append]
        refine ⟨hfd, g2, fun u hu v hv t ht => ?_⟩
        obtain ⟨u', hu', rfl⟩ := List.mem_map.1 hu
        obtain ⟨v', hv', rfl⟩ := List.mem_map.1 hv
        have := (go_ok hcb l _ hll (Zo.clo w1).1 (fun y hy => (g1 y hy).1) v' hv').2 t ht.2
        exact (first u' hu').2 t ht.1 ((w2 t).1 this.1).2
theorem minus_sm {a b : Zn} {S : Int} (hS : 0 ≤ S ∧ S ≤ 288230376151711744) (ha : Zo.chk a = 0) (hb : Zo.chk b = 0) (hs : Sm S a) :
    (minus a b).2 = 0 ∧ (∀ y, y ∈ (minus a b).1 → ∀ k, k < 6 → Zo.get y k ≤ Zo.get a k) ∧ (minus a b).1.Pairwise Dj := by
  obtain ⟨g1, g2⟩ := go_sm hS hb [0, 1, 2, 3, 4, 5] a (by simp) ha hs
  unfold minus
  rw [if_pos ⟨ha, hb⟩]
  have hf : (parts a b).find? (fun x => decide (x.2 ≠ 0)) = none := List.find?_eq_none.2 fun x hx => by simp [(g1 x hx).1]
  rw [hf]
  refine ⟨rfl, fun y hy => ?_, g2⟩
  obtain ⟨x, hx, rfl⟩ := List.mem_map.1 hy
  exact (g1 x hx).2
end Mi
end Go.Proofs.YtjbhpfmnfdebkaaGreat

/-
  Whether times keep a zone hangs on their whole parts and the order of their fraction parts alone; a time between two, by sixths. No program is in sight.
-/
namespace Go.Proofs.YtjbhpfmnfdebkaaGreat
set_option linter.unusedVariables false
set_option linter.unusedSimpArgs false
open Go.RowKit Go.Proofs.YtjbhpfmnfdebkaaGreat.Eng Enc
namespace Ky
open Dbm Mi
/-- a time's fraction part. -/
def fr (x : Rat) : Rat := x - (x.floor : Rat)
theorem fr_nonneg (x : Rat) : 0 ≤ fr x := by unfold fr; have := Rat.floor_le x; grind
theorem fr_lt (x : Rat) : fr x < 1 := by unfold fr; have := Rat.lt_floor_add_one x; rw [Rat.intCast_add] at this; have h : ((1 : Int) : Rat) = 1 := rfl; rw [h] at this; grind
theorem eq_fr (x : Rat) : x = (x.floor : Rat) + fr x := by unfold fr; grind
theorem le_key (x y : Rat) (c : Int) : x - y ≤ (c : Rat) ↔ x.floor - y.floor < c ∨ (x.floor - y.floor = c ∧ fr x ≤ fr y) := by
  have e1 := eq_fr x
  have e2 := eq_fr y
  have a1 := fr_nonneg x
  have a2 := fr_nonneg y
  have b1 := fr_lt x
  have b2 := fr_lt y
  have e3 : ((x.floor - y.floor : Int) : Rat) = (x.floor : Rat) - (y.floor : Rat) := Rat.intCast_sub ..
  rcases Int.lt_trichotomy (x.floor - y.floor) c with h | h | h
  · have h1 : ((x.floor - y.floor + 1 : Int) : Rat) ≤ (c : Rat) := by exact_mod_cast (by omega : x.floor - y.floor + 1 ≤ c)
    rw [Rat.intCast_add, e3] at h1
    have h2 : ((1 : Int) : Rat) = 1 := rfl
    rw [h2] at h1
    exact ⟨fun _ => .inl h, fun _ => by grind⟩
  · have h1 : ((x.floor - y.floor : Int) : Rat) = (c : Rat) := by rw [h]
    rw [e3] at h1
    constructor
    · intro k; exact .inr ⟨h, by grind⟩
    · rintro (k | ⟨_, k⟩)
      · omega
      · grind
  · have h1 : ((c + 1 : Int) : Rat) ≤ ((x.floor - y.floor : Int) : Rat) := by exact_mod_cast (by omega : c + 1 ≤ x.floor - y.floor)
    rw [Rat.intCast_add, e3] at h1
    have h2 : ((1 : Int) : Rat) = 1 := rfl
    rw [h2] at h1
    constructor
    · intro k; exfalso; grind
    · rintro (k | ⟨k, _⟩) <;> omega
theorem lt_key (x y : Rat) (c : Int) : x - y < (c : Rat) ↔ x.floor - y.floor < c ∨ (x.floor - y.floor = c ∧ fr x < fr y) := by
  have e1 := eq_fr x
  have e2 := eq_fr y
  have a1 := fr_nonneg x
  have a2 := fr_nonneg y
  have b1 := fr_lt x
  have b2 := fr_lt y
  have e3 : ((x.floor - y.floor : Int) : Rat) = (x.floor : Rat) - (y.floor : Rat) := Rat.intCast_sub ..
  rcases Int.lt_trichotomy (x.floor - y.floor) c with h | h | h
  · have h1 : ((x.floor - y.floor + 1 : Int) : Rat) ≤ (c : Rat) := by exact_mod_cast (by omega : x.floor - y.floor + 1 ≤ c)
    rw [Rat.intCast_add, e3] at h1
    have h2 : ((1 : Int) : Rat) = 1 := rfl
    rw [h2] at h1
    exact ⟨fun _ => .inl h, fun _ => by grind⟩
  · have h1 : ((x.floor - y.floor : Int) : Rat) = (c : Rat) := by rw [h]
    rw [e3] at h1
    constructor
    · intro k; exact .inr ⟨h, by grind⟩
    · rintro (k | ⟨_, k⟩)
      · omega
      · grind
  · have h1 : ((c + 1 : Int) : Rat) ≤ ((x.floor - y.floor : Int) : Rat) := by exact_mod_cast (by omega : c + 1 ≤ x.floor - y.floor)
    rw [Rat.intCast_add, e3] at h1
    have h2 : ((1 : Int) : Rat) = 1 := rfl
    rw [h2] at h1
    constructor
    · intro k; exfalso; grind
    · rintro (k | ⟨k, _⟩) <;> omega
theorem sat_key {x y x' y' : Rat} (h1 : x.floor - y.floor = x'.floor - y'.floor) (h2 : fr x ≤ fr y ↔ fr x' ≤ fr y') (h3 : fr y ≤ fr x ↔ fr y' ≤ fr x') (b : OB) : satO (x - y) b ↔ satO (x' - y') b := by
  cases b with
  | none => exact Iff.rfl
  | some v =>
    unfold satO
    simp only
    split
    · rw [lt_key, lt_key, h1]
      have : fr x < fr y ↔ fr x' < fr y' := by rw [← Rat.not_le, ← Rat.not_le, h3]
      rw [this]
    · rw [le_key, le_key, h1, h2]
/-- the same region: whole parts, and the order of fraction parts (the clock of nought with them). -/
structure Alike (t t' : Nat → Rat) : Prop where
  fl : ∀ i, i < 3 → (t i).floor - (t 0).floor = (t' i).floor - (t' 0).floor
  le : ∀ i j, i < 3 → j < 3 → (fr (t i) ≤ fr (t j) ↔ fr (t' i) ≤ fr (t' j))
theorem Alike.fz {t t' : Nat → Rat} (h : Alike t t') (z : Zn) : Fz z t ↔ Fz z t' := by
  constructor
  · intro k i j hi hj
    exact (sat_key (by have := h.fl i hi; have := h.fl j hj; omega) (h.le i j hi hj) (h.le j i hj hi) _).1 (k i j hi hj)
  · intro k i j hi hj
    exact (sat_key (by have := h.fl i hi; have := h.fl j hj; omega) (h.le i j hi hj) (h.le j i hj hi) _).2 (k i j hi hj)
theorem fr_int (n : Int) : fr (n : Rat) = 0 := by unfold fr; rw [Rat.floor_intCast]; grind
/-- only differences count. -/
theorem fz_shift (z : Zn) (t : Nat → Rat) (c : Rat) : Fz z t ↔ Fz z (fun i => t i - c) := by
  unfold Fz Dbm.Fits
  constructor
  · intro h i j hi hj
    have := h i j hi hj
    rwa [show t i - c - (t j - c) = t i - t j by grind]
  · intro h i j hi hj
    have := h i j hi hj
    rwa [show t i - c - (t j - c) = t i - t j by grind] at this
/-- a whole number, and so much: its whole and fraction part. -/
theorem fl_add {n : Int} {g : Rat} (h0 : 0 ≤ g) (h1 : g < 1) : ((n : Rat) + g).floor = n ∧ fr ((n : Rat) + g) = g := by
  have hf : ((n : Rat) + g).floor = n := by
    apply Int.le_antisymm
    · have : ((n : Rat) + g).floor < n + 1 := Rat.floor_lt_iff.2 (by rw [Rat.intCast_add]; have h : ((1 : Int) : Rat) = 1 := rfl; rw [h]; grind)
      omega
    · exact Rat.le_floor_iff.2 (by grind)
  exact ⟨hf, by unfold fr; rw [hf]; grind⟩
end Ky
end Go.Proofs.YtjbhpfmnfdebkaaGreat

/-
  The contracts of package region: numbers and points, by the engine.
-/
namespace Go.Proofs.YtjbhpfmnfdebkaaGreat
set_option linter.unusedVariables false
set_option linter.unusedSimpArgs false
set_option maxRecDepth 100000
open Go.RowKit Go.Proofs.YtjbhpfmnfdebkaaGreat.Eng Enc

end Go.Proofs.YtjbhpfmnfdebkaaGreat

/-
  The contracts of package region: points, by the engine.
-/
namespace Go.Proofs.YtjbhpfmnfdebkaaGreat
set_option linter.unusedVariables false
set_option linter.unusedSimpArgs false
set_option maxRecDepth 100000
open Go.RowKit Go.Proofs.YtjbhpfmnfdebkaaGreat.Eng Enc

end Go.Proofs.YtjbhpfmnfdebkaaGreat

/-
  The contracts of region.around and region.Zone, by the engine.
-/
namespace Go.Proofs.YtjbhpfmnfdebkaaGreat
set_option linter.unusedVariables false
set_option linter.unusedSimpArgs false
set_option maxRecDepth 100000
open Go.RowKit Go.Proofs.YtjbhpfmnfdebkaaGreat.Eng Enc

namespace Rg
def around (pl : Int) : Sp := if pl % 2 = 0 then ⟨pl.tdiv 2, false, pl.tdiv 2, false, false⟩ else ⟨pl.tdiv 2, true, pl.tdiv 2 + 1, true, false⟩
/-- the span of what lies between the two times. -/
def diff (n long : Int) : Sp :=
  if (n / 3 / sides long) % 2 = 1 ∧ (n / 3 % sides long) % 2 = 1 then around (n / 3 % sides long - n / 3 / sides long + 1 - n % 3) else ⟨-16, false, 16, false, false⟩
def zone (n long : Int) : Zn × Int :=
  if (askPoint n long).2 = 0 then Zo.make (around (n / 3 / sides long)) (around (n / 3 % sides long)) (diff n long) else (Zo.nought, (askPoint n long).2)
end Rg
end Go.Proofs.YtjbhpfmnfdebkaaGreat

/-
  rallentandolaw14.at and alive: the chapter's first examples.
-/
namespace Go.Proofs.YtjbhpfmnfdebkaaGreat
set_option linter.unusedVariables false
set_option linter.unusedSimpArgs false
set_option maxRecDepth 100000
open Go.RowKit Go.Proofs.YtjbhpfmnfdebkaaGreat.Eng Enc

end Go.Proofs.YtjbhpfmnfdebkaaGreat

/-
  The walk of rallentandolaw14.RegionZones, by the engine, out of the plain law's four parts (ZonesLaw, not shown here).
-/
namespace Go.Proofs.YtjbhpfmnfdebkaaGreat
set_option linter.unusedVariables false
set_option linter.unusedSimpArgs false
set_option maxRecDepth 100000
open Go.RowKit Go.Proofs.YtjbhpfmnfdebkaaGreat.Eng Enc

/-- what the plain law has to show. -/
structure ZonesLaw (n : Int) (p : Pt) (long : Int) : Prop where
  ins : (Rg.askPoint n long).1.ins
  same : (Rg.zone n long).2 = (Rg.askPoint n long).2
  own : (Rg.askPoint n long).2 = 0 → Rg.askNumber (Rg.askPoint n long).1 long = (n, 0)
  has : (Rg.askPoint n long).2 = 0 → Zo.has (Rg.zone n long).1 (Rg.askPoint n long).1 = (true, 0)
  any : (Rg.askPoint n long).2 = 0 → (Zo.has (Rg.zone n long).1 p).2 = 0 → (Zo.has (Rg.zone n long).1 p).1 = (decide ((Rg.askNumber p long).2 = 0) && decide ((Rg.askNumber p long).1 = n))

end Go.Proofs.YtjbhpfmnfdebkaaGreat

/-
  The plain law of RegionZones: its parts shown so far (ins, own).
-/
namespace Go.Proofs.YtjbhpfmnfdebkaaGreat
set_option linter.unusedVariables false
set_option linter.unusedSimpArgs false
open Go.RowKit Go.Proofs.YtjbhpfmnfdebkaaGreat.Eng Enc
namespace Rg
theorem cmp_three (a b : Rt) : (Fr.cmp a b).1 = -1 ∨ (Fr.cmp a b).1 = 0 ∨ (Fr.cmp a b).1 = 1 := by
  unfold Fr.cmp
  split
  · show cmpI _ _ = -1 ∨ cmpI _ _ = 0 ∨ cmpI _ _ = 1
    unfold cmpI
    split
    · exact .inl rfl
    · split
      · exact .inr (.inr rfl)
      · exact .inr (.inl rfl)
  · exact .inr (.inl rfl)
theorem order_three (p : Pt) : 0 ≤ order p ∧ order p ≤ 2 := by
  have := cmp_three (part p.t) (part p.u)
  unfold order
  split <;> omega
/-- a number tells the places and the order. -/
theorem number_back {p : Pt} {n long : Int} (h : number p long = n) (h0 : 0 ≤ n) (hl : 1 ≤ long ∧ long ≤ 16) :
    (Fr.cmp p.t p.u).1 < 0 ∧ place p.t = n / 3 / sides long ∧ place p.u = n / 3 % sides long ∧ order p = n % 3 := by
  have hs : 3 ≤ sides long ∧ sides long ≤ 33 := by unfold sides; omega
  have ho := order_three p
  unfold number at h
  split at h
  · omega
  · rename_i hc
    have h1 : (Fr.cmp p.t p.u).1 < 0 := by omega
    have h2 : 0 ≤ place p.t := by omega
    have h3 : place p.u < sides long := by omega
    have h4 : 0 ≤ place p.u := by
      have hf := floor_le h1
      unfold place at h2 ⊢
      split at h2 <;> split <;> omega
    have e3 : n / 3 = place p.t * sides long + place p.u := by omega
    refine ⟨h1, ?_, ?_, by omega⟩
    · rw [e3, Int.add_comm, Int.add_mul_ediv_right _ _ (by omega), Int.ediv_eq_zero_of_lt h4 h3]; omega
    · rw [e3, Int.add_comm, Int.add_mul_emod_self_right, Int.emod_eq_of_lt h4 h3]
end Rg
end Go.Proofs.YtjbhpfmnfdebkaaGreat

/-
  The plain law of RegionZones: a point is in a region's zone just if its number is the region's (by whole parts and what is left over).
-/
namespace Go.Proofs.YtjbhpfmnfdebkaaGreat
set_option linter.unusedVariables false
set_option linter.unusedSimpArgs false
open Go.RowKit Go.Proofs.YtjbhpfmnfdebkaaGreat.Eng Enc
namespace Rg
theorem of_one {f : Int} (h : -2305843009213693952 ≤ f ∧ f ≤ 2305843009213693952) : Fr.of f 1 = (⟨f, 1⟩, 0) := by
  unfold Fr.of Fr.low
  have hg : Int.gcd f 1 = 1 := by simp
  have hok : Fr.okB f 1 = true := by
    unfold Fr.okB
    have : Fr.inB f 1 = true := Fr.in_iff.2 (by simp; omega)
    rw [this]; simp
  rw [if_neg (by omega), hg]
  simp only [Int.cast_ofNat_Int, Int.ediv_one]
  rw [if_pos hok]
/-- a time's fraction part, in lowest terms as the time is. -/
theorem part_eq {a : Rt} (ha : a.ok = true) : part a = ⟨a.num % a.den, a.den⟩ := by
  have oa := Fr.ok_bd ha
  have hf : (Fr.floor a).1 = a.num / a.den := by unfold Fr.floor; rw [if_pos ha]
  unfold part
  rw [hf, of_one (by omega)]
  have hok : (⟨-(a.num / a.den), 1⟩ : Rt).ok = true := by
    show Fr.okB _ _ = true
    unfold Fr.okB
    have : Fr.inB (-(a.num / a.den)) 1 = true := Fr.in_iff.2 (by simp; omega)
    rw [this]; simp
  have hg0 : Nat.gcd a.num.natAbs a.den.natAbs = 1 := by
    have h := ha
    simp only [Rt.ok, Fr.okB, Bool.and_eq_true, decide_eq_true_eq] at h
    exact h.2
  have hg : Int.gcd (a.num % a.den) a.den = 1 := by
    have h1 : Int.gcd a.num a.den = 1 := hg0
    have h2 : Int.gcd (a.num % a.den + a.num / a.den * a.den) a.den = Int.gcd (a.num % a.den) a.den := Int.gcd_add_mul_right_left ..
    have h3 : a.num % a.den + a.num / a.den * a.den = a.num := by
      have := Int.mul_ediv_add_emod a.num a.den
      rw [Int.mul_comm] at this; omega
    rw [h3] at h2
    rw [← h2]; exact h1
  have htn : Fr.tn a ⟨-(a.num / a.den), 1⟩ = a.num % a.den := by
    unfold Fr.tn
    have := Int.mul_ediv_add_emod a.num a.den
    simp only [Int.mul_one, Int.neg_mul]
    rw [Int.mul_comm (a.num / a.den) a.den]; omega
  have hdn : Fr.dn a ⟨-(a.num / a.den), 1⟩ 1 = a.den := by unfold Fr.dn; simp
  unfold Fr.add
  rw [if_pos ⟨ha, hok⟩]
  unfold Fr.sum
  rw [htn, hdn, hg]
  simp only [Int.cast_ofNat_Int, Int.ediv_one]
  rw [if_pos]
  refine ⟨?_, ?_⟩
  · unfold Fr.okB
    have : Fr.inB (a.num % a.den) a.den = true := Fr.in_iff.2 (by rw [Int.ediv_eq_zero_of_lt oa.2.2.2.2.1 oa.2.2.2.2.2]; omega)
    rw [this]
    have hg' : Nat.gcd (a.num % a.den).natAbs a.den.natAbs = 1 := hg
    simp only [hg']
    simp; omega
  · unfold Fr.inI; simp; omega
theorem part_ok {a : Rt} (ha : a.ok = true) : (part a).ok = true := by
  have oa := Fr.ok_bd ha
  rw [part_eq ha]
  have hg0 : Nat.gcd a.num.natAbs a.den.natAbs = 1 := by
    have h := ha
    simp only [Rt.ok, Fr.okB, Bool.and_eq_true, decide_eq_true_eq] at h
    exact h.2
  have hg : Int.gcd (a.num % a.den) a.den = 1 := by
    have h1 : Int.gcd a.num a.den = 1 := hg0
    have h2 : Int.gcd (a.num % a.den + a.num / a.den * a.den) a.den = Int.gcd (a.num % a.den) a.den := Int.gcd_add_mul_right_left ..
    have h3 : a.num % a.den + a.num / a.den * a.den = a.num := by
      have := Int.mul_ediv_add_emod a.num a.den
      rw [Int.mul_comm] at this; omega
    rw [h3] at h2
    rw [← h2]; exact h1
  show Fr.okB _ _ = true
  unfold Fr.okB
  have : Fr.inB (a.num % a.den) a.den = true := Fr.in_iff.2 (by rw [Int.ediv_eq_zero_of_lt oa.2.2.2.2.1 oa.2.2.2.2.2]; omega)
  rw [this]
  have hg' : Nat.gcd (a.num % a.den).natAbs a.den.natAbs = 1 := hg
  simp only [hg']
  simp; omega
/-- what is left over of two times, over the same. -/
def rX (t u : Rt) : Int := t.num % t.den * u.den
theorem place_eq {t u : Rt} (ht : t.ok = true) (hu : u.ok = true) : place t = 2 * (t.num / t.den) + (if rX t u = 0 then 0 else 1) := by
  have ot := Fr.ok_bd ht
  have ou := Fr.ok_bd hu
  have hf : (Fr.floor t).1 = t.num / t.den := by unfold Fr.floor; rw [if_pos ht]
  unfold place
  rw [part_eq ht, hf]
  simp only
  have : t.num % t.den = 0 ↔ rX t u = 0 := by
    unfold rX
    rw [Int.mul_eq_zero]
    constructor
    · exact .inl
    · rintro (h | h)
      · exact h
      · omega
  by_cases h : t.num % t.den = 0
  · rw [if_pos h, if_pos (this.1 h)]; omega
  · rw [if_neg h, if_neg (fun hh => h (this.2 hh))]
theorem cmp_part {t u : Rt} (ht : t.ok = true) (hu : u.ok = true) : (Fr.cmp (part t) (part u)).1 = cmpI (rX t u) (rX u t) := by
  unfold Fr.cmp
  rw [if_pos ⟨part_ok ht, part_ok hu⟩]
  unfold Fr.cmpR
  rw [part_eq ht, part_eq hu]
  rfl
theorem rX_bd {t u : Rt} (ht : t.ok = true) (hu : u.ok = true) : 0 ≤ rX t u := by
  have ot := Fr.ok_bd ht
  have ou := Fr.ok_bd hu
  exact Int.mul_nonneg ot.2.2.2.2.1 (by omega)
theorem cmp_iff {t u : Rt} (ht : t.ok = true) (hu : u.ok = true) : (Fr.cmp t u).1 < 0 ↔ t.num / t.den < u.num / u.den ∨ (t.num / t.den = u.num / u.den ∧ rX t u < rX u t) := by
  have h := (Fr.sign_eq ht hu 0).1
  have e : (Fr.cmp t u).1 < 0 ↔ t.num * u.den < u.num * t.den := by
    unfold Fr.cmp; rw [if_pos ⟨ht, hu⟩]; exact Fr.cmpI_lt
  rw [e]
  rw [Int.zero_mul] at h
  have : t.num * u.den < u.num * t.den ↔ t.num * u.den - u.num * t.den < 0 := by omega
  rw [this, ← h]
  unfold Fr.sign Fr.rest
  show (if cmpI _ 0 ≠ 0 then cmpI _ 0 else cmpI (rX t u) (rX u t)) < 0 ↔ _
  generalize rX t u = x
  generalize rX u t = y
  generalize t.num / t.den = a
  generalize u.num / u.den = b
  unfold cmpI
  split <;> split <;> omega
/-- what a region's places and its order are. -/
def may3 (T U r : Int) : Bool := decide (0 ≤ T) && decide (T ≤ U) && decide (U ≤ 32) && decide (0 ≤ r) && decide (r ≤ 2) && (decide (T < U) || (decide (T % 2 = 1) && decide (r = 0))) && (decide (T % 2 = 1 ∧ U % 2 = 1) || decide (r = 1))
end Rg
end Go.Proofs.YtjbhpfmnfdebkaaGreat

/-
  A region's zone in closed form: what is gone through, case by case, in the texts Zones6 and on.
-/
namespace Go.Proofs.YtjbhpfmnfdebkaaGreat
open Go.RowKit Go.Proofs.YtjbhpfmnfdebkaaGreat.Eng Enc
namespace Rg
def pt3 (T U r : Int) : Pt := ⟨time T (parts r).1 (parts r).2.2, time U (parts r).2.1 (parts r).2.2⟩
def good3 (T U r : Int) : Bool := decide ((Fr.cmp (pt3 T U r).t (pt3 T U r).u).1 < 0) && decide (place (pt3 T U r).t = T) && decide (place (pt3 T U r).u = U) && decide (order (pt3 T U r) = r)
end Rg
end Go.Proofs.YtjbhpfmnfdebkaaGreat

/-
  A region's zone in closed form: the cases of some places.
-/
namespace Go.Proofs.YtjbhpfmnfdebkaaGreat
set_option maxRecDepth 100000
namespace Rg
end Rg
end Go.Proofs.YtjbhpfmnfdebkaaGreat

/-
  A region's zone in closed form: the cases of some places.
-/
namespace Go.Proofs.YtjbhpfmnfdebkaaGreat
set_option maxRecDepth 100000
namespace Rg
end Rg
end Go.Proofs.YtjbhpfmnfdebkaaGreat

/-
  A region's zone in closed form: the cases of some places.
-/
namespace Go.Proofs.YtjbhpfmnfdebkaaGreat
set_option maxRecDepth 100000
namespace Rg
end Rg
end Go.Proofs.YtjbhpfmnfdebkaaGreat

/-
  A region's zone in closed form: the cases of some places.
-/
namespace Go.Proofs.YtjbhpfmnfdebkaaGreat
set_option maxRecDepth 100000
namespace Rg
end Rg
end Go.Proofs.YtjbhpfmnfdebkaaGreat

/-
  A region's zone in closed form: the cases of some places.
-/
namespace Go.Proofs.YtjbhpfmnfdebkaaGreat
set_option maxRecDepth 100000
namespace Rg
end Rg
end Go.Proofs.YtjbhpfmnfdebkaaGreat

/-
  A region's zone in closed form: the cases of some places.
-/
namespace Go.Proofs.YtjbhpfmnfdebkaaGreat
set_option maxRecDepth 100000
namespace Rg
end Rg
end Go.Proofs.YtjbhpfmnfdebkaaGreat

/-
  A region's zone in closed form: the cases of some places.
-/
namespace Go.Proofs.YtjbhpfmnfdebkaaGreat
set_option maxRecDepth 100000
namespace Rg
end Rg
end Go.Proofs.YtjbhpfmnfdebkaaGreat

/-
  A region's zone in closed form: the cases of some places.
-/
namespace Go.Proofs.YtjbhpfmnfdebkaaGreat
set_option maxRecDepth 100000
namespace Rg
end Rg
end Go.Proofs.YtjbhpfmnfdebkaaGreat

/-
  A region's zone in closed form: the cases of some places.
-/
namespace Go.Proofs.YtjbhpfmnfdebkaaGreat
set_option maxRecDepth 100000
namespace Rg
end Rg
end Go.Proofs.YtjbhpfmnfdebkaaGreat

/-
  A region's zone in closed form: the cases of some places.
-/
namespace Go.Proofs.YtjbhpfmnfdebkaaGreat
set_option maxRecDepth 100000
namespace Rg
end Rg
end Go.Proofs.YtjbhpfmnfdebkaaGreat

/-
  A region's zone in closed form: the cases of some places.
-/
namespace Go.Proofs.YtjbhpfmnfdebkaaGreat
set_option maxRecDepth 100000
namespace Rg
end Rg
end Go.Proofs.YtjbhpfmnfdebkaaGreat

/-
  A region's zone in closed form, of all places.
-/
namespace Go.Proofs.YtjbhpfmnfdebkaaGreat
set_option linter.unusedVariables false
namespace Rg
end Rg
end Go.Proofs.YtjbhpfmnfdebkaaGreat

/-
  The plain law of RegionZones, all of it.
-/
namespace Go.Proofs.YtjbhpfmnfdebkaaGreat
set_option linter.unusedVariables false
open Go.RowKit Go.Proofs.YtjbhpfmnfdebkaaGreat.Eng Enc
namespace Rg
end Rg
end Go.Proofs.YtjbhpfmnfdebkaaGreat

/-
  The plain law of RegionPoints: whether a pair is in a zone hangs on the pair's region alone.
-/
namespace Go.Proofs.YtjbhpfmnfdebkaaGreat
set_option linter.unusedVariables false
set_option linter.unusedSimpArgs false
set_option maxRecDepth 100000
open Go.RowKit Go.Proofs.YtjbhpfmnfdebkaaGreat.Eng Enc
namespace Rg
def mg (T : Int) : Bool := (List.range 33).all fun U : Nat => (List.range 3).all fun r : Nat => !(may3 T U r) || good3 T U r
theorem mg_0 : ((List.range 17).all fun T : Nat => mg T) = true := by decide +kernel
theorem mg_1 : ((List.range 16).all fun T : Nat => mg ((T : Int) + 17)) = true := by decide +kernel
theorem may_good {T U r : Int} (hT : 0 ≤ T ∧ T < 33) (h : may3 T U r = true) : good3 T U r = true := by
  have h0 := h
  simp only [may3, Bool.and_eq_true, Bool.or_eq_true, decide_eq_true_eq] at h0
  have hm : mg T = true := by
    by_cases h17 : T < 17
    · have := List.all_eq_true.1 mg_0 T.toNat (List.mem_range.2 (by omega))
      rwa [Int.toNat_of_nonneg hT.1] at this
    · have := List.all_eq_true.1 mg_1 (T - 17).toNat (List.mem_range.2 (by omega))
      rwa [show ((T - 17).toNat : Int) + 17 = T by omega] at this
  have h1 := List.all_eq_true.1 hm U.toNat (List.mem_range.2 (by omega))
  have h2 := List.all_eq_true.1 h1 r.toNat (List.mem_range.2 (by omega))
  rw [Int.toNat_of_nonneg (by omega), Int.toNat_of_nonneg (by omega), h] at h2
  simpa using h2
/-- a pair's region has a point, in the same region. -/
theorem rep_of {p : Pt} {long : Int} (hl : 1 ≤ long ∧ long ≤ 16) (hp : 0 ≤ number p long) : may3 (place p.t) (place p.u) (order p) = true ∧ (point (number p long) long).2 = true ∧ 0 ≤ number p long ∧ number p long < (many long).1 ∧
    (pt (number p long) long).t.ok = true ∧ (pt (number p long) long).u.ok = true ∧ place (pt (number p long) long).t = place p.t ∧ place (pt (number p long) long).u = place p.u ∧ order (pt (number p long) long) = order p := by
  have hs : 3 ≤ sides long ∧ sides long ≤ 33 := by unfold sides; omega
  have hnum := hp
  obtain ⟨k1, k2, k3, k4⟩ := number_back (p := p) rfl hp hl
  obtain ⟨ht, hu, _⟩ := cmp_lt k1
  have hk1 := (cmp_iff ht hu).1 k1
  have hcd : ¬ (0 ≤ (Fr.cmp p.t p.u).1 ∨ place p.t < 0 ∨ sides long ≤ place p.u) := fun h => by
    unfold number at hp; rw [if_pos h] at hp; omega
  have hmy : may3 (place p.t) (place p.u) (order p) = true := by
    have ho : 0 ≤ order p ∧ order p ≤ 2 := order_three p
    have x1 := rX_bd ht hu
    have x2 := rX_bd hu ht
    have e1 := place_eq ht hu
    have e2 := place_eq hu ht
    have hor : ((place p.t % 2 = 1 ∧ place p.u % 2 = 1) ∧ order p = 1 + cmpI (rX p.t p.u) (rX p.u p.t)) ∨ (¬ (place p.t % 2 = 1 ∧ place p.u % 2 = 1) ∧ order p = 1) := by
      unfold order
      by_cases h : place p.t % 2 = 1 ∧ place p.u % 2 = 1
      · rw [if_pos h, cmp_part ht hu]; exact .inl ⟨h, rfl⟩
      · rw [if_neg h]; exact .inr ⟨h, rfl⟩
    have hcc : (rX p.t p.u < rX p.u p.t ∧ cmpI (rX p.t p.u) (rX p.u p.t) = -1) ∨ (rX p.t p.u = rX p.u p.t ∧ cmpI (rX p.t p.u) (rX p.u p.t) = 0) ∨ (rX p.u p.t < rX p.t p.u ∧ cmpI (rX p.t p.u) (rX p.u p.t) = 1) := by unfold cmpI; split <;> (try split) <;> omega
    simp only [may3, Bool.and_eq_true, Bool.or_eq_true, decide_eq_true_eq]
    generalize order p = o at *
    generalize cmpI (rX p.t p.u) (rX p.u p.t) = c at *
    generalize rX p.t p.u = x at *
    generalize rX p.u p.t = y at *
    generalize p.t.num / p.t.den = A at *
    generalize p.u.num / p.u.den = B at *
    generalize place p.t = T at *
    generalize place p.u = U at *
    split at e1 <;> split at e2 <;> omega
  have hT : 0 ≤ place p.t ∧ place p.t < 33 := by
    simp only [may3, Bool.and_eq_true, Bool.or_eq_true, decide_eq_true_eq] at hmy
    omega
  have hg := may_good hT hmy
  have hpt : pt (number p long) long = pt3 (place p.t) (place p.u) (order p) := by
    unfold pt pt3
    rw [← k2, ← k3, ← k4]
  unfold good3 at hg
  simp only [Bool.and_eq_true, decide_eq_true_eq] at hg
  obtain ⟨⟨⟨g1, g2⟩, g3⟩, g4⟩ := hg
  rw [← hpt] at g1 g2 g3 g4
  obtain ⟨o1, o2, _⟩ := cmp_lt g1
  have hval : number p long = 3 * (place p.t * sides long + place p.u) + order p := by
    conv => lhs; unfold number
    rw [if_neg hcd]
  have hsame : number (pt (number p long) long) long = number p long := by
    have hun : ∀ q : Pt, (Fr.cmp q.t q.u).1 < 0 → place q.t = place p.t → place q.u = place p.u → order q = order p → number q long = 3 * (place p.t * sides long + place p.u) + order p := fun q q1 q2 q3 q4 => by
      unfold number
      rw [q2, q3, q4, if_neg (by omega)]
    rw [hun _ g1 g2 g3 g4, hval]
  have hmn : number p long < (many long).1 := by
    have e : number p long = 3 * (place p.t * sides long + place p.u) + order p := by
      conv => lhs; unfold number
      rw [if_neg hcd]
    have hm : (many long).1 = 3 * sides long * sides long := by unfold many; rw [if_pos (fits_iff.2 hl)]
    have ho : 0 ≤ order p ∧ order p ≤ 2 := order_three p
    have h1 : place p.t < sides long := by
      simp only [may3, Bool.and_eq_true, Bool.or_eq_true, decide_eq_true_eq] at hmy
      omega
    have h2 : place p.t * sides long ≤ (sides long - 1) * sides long := Int.mul_le_mul_of_nonneg_right (by omega) (by omega)
    rw [Int.sub_mul, Int.one_mul] at h2
    rw [e, hm, Int.mul_assoc]
    omega
  exact ⟨hmy, by unfold point; simpa using hsame, hp, hmn, o1, o2, g2, g3, g4⟩
end Rg
end Go.Proofs.YtjbhpfmnfdebkaaGreat

/-
  The document's answer of layer 3, by the engine: Low, Part, common, alone, May.
-/
namespace Go.Proofs.YtjbhpfmnfdebkaaGreat
set_option linter.unusedVariables false
set_option linter.unusedSimpArgs false
set_option maxRecDepth 100000
open Go.RowKit Go.Proofs.YtjbhpfmnfdebkaaGreat.Eng Enc

end Go.Proofs.YtjbhpfmnfdebkaaGreat

/-
  What the document's answer of layer 14 reckons, in the program's words: parts, places, numbers, times.
-/
namespace Go.Proofs.YtjbhpfmnfdebkaaGreat
set_option linter.unusedVariables false
set_option linter.unusedSimpArgs false
open Go.RowKit Go.Proofs.YtjbhpfmnfdebkaaGreat.Eng Enc
namespace Rg
theorem den_one {a : Rt} (ha : a.ok = true) : a.num % a.den = 0 ↔ a.den = 1 := by
  have oa := Fr.ok_bd ha
  constructor
  · intro h
    have hg0 : Nat.gcd a.num.natAbs a.den.natAbs = 1 := by
      have h := ha
      simp only [Rt.ok, Fr.okB, Bool.and_eq_true, decide_eq_true_eq] at h
      exact h.2
    have hd : a.den ∣ a.num := Int.dvd_of_emod_eq_zero h
    have hg : Int.gcd a.num a.den = a.den.natAbs := Int.gcd_eq_right_iff_dvd (by omega) |>.2 hd |> fun h => by
      have : (Int.gcd a.num a.den : Int) = a.den := h
      omega
    have : Int.gcd a.num a.den = 1 := hg0
    omega
  · intro h; rw [h]; omega
theorem floor_ok {a : Rt} (ha : a.ok = true) : (Fr.floor a).1 = a.num / a.den := by unfold Fr.floor; rw [if_pos ha]
theorem place_den {a : Rt} (ha : a.ok = true) : place a = if a.den = 1 then 2 * a.num else 2 * (Fr.floor a).1 + 1 := by
  unfold place
  rw [part_eq ha, floor_ok ha]
  simp only
  by_cases h : a.den = 1
  · rw [if_pos ((den_one ha).2 h), if_pos h, h]; simp
  · rw [if_neg (fun h' => h ((den_one ha).1 h')), if_neg h]
theorem odd_den {a : Rt} (ha : a.ok = true) : place a % 2 = 1 ↔ a.den ≠ 1 := by
  rw [place_den ha]
  split <;> omega
end Rg
end Go.Proofs.YtjbhpfmnfdebkaaGreat

/-
  Pairs of times and their regions, by rational numbers: each pair has a region, whose point keeps what it keeps. No program is in sight.
-/
namespace Go.Proofs.YtjbhpfmnfdebkaaGreat
set_option linter.unusedVariables false
set_option linter.unusedSimpArgs false
open Go.RowKit Go.Proofs.YtjbhpfmnfdebkaaGreat.Eng Enc
namespace Ky
open Dbm Mi
/-- a time's place; the order of two fraction parts. -/
def pl (x : Rat) : Int := if fr x = 0 then 2 * x.floor else 2 * x.floor + 1
def od (x y : Rat) : Int := if fr x = 0 ∨ fr y = 0 then 1 else if fr x < fr y then 0 else if fr x = fr y then 1 else 2
theorem pl_two {x y : Rat} (h : pl x = pl y) : x.floor = y.floor ∧ (fr x = 0 ↔ fr y = 0) := by
  unfold pl at h
  by_cases h1 : fr x = 0 <;> by_cases h2 : fr y = 0 <;> simp only [h1, h2, if_true, if_false] at h
  · exact ⟨by omega, by simp [h1, h2]⟩
  · omega
  · omega
  · exact ⟨by omega, by simp [h1, h2]⟩
theorem od_le {x y x' y' : Rat} (hx : fr x = 0 ↔ fr x' = 0) (hy : fr y = 0 ↔ fr y' = 0) (h : od x y = od x' y') : (fr x ≤ fr y ↔ fr x' ≤ fr y') ∧ (fr y ≤ fr x ↔ fr y' ≤ fr x') := by
  have a1 := fr_nonneg x
  have a2 := fr_nonneg y
  have a3 := fr_nonneg x'
  have a4 := fr_nonneg y'
  unfold od at h
  by_cases h1 : fr x = 0
  · have h1' := hx.1 h1
    by_cases h2 : fr y = 0
    · have h2' := hy.1 h2
      rw [h1, h2, h1', h2']
      exact ⟨Iff.rfl, Iff.rfl⟩
    · have h2' : ¬ fr y' = 0 := fun e => h2 (hy.2 e)
      rw [h1, h1']
      exact ⟨⟨fun _ => a4, fun _ => a2⟩, ⟨fun k => absurd (by grind) h2, fun k => absurd (by grind) h2'⟩⟩
  · have h1' : ¬ fr x' = 0 := fun e => h1 (hx.2 e)
    by_cases h2 : fr y = 0
    · have h2' := hy.1 h2
      rw [h2, h2']
      exact ⟨⟨fun k => absurd (by grind) h1, fun k => absurd (by grind) h1'⟩, ⟨fun _ => a3, fun _ => a1⟩⟩
    · have h2' : ¬ fr y' = 0 := fun e => h2 (hy.2 e)
      simp only [h1, h2, h1', h2', or_self, if_false] at h
      by_cases k1 : fr x < fr y <;> by_cases k2 : fr x' < fr y' <;> simp only [k1, k2, if_true, if_false] at h
      · grind
      · split at h <;> omega
      · split at h <;> omega
      · by_cases k3 : fr x = fr y <;> by_cases k4 : fr x' = fr y' <;> simp only [k3, k4, if_true, if_false] at h
        · grind
        · omega
        · omega
        · grind
theorem alike_of {t t' : Nat → Rat} (h0 : t 0 = 0) (h0' : t' 0 = 0) (h1 : pl (t 1) = pl (t' 1)) (h2 : pl (t 2) = pl (t' 2)) (h3 : od (t 1) (t 2) = od (t' 1) (t' 2)) : Alike t t' := by
  obtain ⟨a1, a2⟩ := pl_two h1
  obtain ⟨b1, b2⟩ := pl_two h2
  obtain ⟨c1, c2⟩ := od_le a2 b2 h3
  have z : fr (0 : Rat) = 0 := fr_int 0
  have n1 := fr_nonneg (t 1)
  have n2 := fr_nonneg (t 2)
  have n3 := fr_nonneg (t' 1)
  have n4 := fr_nonneg (t' 2)
  have e1 : ∀ x : Rat, 0 ≤ x → (x ≤ 0 ↔ x = 0) := fun x hx => ⟨fun h => by grind, fun h => by grind⟩
  refine ⟨fun i hi => ?_, fun i j hi hj => ?_⟩
  · rw [h0, h0']
    rcases (by omega : i = 0 ∨ i = 1 ∨ i = 2) with rfl | rfl | rfl
    · rw [h0, h0']
    · rw [a1]
    · rw [b1]
  · rcases (by omega : i = 0 ∨ i = 1 ∨ i = 2) with rfl | rfl | rfl <;> rcases (by omega : j = 0 ∨ j = 1 ∨ j = 2) with rfl | rfl | rfl
    · exact ⟨fun _ => Rat.le_refl, fun _ => Rat.le_refl⟩
    · rw [h0, h0', z]; exact ⟨fun _ => n3, fun _ => n1⟩
    · rw [h0, h0', z]; exact ⟨fun _ => n4, fun _ => n2⟩
    · rw [h0, h0', z, e1 _ n1, e1 _ n3]; exact a2
    · exact ⟨fun _ => Rat.le_refl, fun _ => Rat.le_refl⟩
    · exact c1
    · rw [h0, h0', z, e1 _ n2, e1 _ n4]; exact b2
    · exact c2
    · exact ⟨fun _ => Rat.le_refl, fun _ => Rat.le_refl⟩
/-- a fraction's whole and fraction part. -/
theorem v_parts {a : Rt} (ha : a.ok = true) : (Fr.v a).floor = a.num / a.den ∧ fr (Fr.v a) = ((a.num % a.den : Int) : Rat) / ((a.den : Int) : Rat) ∧ (0 : Rat) < ((a.den : Int) : Rat) := by
  have oa := Fr.ok_bd ha
  have hd : (0 : Rat) < ((a.den : Int) : Rat) := by exact_mod_cast (by omega : 0 < a.den)
  have hd0 : ((a.den : Int) : Rat) ≠ 0 := by grind
  have e1 : (a.num : Rat) = ((a.num / a.den : Int) : Rat) * (a.den : Rat) + ((a.num % a.den : Int) : Rat) := by
    rw [← Rat.intCast_mul, ← Rat.intCast_add]
    congr 1
    have := Int.mul_ediv_add_emod a.num a.den
    rw [Int.mul_comm] at this
    omega
  have e2 : Fr.v a = ((a.num / a.den : Int) : Rat) + ((a.num % a.den : Int) : Rat) / ((a.den : Int) : Rat) := by
    unfold Fr.v
    rw [e1]
    grind
  have g0 : (0 : Rat) ≤ ((a.num % a.den : Int) : Rat) / ((a.den : Int) : Rat) := by
    rw [← Rat.not_lt, Rat.div_lt_iff hd, Rat.zero_mul]
    have : (0 : Rat) ≤ ((a.num % a.den : Int) : Rat) := by exact_mod_cast oa.2.2.2.2.1
    grind
  have g1 : ((a.num % a.den : Int) : Rat) / ((a.den : Int) : Rat) < 1 := by
    rw [Rat.div_lt_iff hd, Rat.one_mul]
    exact_mod_cast oa.2.2.2.2.2
  obtain ⟨f1, f2⟩ := fl_add (n := a.num / a.den) g0 g1
  rw [e2]
  exact ⟨f1, f2, hd⟩
theorem fr_v_zero {a : Rt} (ha : a.ok = true) : fr (Fr.v a) = 0 ↔ a.num % a.den = 0 := by
  obtain ⟨_, h2, h3⟩ := v_parts ha
  rw [h2]
  constructor
  · intro h
    have h4 : ((a.num % a.den : Int) : Rat) = 0 := by
      have h5 : ((a.den : Int) : Rat) ≠ 0 := by grind
      grind
    exact_mod_cast h4
  · intro h
    rw [h, Rat.intCast_zero, Rat.div_def, Rat.zero_mul]
theorem pl_place {a : Rt} (ha : a.ok = true) : pl (Fr.v a) = Rg.place a := by
  have oa := Fr.ok_bd ha
  unfold pl
  rw [Rg.place_den ha, (v_parts ha).1, Rg.floor_ok ha]
  by_cases h : a.den = 1
  · rw [if_pos ((fr_v_zero ha).2 ((Rg.den_one ha).2 h)), if_pos h, h, Int.ediv_one]
  · rw [if_neg (fun e => h ((Rg.den_one ha).1 ((fr_v_zero ha).1 e))), if_neg h]
theorem fr_v_lt {a b : Rt} (ha : a.ok = true) (hb : b.ok = true) : (fr (Fr.v a) < fr (Fr.v b) ↔ Rg.rX a b < Rg.rX b a) ∧ (fr (Fr.v a) = fr (Fr.v b) ↔ Rg.rX a b = Rg.rX b a) := by
  obtain ⟨_, a2, a3⟩ := v_parts ha
  obtain ⟨_, b2, b3⟩ := v_parts hb
  rw [a2, b2]
  unfold Rg.rX
  generalize a.num % a.den = r
  generalize b.num % b.den = s
  have key : ∀ x y : Int, ((r : Rat) / ((a.den : Int) : Rat) < (s : Rat) / ((b.den : Int) : Rat) ↔ r * b.den < s * a.den) := fun _ _ => by
    rw [Rat.div_lt_iff a3]
    have e : (s : Rat) / ((b.den : Int) : Rat) * ((a.den : Int) : Rat) = ((s * a.den : Int) : Rat) / ((b.den : Int) : Rat) := by rw [Rat.intCast_mul]; grind
    rw [e, Rat.lt_div_iff b3, ← Rat.intCast_mul, Rat.intCast_lt_intCast]
  have key2 : ((s : Rat) / ((b.den : Int) : Rat) < (r : Rat) / ((a.den : Int) : Rat) ↔ s * a.den < r * b.den) := by
    rw [Rat.div_lt_iff b3]
    have e : (r : Rat) / ((a.den : Int) : Rat) * ((b.den : Int) : Rat) = ((r * b.den : Int) : Rat) / ((a.den : Int) : Rat) := by rw [Rat.intCast_mul]; grind
    rw [e, Rat.lt_div_iff a3, ← Rat.intCast_mul, Rat.intCast_lt_intCast]
  have key1 := key 0 0
  refine ⟨key1, ⟨fun h => ?_, fun h => ?_⟩⟩
  · have h1 : ¬ r * b.den < s * a.den := fun k => by have := key1.2 k; grind
    have h2 : ¬ s * a.den < r * b.den := fun k => by have := key2.2 k; grind
    omega
  · have h1 : ¬ (r : Rat) / ((a.den : Int) : Rat) < (s : Rat) / ((b.den : Int) : Rat) := fun k => by have := key1.1 k; omega
    have h2 : ¬ (s : Rat) / ((b.den : Int) : Rat) < (r : Rat) / ((a.den : Int) : Rat) := fun k => by have := key2.1 k; omega
    grind
theorem od_order {p : Pt} (ht : p.t.ok = true) (hu : p.u.ok = true) : od (Fr.v p.t) (Fr.v p.u) = Rg.order p := by
  obtain ⟨l1, l2⟩ := fr_v_lt ht hu
  have o1 := Rg.odd_den ht
  have o2 := Rg.odd_den hu
  unfold od Rg.order
  have z1 := (fr_v_zero ht).trans (Rg.den_one ht)
  have z2 := (fr_v_zero hu).trans (Rg.den_one hu)
  by_cases h1 : p.t.den = 1
  · rw [if_pos (.inl (z1.2 h1)), if_neg (fun h => o1.1 h.1 h1)]
  by_cases h2 : p.u.den = 1
  · rw [if_pos (.inr (z2.2 h2)), if_neg (fun h => o2.1 h.2 h2)]
  rw [if_neg (fun h => h.elim (fun e => h1 (z1.1 e)) (fun e => h2 (z2.1 e))), if_pos (show Rg.place p.t % 2 = 1 ∧ Rg.place p.u % 2 = 1 from ⟨o1.2 h1, o2.2 h2⟩), Rg.cmp_part ht hu]
  unfold cmpI
  by_cases k1 : Rg.rX p.t p.u < Rg.rX p.u p.t
  · rw [if_pos (l1.2 k1), if_pos k1]; rfl
  · rw [if_neg (fun h => k1 (l1.1 h)), if_neg k1]
    by_cases k2 : Rg.rX p.t p.u = Rg.rX p.u p.t
    · rw [if_pos (l2.2 k2), if_neg (by omega)]; rfl
    · rw [if_neg (fun h => k2 (l2.1 h)), if_pos (by omega)]; rfl
theorem tvs_zero (l : List Rt) : Dbm.tvs l 0 = 0 := by
  show Fr.v ⟨0, 1⟩ = 0
  decide +kernel
/-- the pair's region has a point that keeps what it keeps. -/
theorem key_pt {t : Nat → Rat} {long : Int} (hl : 1 ≤ long ∧ long ≤ 16) (h0 : t 0 = 0) (hT : 0 ≤ t 1) (hlt : t 1 < t 2) (hU : t 2 ≤ (long : Rat)) :
    ∃ n : Int, 0 ≤ n ∧ n < (Rg.many long).1 ∧ (Rg.point n long).2 = true ∧ (Rg.pt n long).t.ok = true ∧ (Rg.pt n long).u.ok = true ∧ Alike t (Dbm.tvs [(Rg.pt n long).t, (Rg.pt n long).u]) := by
  have hs : Rg.sides long = 2 * long + 1 := rfl
  have e1 := eq_fr (t 1)
  have e2 := eq_fr (t 2)
  have n1 := fr_nonneg (t 1)
  have n2 := fr_nonneg (t 2)
  have u1 := fr_lt (t 1)
  have u2 := fr_lt (t 2)
  have f1 : 0 ≤ (t 1).floor := Rat.le_floor_iff.2 (by rw [Rat.intCast_zero]; exact hT)
  have f2 : (t 2).floor ≤ long := by
    have := Rat.floor_le (t 2)
    have h : ((t 2).floor : Rat) ≤ (long : Rat) := by grind
    exact_mod_cast h
  have f3 : (t 1).floor ≤ (t 2).floor := by
    have h1 := Rat.floor_le (t 1)
    exact Rat.le_floor_iff.2 (by grind)
  have f4 : (t 2).floor = long → fr (t 2) = 0 := fun h => by
    rw [h] at e2; grind
  have f5 : (t 1).floor = (t 2).floor → fr (t 1) < fr (t 2) := fun h => by
    rw [h] at e1; grind
  have c1 : (fr (t 1) = 0 ∧ pl (t 1) = 2 * (t 1).floor) ∨ (fr (t 1) ≠ 0 ∧ pl (t 1) = 2 * (t 1).floor + 1) := by
    unfold pl
    by_cases z : fr (t 1) = 0
    · exact .inl ⟨z, if_pos z⟩
    · exact .inr ⟨z, if_neg z⟩
  have c2 : (fr (t 2) = 0 ∧ pl (t 2) = 2 * (t 2).floor) ∨ (fr (t 2) ≠ 0 ∧ pl (t 2) = 2 * (t 2).floor + 1) := by
    unfold pl
    by_cases z : fr (t 2) = 0
    · exact .inl ⟨z, if_pos z⟩
    · exact .inr ⟨z, if_neg z⟩
  have c3 : ((fr (t 1) = 0 ∨ fr (t 2) = 0) ∧ od (t 1) (t 2) = 1) ∨ ((fr (t 1) ≠ 0 ∧ fr (t 2) ≠ 0) ∧ ((fr (t 1) < fr (t 2) ∧ od (t 1) (t 2) = 0) ∨ (¬ fr (t 1) < fr (t 2) ∧ (od (t 1) (t 2) = 1 ∨ od (t 1) (t 2) = 2)))) := by
    unfold od
    by_cases z : fr (t 1) = 0 ∨ fr (t 2) = 0
    · exact .inl ⟨z, if_pos z⟩
    · rw [if_neg z]
      refine .inr ⟨⟨fun e => z (.inl e), fun e => z (.inr e)⟩, ?_⟩
      by_cases k : fr (t 1) < fr (t 2)
      · exact .inl ⟨k, if_pos k⟩
      · rw [if_neg k]
        refine .inr ⟨k, ?_⟩
        split
        · exact .inl rfl
        · exact .inr rfl
  have f6 : (t 1).floor = (t 2).floor → fr (t 2) ≠ 0 := fun h e => by have := f5 h; grind
  have hmay : Rg.may3 (pl (t 1)) (pl (t 2)) (od (t 1) (t 2)) = true := by
    simp only [Rg.may3, Bool.and_eq_true, Bool.or_eq_true, decide_eq_true_eq]
    rcases c1 with ⟨a1, a2⟩ | ⟨a1, a2⟩ <;> rcases c2 with ⟨b1, b2⟩ | ⟨b1, b2⟩
    · have h6 : (t 1).floor ≠ (t 2).floor := fun h => f6 h b1
      rcases c3 with ⟨_, d⟩ | ⟨⟨d, _⟩, _⟩
      · omega
      · exact absurd a1 d
    · have h4 : (t 2).floor ≠ long := fun h => b1 (f4 h)
      rcases c3 with ⟨_, d⟩ | ⟨⟨d, _⟩, _⟩
      · omega
      · exact absurd a1 d
    · have h6 : (t 1).floor ≠ (t 2).floor := fun h => f6 h b1
      rcases c3 with ⟨_, d⟩ | ⟨⟨_, d⟩, _⟩
      · omega
      · exact absurd b1 d
    · have h4 : (t 2).floor ≠ long := fun h => b1 (f4 h)
      rcases c3 with ⟨d, _⟩ | ⟨_, ⟨_, d⟩ | ⟨d1, d2⟩⟩
      · rcases d with d | d
        · exact absurd d a1
        · exact absurd d b1
      · omega
      · have h6 : (t 1).floor ≠ (t 2).floor := fun h => d1 (f5 h)
        omega
  have hTb : 0 ≤ pl (t 1) ∧ pl (t 1) < 33 := by
    simp only [Rg.may3, Bool.and_eq_true, Bool.or_eq_true, decide_eq_true_eq] at hmay
    omega
  have hUb : pl (t 2) < Rg.sides long := by
    rw [hs]
    unfold pl
    split
    · omega
    · rename_i z2
      have : (t 2).floor ≠ long := fun h => z2 (f4 h)
      omega
  have hg := Rg.may_good hTb hmay
  unfold Rg.good3 at hg
  simp only [Bool.and_eq_true, decide_eq_true_eq] at hg
  obtain ⟨⟨⟨g1, g2⟩, g3⟩, g4⟩ := hg
  have hnum : Rg.number (Rg.pt3 (pl (t 1)) (pl (t 2)) (od (t 1) (t 2))) long = 3 * (pl (t 1) * Rg.sides long + pl (t 2)) + od (t 1) (t 2) := by
    unfold Rg.number
    rw [if_neg (by rw [g2, g3]; omega), g2, g3, g4]
  have hpos : 0 ≤ 3 * (pl (t 1) * Rg.sides long + pl (t 2)) + od (t 1) (t 2) := by
    have h1 : 0 ≤ pl (t 1) * Rg.sides long := Int.mul_nonneg hTb.1 (by rw [hs]; omega)
    have h2 : pl (t 1) ≤ pl (t 2) := by
      simp only [Rg.may3, Bool.and_eq_true, Bool.or_eq_true, decide_eq_true_eq] at hmay
      omega
    omega
  obtain ⟨r1, r2, r3, r4, r5, r6, r7, r8, r9⟩ := Rg.rep_of hl (p := Rg.pt3 (pl (t 1)) (pl (t 2)) (od (t 1) (t 2))) (by rw [hnum]; exact hpos)
  refine ⟨_, r3, r4, r2, r5, r6, alike_of h0 (tvs_zero _) ?_ ?_ ?_⟩
  · exact ((pl_place r5).trans (r7.trans g2)).symm
  · exact ((pl_place r6).trans (r8.trans g3)).symm
  · exact ((od_order r5 r6).trans (r9.trans g4)).symm
end Ky
end Go.Proofs.YtjbhpfmnfdebkaaGreat

/-
  slices.Values at []api.Zone: its contract (as XValues, at zones).
-/
namespace Go.Proofs.YtjbhpfmnfdebkaaGreat
set_option linter.unusedVariables false
open Go.RowKit Go.Shelf Go.Proofs.YtjbhpfmnfdebkaaGreat.Eng
attribute [local go_sem] Oper.semAt_some

namespace VZ
def firstN {α : Type} (f : Nat → α) (k : Nat) : List α := (List.range k).map f
theorem firstN_succ {α : Type} (f : Nat → α) (k : Nat) : firstN f (k + 1) = firstN f k ++ [f k] := by simp [firstN, List.range_succ]
theorem firstN_len {α : Type} (f : Nat → α) (k : Nat) : (firstN f k).length = k := by simp [firstN]
def nth (zs : List Zn) (j : Nat) : Zn := zs[j]?.getD ⟨0, 0, 0, 0, 0, 0⟩
theorem firstN_take (zs : List Zn) {k : Nat} (hk : k ≤ zs.length) : firstN (nth zs) k = zs.take k := by
  apply List.ext_getElem
  · simp [firstN, hk]
  · intro i h1 h2
    have : i < zs.length := by simp [firstN] at h1; omega
    simp [firstN, nth, this]
end VZ
open VZ
theorem grown_anyV {X Y : World} (h : X.grownBy Y none) (row : Option Nat) : X.grownBy Y row := ⟨h.os, h.tape, h.output, h.size, fun k hk _ => h.block k hk (fun e => nomatch e)⟩
set_option maxRecDepth 100000 in
set_option maxHeartbeats 2000000 in
theorem valuesZ1_in (n : Nat) (hn : 1 ≤ n) (l Bs n₀ b off len cap : Nat) (f : Nat → Zn) (hreach : len * 48 ≤ 140737488351232) (hb : b < n₀) (J Jx : List Zn → World → Prop) (hJg : ∀ pre A B, J pre A → A.grownBy B none → J pre B)
    (hY : ∀ pre x W, J pre W → pre.length < len → YieldAt Fence.wide (n - 1) Tryz.prog l #[.agg #[.int .i64 x.a, .int .i64 x.b, .int .i64 x.c, .int .i64 x.d, .int .i64 x.e, .int .i64 x.f]] W fun e W' =>
      (e = .returned (.bool true) ∧ J (pre ++ [x]) W' ∧ Below n₀ W W') ∨ (e = .returned (.bool false) ∧ Jx (pre ++ [x]) W'))
    (W : World) (hn0 : n₀ ≤ W.heap.size) (hBs : W.cell? ⟨Bs, 0, none⟩ = some (.slice (some ⟨b, off, none⟩) len cap))
    (c0 : ∀ j, j < len → W.cell? ⟨b, off + j * 6, none⟩ = some (.int .i64 (f j).a)) (c1 : ∀ j, j < len → W.cell? ⟨b, off + j * 6 + 1, none⟩ = some (.int .i64 (f j).b))
    (c2 : ∀ j, j < len → W.cell? ⟨b, off + j * 6 + 2, none⟩ = some (.int .i64 (f j).c)) (c3 : ∀ j, j < len → W.cell? ⟨b, off + j * 6 + 3, none⟩ = some (.int .i64 (f j).d))
    (c4 : ∀ j, j < len → W.cell? ⟨b, off + j * 6 + 4, none⟩ = some (.int .i64 (f j).e)) (c5 : ∀ j, j < len → W.cell? ⟨b, off + j * 6 + 5, none⟩ = some (.int .i64 (f j).f)) (h0 : J [] W) :
    CallsIn Fence.wide n Tryz.prog 258 #[.func (.yield l) #[] #[], .pointer (some ⟨Bs, 0, none⟩)] W fun e W' => (∃ v, e = .returned v) ∧
      ((∃ ys, ys = firstN f len ∧ J ys W') ∨ (∃ pre, (∃ k, k ≤ len ∧ pre = firstN f k) ∧ Jx pre W')) := by
  refine callsIn_of_wp Tryz.func258 rfl trivial ?_ rfl
  simp only [Tryz.ntmps258, List.size_toArray, List.length_cons, List.length_nil, Nat.reduceAdd, Nat.reduceSub, Array.replicate_succ, Array.replicate_zero, List.push_toArray, List.append_toArray, List.nil_append, List.cons_append]
  gi_wp2
  gi_loopw [7] (fun i wr => ∃ k : Nat, k ≤ len ∧ i = .int .i64 k ∧ J (firstN f k) wr ∧ Below n₀ W wr)
    (fun i _ => len - (intOf i).toNat)
  case atStart => exact ⟨0, Nat.zero_le _, rfl, h0, Below.refl _ _⟩
  case round =>
    obtain ⟨k, hk, rfl, hJs, hnx⟩ := hrel
    have g0 : k < len → wr.cell? ⟨b, off + k * 6, none⟩ = some (.int .i64 (f k).a) := fun h => (hnx.cell (p := ⟨b, off + k * 6, none⟩) hb).trans (c0 k h)
    have g1 : k < len → wr.cell? ⟨b, off + k * 6 + 1, none⟩ = some (.int .i64 (f k).b) := fun h => (hnx.cell (p := ⟨b, off + k * 6 + 1, none⟩) hb).trans (c1 k h)
    have g2 : k < len → wr.cell? ⟨b, off + k * 6 + 2, none⟩ = some (.int .i64 (f k).c) := fun h => (hnx.cell (p := ⟨b, off + k * 6 + 2, none⟩) hb).trans (c2 k h)
    have g3 : k < len → wr.cell? ⟨b, off + k * 6 + 3, none⟩ = some (.int .i64 (f k).d) := fun h => (hnx.cell (p := ⟨b, off + k * 6 + 3, none⟩) hb).trans (c3 k h)
    have g4 : k < len → wr.cell? ⟨b, off + k * 6 + 4, none⟩ = some (.int .i64 (f k).e) := fun h => (hnx.cell (p := ⟨b, off + k * 6 + 4, none⟩) hb).trans (c4 k h)
    have g5 : k < len → wr.cell? ⟨b, off + k * 6 + 5, none⟩ = some (.int .i64 (f k).f) := fun h => (hnx.cell (p := ⟨b, off + k * 6 + 5, none⟩) hb).trans (c5 k h)
    clear c0 c1 c2 c3 c4 c5
    by_cases hlt : k < len
    · obtain ⟨fn, tmps, assign, body, hy, hR⟩ := hY _ (f k) (wr.alloc (.cells #[.int .i64 (f k).a, .int .i64 (f k).b, .int .i64 (f k).c, .int .i64 (f k).d, .int .i64 (f k).e, .int .i64 (f k).f] 104)) (hJg _ _ _ hJs (World.grownBy_alloc _ _ none)) (by rw [firstN_len]; exact hlt)
      have g0 := g0 hlt
      have g1 := g1 hlt
      have g2 := g2 hlt
      have g3 := g3 hlt
      have g4 := g4 hlt
      have g5 := g5 hlt
      gi_wp2
      refine hR.mono ?_
      rintro e W3 (⟨rfl, hJ3, hk3⟩ | ⟨rfl, hJx3⟩)
      · gi_wp2
        go_roundw
        case rel => exact ⟨k + 1, by omega, by simp, by rw [firstN_succ]; exact hJ3, hnx.trans (((Below.refl n₀ wr).alloc (Nat.le_trans hn0 hnx.size) _).trans hk3)⟩
        case measure => simp [intOf]; omega
      · gi_wp2
        refine bodyPost_ret (results_none rfl _ _ _) rfl ?_
        exact ⟨⟨_, rfl⟩, .inr ⟨_, ⟨k + 1, by omega, (firstN_succ _ _).symm⟩, hJx3⟩⟩
    · obtain rfl : k = len := by omega
      gi_wp2
      go_end0
      exact ⟨⟨_, rfl⟩, .inl ⟨_, rfl, hJs⟩⟩

set_option maxRecDepth 100000 in
set_option maxHeartbeats 1000000 in
theorem valuesZ1_nil_in (n : Nat) (l Bs : Nat) (a : Option Addr) (cap : Nat) (J : List Zn → World → Prop) (W : World) (hBs : W.cell? ⟨Bs, 0, none⟩ = some (.slice a 0 cap)) (h0 : J [] W) :
    CallsIn Fence.wide n Tryz.prog 258 #[.func (.yield l) #[] #[], .pointer (some ⟨Bs, 0, none⟩)] W fun e W' => (∃ v, e = .returned v) ∧ J [] W' := by
  refine callsIn_of_wp Tryz.func258 rfl trivial ?_ rfl
  simp only [Tryz.ntmps258, List.size_toArray, List.length_cons, List.length_nil, Nat.reduceAdd, Nat.reduceSub, Array.replicate_succ, Array.replicate_zero, List.push_toArray, List.append_toArray, List.nil_append, List.cons_append]
  gi_wp2
  gi_loopw [7] (fun i wr => i = .int .i64 0 ∧ J [] wr) (fun _ _ => 0)
  case atStart => exact ⟨rfl, h0⟩
  case round =>
    obtain ⟨rfl, hJs⟩ := hrel
    gi_wp2
    go_end0
    exact ⟨⟨_, rfl⟩, hJs⟩

set_option maxHeartbeats 1000000 in
theorem valuesZ_in (n : Nat) (a : Option Addr) (len cap : Nat) (w : World) :
    CallsIn Fence.wide n Tryz.prog 212 #[.slice a len cap] w fun e w' => e = .returned (.func (.func 258) #[] #[.pointer (some ⟨w.heap.size, 0, none⟩)]) ∧ w' = w.alloc (.cells #[.slice a len cap] 22) := by
  refine callsIn_of_wp Tryz.func212 rfl trivial ?_ rfl
  simp only [Tryz.ntmps212, List.size_toArray, List.length_cons, List.length_nil, Nat.reduceAdd, Nat.reduceSub, Array.replicate_succ, Array.replicate_zero, List.push_toArray, List.append_toArray, List.nil_append, List.cons_append]
  gi_wp2
  go_ret
  exact ⟨rfl, rfl⟩

theorem valuesZ_stopsB (n : Nat) (hn : 1 ≤ n) (Bs n₀ n1 : Nat) (a : Option Addr) (cap : Nat) (zs : List Zn) (hreach : zs.length * 48 ≤ 140737488351232) (w : World) (hBs : Bs < w.heap.size) (hn₀ : n₀ ≤ w.heap.size)
    (hc : w.cell? ⟨Bs, 0, none⟩ = some (.slice a zs.length cap)) (hI : Sl n₀ w (.slice a zs.length cap) zs) :
    SeqStopsB n Tryz.prog 258 #[.pointer (some ⟨Bs, 0, none⟩)] (fun x : Zn => #[.agg #[.int .i64 x.a, .int .i64 x.b, .int .i64 x.c, .int .i64 x.d, .int .i64 x.e, .int .i64 x.f]]) (Below n₀) (fun ys => ys = zs) (fun pre => pre <+: zs) zs.length Bs n1 w := fun l J Jx W hW hJa _ hY h0 => by
  have hc' := (hW.cell (p := ⟨Bs, 0, none⟩) hBs).trans hc
  have hI' := hI.below (hW.mono hn₀)
  by_cases hz : zs = []
  · subst hz
    exact (valuesZ1_nil_in n l Bs a cap J W hc' h0).mono fun e W' ⟨he, hj⟩ => ⟨he, .inl ⟨_, rfl, hj⟩⟩
  · have hp : 0 < zs.length := List.length_pos_iff.2 hz
    obtain ⟨a', cap', e0, _, _, _, h4⟩ := hI'
    injection e0 with e1 e2 e3
    subst e1; subst e3
    obtain ⟨b, off, rfl, hb, _⟩ := h4 0 _ (List.getElem?_eq_getElem hp)
    have hcs : ∀ j, j < zs.length → ∀ i v, (Enc.enc (nth zs j))[i]? = some v → W.cell? ⟨b, off + j * 6 + i, none⟩ = some v := fun j hj i v hv => by
      obtain ⟨b', o', e, _, hcell⟩ := h4 j _ (List.getElem?_eq_getElem hj)
      injection e with e; injection e with e1 e2
      subst e1; subst e2
      have e5 : nth zs j = zs[j] := by unfold nth; rw [List.getElem?_eq_getElem hj]; rfl
      rw [e5] at hv
      have := hcell i v hv
      rwa [← Nat.add_assoc] at this
    refine (valuesZ1_in n hn l Bs n₀ b off zs.length cap (nth zs) hreach hb J Jx (fun pre A B h hg => hJa pre A B h (grown_anyV hg _)) (fun pre x W1 hj hl => (hY pre x W1 hj hl).mono fun e W' h => h.imp id fun h => ⟨h.1, h.2.1⟩) W (Nat.le_trans hn₀ hW.size) hc' (fun j hj => hcs j hj 0 _ rfl) (fun j hj => hcs j hj 1 _ rfl) (fun j hj => hcs j hj 2 _ rfl) (fun j hj => hcs j hj 3 _ rfl) (fun j hj => hcs j hj 4 _ rfl) (fun j hj => hcs j hj 5 _ rfl) h0).mono ?_
    rintro e W' ⟨he, ⟨ys, rfl, hj⟩ | ⟨pre, ⟨k, hk, rfl⟩, hj⟩⟩
    · exact ⟨he, .inl ⟨_, by rw [firstN_take zs (Nat.le_refl _), List.take_length], hj⟩⟩
    · exact ⟨he, .inr ⟨_, by rw [firstN_take zs hk]; exact List.take_prefix _ _, hj⟩⟩
end Go.Proofs.YtjbhpfmnfdebkaaGreat

/-
  slices.AppendSeq, Collect over slices.Values, at api.Zone, by the engine.
-/
namespace Go.Proofs.YtjbhpfmnfdebkaaGreat
set_option linter.unusedVariables false
set_option linter.unusedSimpArgs false
set_option maxRecDepth 100000
open Go.RowKit Go.Proofs.YtjbhpfmnfdebkaaGreat.Eng Enc

theorem appendSeqZ_any (Bs : Nat) (a : Option Addr) (cap : Nat) (zs : List Zn) (hlen : zs.length ≤ 1000000) (w : World) (hc : w.cell? ⟨Bs, 0, none⟩ = some (.slice a zs.length cap)) (hS : Sl w.heap.size w (.slice a zs.length cap) zs) :
    Calls Tryz.prog 287 #[.slice none 0 0, .func (.func 258) #[] #[.pointer (some ⟨Bs, 0, none⟩)]] w fun e w' => ∃ v, e = .returned v ∧ Below Bs w w' ∧ Own 104 w.heap.size w' v zs := by
  have hBs : Bs < w.heap.size := World.block_lt_of_cell? _ _ hc
  refine fun_at 9 Bs w (Nat.le_of_lt hBs) Tryz.func287 (args := [.val (.slice none 0 0), .val (.func (.func 258) #[] #[.pointer (some ⟨Bs, 0, none⟩)])]) rfl rfl ?_
  refine NewI.mk fun b1 hb1 => ?_
  have hb1' : w.heap.size ≤ b1 := hb1
  refine RawI.mk fun ac w7 hR => ?_
  have h7 := hR.at_
  have hg7 : Below w.heap.size w w7 := at_below h7 (by simp)
  have hl1 := h7.lt b1 (by simp)
  have hc7 : w7.cell? ⟨Bs, 0, none⟩ = some (.slice a zs.length cap) := (hg7.cell (p := ⟨Bs, 0, none⟩) hBs).trans hc
  have hw7 := hg7.size
  refine rangeBu cxOk (by decide) hR rfl Tryz.call258 (valuesZ_stopsB 8 (by omega) Bs w.heap.size Bs a cap zs (by omega) w7 (by omega) hw7 hc7 (hS.below hg7)) (encs := fun x : Zn => [.agg #[.int .i64 x.a, .int .i64 x.b, .int .i64 x.c, .int .i64 x.d, .int .i64 x.e, .int .i64 x.f]]) (by omega) (Nat.le_refl Bs) (fun hm => by simp at hm; omega)
    (fun h k => h.trans k) ?_ (fun x => rfl)
    (γ := Value) (fun c => [⟨[.val c], 22⟩])
    (fun (pre : List Zn) (c : Value) W => Own 104 w7.heap.size W c pre) ?_ (.slice none 0 0) rfl Own.nil
    (fun (c : Code) (pre : List Zn) (q : Value) (W : World) => False)
    (fun _ q => [])
    (fun c q pre A B row h hg hr => h) (fun z => [(5, .loc 1 0)]) (fun z => [⟨[.val (.int .i64 z.a), .val (.int .i64 z.b), .val (.int .i64 z.c), .val (.int .i64 z.d), .val (.int .i64 z.e), .val (.int .i64 z.f)], 104⟩]) (fun c bs => ∀ k, c.ownBlock = some k → k ∉ bs) ?asg ?body ?done (fun _ _ _ _ _ _ _ _ h => h.elim)
  case asg =>
    intro l pre z c W hΦ hBW hsW hN
    refine NewI.mk fun b5 hb5 => ?_
    refine ⟨rfl, [b5], rfl, fun k hk hm => by have := hΦ.lt k hk; have hb5 : W.heap.size ≤ b5 := hb5; simp at hm; omega, Need.mk ⟨rfl, rfl, rfl, rfl⟩ (EndI.mk fun w9 h9 => ?_)⟩
    have hg := at_below h9 (fun b hb => by simp at hb; subst hb; exact hb5)
    exact ⟨below_keepsFrom hg _, hg.mono (by omega), hΦ.below hg⟩
  · exact fun W l o o' hl ho h1 h2 => ⟨rfl, rfl, rfl, by simp, fun k hk => World.putObj_heap_other (by omega)⟩
  · rintro c pre A C row hO hg hr
    have hO : Own 104 w7.heap.size A c pre := hO
    refine Own.kept hO hg ?_
    obtain ⟨_, ⟨e, _⟩ | ⟨g, cp, cur, e, hbg, hgb, _⟩⟩ := id hO
    · rw [e]; exact .inl rfl
    · rw [e]
      refine .inr (fun e' => ?_)
      rcases hr g e'.symm with h | ⟨_, o, ho, hcl⟩
      · omega
      · rw [hgb] at ho; cases ho; cases hcl
  case body =>
    intro l pre x c bs W hbs hψ hO hBW hsW hN
    have hO : Own 104 w7.heap.size W c pre := hO
    obtain ⟨b5, rfl⟩ := List.length_eq_one_iff.1 hbs
    refine NewI.mk fun b6 hb6 => ?_
    have hb6' : W.heap.size ≤ b6 := hb6
    have hr : ∀ k, c.ownBlock = some k → Bs ≤ k ∧ k ∉ [b1, b5, b6] := fun k hk => by
      have hkk := hO.lt k hk
      have h5 := hψ k hk
      simp at h5
      refine ⟨by omega, fun hm => ?_⟩
      simp only [List.mem_cons, List.not_mem_nil, or_false] at hm
      omega
    refine GenN.app (α := Zn) elZ pre [x] w7.heap.size (fun w5 h5 => hO.below h5.go) (fun w5 h5 => src_own h5 2 rfl rfl rfl rfl) (by unfold maxLen; simp; omega) (by simp; omega) (fun w5 h5 => Nat.le_trans hsW h5.size)
      (fun w5 w6 h5 hg => keep_grown h5 hg hr) fun sv' w5 w6 h5 hg hO' => ?_
    obtain ⟨a', c', rfl⟩ := hO'.form
    refine ⟨.slice a' (pre ++ [x]).length c', ?_⟩
    refine Need.mk (CovH.mk rfl rfl rfl) (EndI.mk fun w9 h9 => ?_)
    have hW9 : W.heap.size ≤ w9.heap.size := Nat.le_trans h5.size (Nat.le_trans hg.size h9.size)
    have keep1 : ∀ k, k < W.heap.size → k ≠ b1 → c.ownBlock ≠ some k → w9.heap[k]? = W.heap[k]? := fun k hkW h3 hrow => by
      refine (h9.step k (Nat.lt_of_lt_of_le hkW (Nat.le_trans h5.size hg.size)) (fun hm => ?_)).trans ((hg.block k (Nat.lt_of_lt_of_le hkW h5.size) (fun e => hrow e.symm)).trans (h5.go.block k hkW))
      simp at hm; omega
    have row : ∀ k, k < w7.heap.size → c.ownBlock ≠ some k := fun k hk e => by have := hO.lt k e; omega
    refine ⟨⟨hW9, fun k o hk7 hk hcl => ?_⟩, ?_, ?_⟩
    · have hkW : k < W.heap.size := (Array.getElem?_eq_some_iff.1 hk).1
      refine (keep1 k hkW (by omega) (fun e => ?_)).trans hk
      obtain ⟨_, ⟨e0, _⟩ | ⟨g, cp, cur, e0, _, hgb, _⟩⟩ := id hO
      · rw [e0] at e; cases e
      · rw [e0] at e
        injection e with e
        subst e
        rw [hgb] at hk; cases hk; cases hcl
    · have hb9 := h9.below
      exact ⟨hb9.os.trans hBW.os.symm, hb9.tape.trans hBW.tape.symm, hb9.output.trans hBW.output.symm, hW9, fun k hk => keep1 k (by omega) (by omega) (row k (by omega))⟩
    · exact hO'.at h9 (fun b hb => by simp at hb; subst hb; exact hl1)
  case done =>
    rintro D xs c W hD hSx hO hmark
    have hO : Own 104 w7.heap.size W c xs := hO
    subst hSx
    have hDW : D < W.heap.size := (Array.getElem?_eq_some_iff.1 hmark).1
    obtain ⟨a', c', rfl⟩ := hO.form
    refine EndM.mk fun w10 h10 => ⟨⟨show Bs ≤ D by omega, (h10.step D hDW (by simp)).trans hmark⟩, fun w11 hu => ?_⟩
    have hO10 := hO.at h10 (by simp)
    refine (Own.kept (row := some D) hO10 ⟨hu.2.1, hu.2.2.1, hu.2.2.2.1, by rw [hu.1]; exact Nat.le_refl _, fun k _ hk => hu.2.2.2.2 k (fun e => hk (by rw [e]))⟩ ?_).lower hw7
    obtain ⟨_, ⟨e, _⟩ | ⟨g, cp, cur, e, _, hgb, _⟩⟩ := id hO10
    · rw [e]; exact .inl rfl
    · rw [e]
      refine .inr (fun e' => ?_)
      injection e' with e'
      subst e'
      have := (h10.step _ hDW (by simp)).trans hmark
      rw [hgb] at this; cases this

theorem collectZ_any (Bs : Nat) (a : Option Addr) (cap : Nat) (zs : List Zn) (hlen : zs.length ≤ 1000000) (w : World) (hc : w.cell? ⟨Bs, 0, none⟩ = some (.slice a zs.length cap)) (hS : Sl w.heap.size w (.slice a zs.length cap) zs) :
    Calls Tryz.prog 256 #[.func (.func 258) #[] #[.pointer (some ⟨Bs, 0, none⟩)]] w fun e w' => ∃ v, e = .returned v ∧ Below Bs w w' ∧ Own 104 w.heap.size w' v zs := by
  have hBs : Bs < w.heap.size := World.block_lt_of_cell? _ _ hc
  refine fun_at 0 Bs w (Nat.le_of_lt hBs) Tryz.func256 (args := [.val (.func (.func 258) #[] #[.pointer (some ⟨Bs, 0, none⟩)])]) rfl rfl ?_
  refine CallI.mk fun w1 h1 => ?_
  have hg1 : Below w.heap.size w w1 := h1.go
  refine (appendSeqZ_any Bs a cap zs hlen w1 ((hg1.cell (p := ⟨Bs, 0, none⟩) hBs).trans hc) (hS.go hg1 hg1.size)).mono ?_
  rintro e w2 ⟨v, rfl, hB2, hO⟩
  refine ⟨⟨hB2, by simp⟩, _, rfl, ?_⟩
  obtain ⟨a', c', rfl⟩ := hO.form
  exact EndI.mk fun w3 h3 => (hO.at h3 (by simp)).lower hg1.size
end Go.Proofs.YtjbhpfmnfdebkaaGreat

/-
  zone.Cmp: its contract, the world told exactly (blocks laid, draws made).
-/
namespace Go.Proofs.YtjbhpfmnfdebkaaGreat
set_option linter.unusedVariables false
set_option linter.unusedSimpArgs false
set_option maxRecDepth 100000
open Go.RowKit Go.Shelf

namespace Zo
/-- which of two zones comes first: by the first bound in which they part. -/
def cmp (x y : Zn) : Int :=
  if cmpI x.a y.a ≠ 0 then cmpI x.a y.a else if cmpI x.b y.b ≠ 0 then cmpI x.b y.b else if cmpI x.c y.c ≠ 0 then cmpI x.c y.c
  else if cmpI x.d y.d ≠ 0 then cmpI x.d y.d else if cmpI x.e y.e ≠ 0 then cmpI x.e y.e else if cmpI x.f y.f ≠ 0 then cmpI x.f y.f else 0
end Zo
theorem nanB_at (a : Int) (w : World) : Calls Tryz.prog 309 #[.int .i64 a] w fun e w' => e = .returned (.bool false) ∧ w' = w := by
  go_enter Tryz.func309, Tryz.ntmps309
  go_wp2
  go_ret
  exact ⟨by simp, rfl⟩
theorem cmpB_at (x y : Int) (w : World) : Calls Tryz.prog 289 #[.int .i64 x, .int .i64 y] w fun e w' => e = .returned (.int .i64 (cmpI x y)) ∧ w' = w := by
  have key : (x < y ∧ cmpI x y = -1) ∨ (¬ x < y ∧ y < x ∧ cmpI x y = 1) ∨ (¬ x < y ∧ ¬ y < x ∧ cmpI x y = 0) := by unfold cmpI; split <;> (try split) <;> omega
  rcases key with ⟨h1, h⟩ | ⟨h1, h2, h⟩ | ⟨h1, h2, h⟩
  all_goals (rw [h]; clear h)
  all_goals (go_enter Tryz.func289, Tryz.ntmps289)
  all_goals (go_wp2_with (go_at_call 309; refine (nanB_at _ _).mono ?_; rintro e w' ⟨rfl, rfl⟩))
  all_goals (go_ret; exact ⟨rfl, rfl⟩)
set_option maxHeartbeats 2000000 in
theorem compareB_at (bx b_y : Nat) (x y : Zn) (w : World)
    (x0 : w.cell? ⟨bx, 0, none⟩ = some (.int .i64 x.a)) (x1 : w.cell? ⟨bx, 1, none⟩ = some (.int .i64 x.b)) (x2 : w.cell? ⟨bx, 2, none⟩ = some (.int .i64 x.c)) (x3 : w.cell? ⟨bx, 3, none⟩ = some (.int .i64 x.d)) (x4 : w.cell? ⟨bx, 4, none⟩ = some (.int .i64 x.e)) (x5 : w.cell? ⟨bx, 5, none⟩ = some (.int .i64 x.f))
    (y0 : w.cell? ⟨b_y, 0, none⟩ = some (.int .i64 y.a)) (y1 : w.cell? ⟨b_y, 1, none⟩ = some (.int .i64 y.b)) (y2 : w.cell? ⟨b_y, 2, none⟩ = some (.int .i64 y.c)) (y3 : w.cell? ⟨b_y, 3, none⟩ = some (.int .i64 y.d)) (y4 : w.cell? ⟨b_y, 4, none⟩ = some (.int .i64 y.e)) (y5 : w.cell? ⟨b_y, 5, none⟩ = some (.int .i64 y.f)) :
    Calls Tryz.prog 259 #[.slice (some ⟨bx, 0, none⟩) 6 6, .slice (some ⟨b_y, 0, none⟩) 6 6] w fun e w' => e = .returned (.int .i64 (Zo.cmp x y)) ∧ w' = w := by
  unfold Zo.cmp
  by_cases h0 : cmpI x.a y.a = 0
  case neg =>
    rw [if_pos h0]
    have q0 := fun W => cmpB_at x.a y.a W
    generalize cmpI x.a y.a = c at *
    go_enter Tryz.func259, Tryz.ntmps259
    go_wp2
    refine wp_loop_rounds 1 ?_
    rw [rounds_succ]
    go_wp2_with (go_at_call 289; refine (q0 _).mono ?_; rintro e w' ⟨rfl, rfl⟩)
    go_ret
    exact ⟨rfl, rfl⟩
  rw [if_neg (by simp [h0])]
  by_cases h1 : cmpI x.b y.b = 0
  case neg =>
    rw [if_pos h1]
    have q0 := fun W => cmpB_at x.a y.a W
    rw [h0] at q0
    have q1 := fun W => cmpB_at x.b y.b W
    generalize cmpI x.b y.b = c at *
    go_enter Tryz.func259, Tryz.ntmps259
    go_wp2
    refine wp_loop_rounds 2 ?_
    rw [rounds_succ]
    go_wp2_with (go_at_call 289; refine (q0 _).mono ?_; rintro e w' ⟨rfl, rfl⟩)
    rw [rounds_succ]
    go_wp2_with (go_at_call 289; refine (q1 _).mono ?_; rintro e w' ⟨rfl, rfl⟩)
    go_ret
    exact ⟨rfl, rfl⟩
  rw [if_neg (by simp [h1])]
  by_cases h2 : cmpI x.c y.c = 0
  case neg =>
    rw [if_pos h2]
    have q0 := fun W => cmpB_at x.a y.a W
    rw [h0] at q0
    have q1 := fun W => cmpB_at x.b y.b W
    rw [h1] at q1
    have q2 := fun W => cmpB_at x.c y.c W
    generalize cmpI x.c y.c = c at *
    go_enter Tryz.func259, Tryz.ntmps259
    go_wp2
    refine wp_loop_rounds 3 ?_
    rw [rounds_succ]
    go_wp2_with (go_at_call 289; refine (q0 _).mono ?_; rintro e w' ⟨rfl, rfl⟩)
    rw [rounds_succ]
    go_wp2_with (go_at_call 289; refine (q1 _).mono ?_; rintro e w' ⟨rfl, rfl⟩)
    rw [rounds_succ]
    go_wp2_with (go_at_call 289; refine (q2 _).mono ?_; rintro e w' ⟨rfl, rfl⟩)
    go_ret
    exact ⟨rfl, rfl⟩
  rw [if_neg (by simp [h2])]
  by_cases h3 : cmpI x.d y.d = 0
  case neg =>
    rw [if_pos h3]
    have q0 := fun W => cmpB_at x.a y.a W
    rw [h0] at q0
    have q1 := fun W => cmpB_at x.b y.b W
    rw [h1] at q1
    have q2 := fun W => cmpB_at x.c y.c W
    rw [h2] at q2
    have q3 := fun W => cmpB_at x.d y.d W
    generalize cmpI x.d y.d = c at *
    go_enter Tryz.func259, Tryz.ntmps259
    go_wp2
    refine wp_loop_rounds 4 ?_
    rw [rounds_succ]
    go_wp2_with (go_at_call 289; refine (q0 _).mono ?_; rintro e w' ⟨rfl, rfl⟩)
    rw [rounds_succ]
    go_wp2_with (go_at_call 289; refine (q1 _).mono ?_; rintro e w' ⟨rfl, rfl⟩)
    rw [rounds_succ]
    go_wp2_with (go_at_call 289; refine (q2 _).mono ?_; rintro e w' ⟨rfl, rfl⟩)
    rw [rounds_succ]
    go_wp2_with (go_at_call 289; refine (q3 _).mono ?_; rintro e w' ⟨rfl, rfl⟩)
    go_ret
    exact ⟨rfl, rfl⟩
  rw [if_neg (by simp [h3])]
  by_cases h4 : cmpI x.e y.e = 0
  case neg =>
    rw [if_pos h4]
    have q0 := fun W => cmpB_at x.a y.a W
    rw [h0] at q0
    have q1 := fun W => cmpB_at x.b y.b W
    rw [h1] at q1
    have q2 := fun W => cmpB_at x.c y.c W
    rw [h2] at q2
    have q3 := fun W => cmpB_at x.d y.d W
    rw [h3] at q3
    have q4 := fun W => cmpB_at x.e y.e W
    generalize cmpI x.e y.e = c at *
    go_enter Tryz.func259, Tryz.ntmps259
    go_wp2
    refine wp_loop_rounds 5 ?_
    rw [rounds_succ]
    go_wp2_with (go_at_call 289; refine (q0 _).mono ?_; rintro e w' ⟨rfl, rfl⟩)
    rw [rounds_succ]
    go_wp2_with (go_at_call 289; refine (q1 _).mono ?_; rintro e w' ⟨rfl, rfl⟩)
    rw [rounds_succ]
    go_wp2_with (go_at_call 289; refine (q2 _).mono ?_; rintro e w' ⟨rfl, rfl⟩)
    rw [rounds_succ]
    go_wp2_with (go_at_call 289; refine (q3 _).mono ?_; rintro e w' ⟨rfl, rfl⟩)
    rw [rounds_succ]
    go_wp2_with (go_at_call 289; refine (q4 _).mono ?_; rintro e w' ⟨rfl, rfl⟩)
    go_ret
    exact ⟨rfl, rfl⟩
  rw [if_neg (by simp [h4])]
  by_cases h5 : cmpI x.f y.f = 0
  case neg =>
    rw [if_pos h5]
    have q0 := fun W => cmpB_at x.a y.a W
    rw [h0] at q0
    have q1 := fun W => cmpB_at x.b y.b W
    rw [h1] at q1
    have q2 := fun W => cmpB_at x.c y.c W
    rw [h2] at q2
    have q3 := fun W => cmpB_at x.d y.d W
    rw [h3] at q3
    have q4 := fun W => cmpB_at x.e y.e W
    rw [h4] at q4
    have q5 := fun W => cmpB_at x.f y.f W
    generalize cmpI x.f y.f = c at *
    go_enter Tryz.func259, Tryz.ntmps259
    go_wp2
    refine wp_loop_rounds 6 ?_
    rw [rounds_succ]
    go_wp2_with (go_at_call 289; refine (q0 _).mono ?_; rintro e w' ⟨rfl, rfl⟩)
    rw [rounds_succ]
    go_wp2_with (go_at_call 289; refine (q1 _).mono ?_; rintro e w' ⟨rfl, rfl⟩)
    rw [rounds_succ]
    go_wp2_with (go_at_call 289; refine (q2 _).mono ?_; rintro e w' ⟨rfl, rfl⟩)
    rw [rounds_succ]
    go_wp2_with (go_at_call 289; refine (q3 _).mono ?_; rintro e w' ⟨rfl, rfl⟩)
    rw [rounds_succ]
    go_wp2_with (go_at_call 289; refine (q4 _).mono ?_; rintro e w' ⟨rfl, rfl⟩)
    rw [rounds_succ]
    go_wp2_with (go_at_call 289; refine (q5 _).mono ?_; rintro e w' ⟨rfl, rfl⟩)
    go_ret
    exact ⟨rfl, rfl⟩
  rw [if_neg (by simp [h5])]
  have q0 := fun W => cmpB_at x.a y.a W
  rw [h0] at q0
  have q1 := fun W => cmpB_at x.b y.b W
  rw [h1] at q1
  have q2 := fun W => cmpB_at x.c y.c W
  rw [h2] at q2
  have q3 := fun W => cmpB_at x.d y.d W
  rw [h3] at q3
  have q4 := fun W => cmpB_at x.e y.e W
  rw [h4] at q4
  have q5 := fun W => cmpB_at x.f y.f W
  rw [h5] at q5
  go_enter Tryz.func259, Tryz.ntmps259
  go_wp2
  refine wp_loop_rounds 7 ?_
  rw [rounds_succ]
  go_wp2_with (go_at_call 289; refine (q0 _).mono ?_; rintro e w' ⟨rfl, rfl⟩)
  rw [rounds_succ]
  go_wp2_with (go_at_call 289; refine (q1 _).mono ?_; rintro e w' ⟨rfl, rfl⟩)
  rw [rounds_succ]
  go_wp2_with (go_at_call 289; refine (q2 _).mono ?_; rintro e w' ⟨rfl, rfl⟩)
  rw [rounds_succ]
  go_wp2_with (go_at_call 289; refine (q3 _).mono ?_; rintro e w' ⟨rfl, rfl⟩)
  rw [rounds_succ]
  go_wp2_with (go_at_call 289; refine (q4 _).mono ?_; rintro e w' ⟨rfl, rfl⟩)
  rw [rounds_succ]
  go_wp2_with (go_at_call 289; refine (q5 _).mono ?_; rintro e w' ⟨rfl, rfl⟩)
  rw [rounds_succ]
  go_wp2
  go_ret
  exact ⟨rfl, rfl⟩
theorem zcmp_at (x y : Zn) (w : World) : Calls Tryz.prog 213 #[.agg #[.int .i64 x.a, .int .i64 x.b, .int .i64 x.c, .int .i64 x.d, .int .i64 x.e, .int .i64 x.f], .agg #[.int .i64 y.a, .int .i64 y.b, .int .i64 y.c, .int .i64 y.d, .int .i64 y.e, .int .i64 y.f]] w fun e w' => e = .returned (.int .i64 (Zo.cmp x y)) ∧ ∃ q os', w' = Go.Sort.grow (w.drewN q) os' := by
  have hcon := fun W x0 x1 x2 x3 x4 x5 y0 y1 y2 y3 y4 y5 => compareB_at w.heap.size (w.heap.size + 1) x y W x0 x1 x2 x3 x4 x5 y0 y1 y2 y3 y4 y5
  generalize Zo.cmp x y = c at *
  go_enter Tryz.func213, Tryz.ntmps213
  go_wp2
  go_quiet ((go_at_call 259; exact Calls.quiet_of_same (hcon _ (by simp) (by simp) (by simp) (by simp) (by simp) (by simp) (by simp) (by simp) (by simp) (by simp) (by simp) (by simp))))
  go_wp2
  go_ret
  exact ⟨rfl, _, _, by rw [Go.Sort.alloc_eq_grow, Go.Sort.alloc_eq_grow, Go.Sort.grow_grow]; rfl⟩
end Go.Proofs.YtjbhpfmnfdebkaaGreat

/-
  DERIVED: THE SHELF's CONTRACTS AT THIS DUMP, IN PLAIN WORDS (tools/lay-plain.mjs out of 'YtjbhpfmnfdebkaaGreatShelf0.lean', which tools/lay-shelf.mjs wrote): THE SAME DECLARATIONS UNDER THE SAME NAMES: 'import', 'namespace', 'open', 'def', 'theorem' AND NOTHING ELSE: no command of the shelf's: FOR A HAND-IN. Each laying: the table of numbers ('.._ren') and one theorem, a field a fact of the dump's own or the kernel's comparison; each contract: ONE APPLICATION.
-/
namespace Go.Proofs
open Go.Shelf
def Tryz.sortZ_ren : Go.Shelf.Ren := ⟨fun | 6 => 257 | 15 => 255 | 14 => 288 | 28 => 285 | 29 => 286 | 20 => 301 | 21 => 302 | 22 => 303 | 23 => 304 | 24 => 305 | 25 => 306 | 26 => 307 | 27 => 308 | 46 => 318 | 47 => 297 | 48 => 298 | 49 => 319 | 50 => 320 | 57 => 322 | n => n, fun | 22 => 22 | 24 => 104 | 25 => 254 | 3 => 3 | 39 => 271 | 0 => 0 | 53 => 316 | 55 => 245 | 4 => 4 | 46 => 309 | 45 => 308 | 50 => 313 | 5 => 5 | 9 => 9 | 66 => 327 | 70 => 331 | 76 => 343 | 77 => 215 | n => n, fun | n => n⟩
theorem Tryz.sortZ : Go.Proofs.SlLaysF0.n6 Tryz.prog Tryz.sortZ_ren := {
  mixed := by kernel_rfl
  f6 := ⟨Tryz.f257.name, by decide, Tryz.func257.trans (congrArg some (by kernel_rfl))⟩
  f14 := ⟨Tryz.f288.name, by decide, Tryz.func288.trans (congrArg some (by kernel_rfl))⟩
  f15 := Tryz.func255.trans (congrArg some (by kernel_rfl))
  f20 := ⟨Tryz.f301.name, by decide, Tryz.func301.trans (congrArg some (by kernel_rfl))⟩
  f21 := ⟨Tryz.f302.name, by decide, Tryz.func302.trans (congrArg some (by kernel_rfl))⟩
  f22 := ⟨Tryz.f303.name, by decide, Tryz.func303.trans (congrArg some (by kernel_rfl))⟩
  f23 := ⟨Tryz.f304.name, by decide, Tryz.func304.trans (congrArg some (by kernel_rfl))⟩
  f24 := ⟨Tryz.f305.name, by decide, Tryz.func305.trans (congrArg some (by kernel_rfl))⟩
  f25 := ⟨Tryz.f306.name, by decide, Tryz.func306.trans (congrArg some (by kernel_rfl))⟩
  f26 := ⟨Tryz.f307.name, by decide, Tryz.func307.trans (congrArg some (by kernel_rfl))⟩
  f27 := ⟨Tryz.f308.name, by decide, Tryz.func308.trans (congrArg some (by kernel_rfl))⟩
  f28 := Tryz.func285.trans (congrArg some (by kernel_rfl))
  f29 := Tryz.func286.trans (congrArg some (by kernel_rfl))
  f46 := ⟨Tryz.f318.name, by decide, Tryz.func318.trans (congrArg some (by kernel_rfl))⟩
  f47 := Tryz.func297.trans (congrArg some (by kernel_rfl))
  f48 := Tryz.func298.trans (congrArg some (by kernel_rfl))
  f49 := ⟨Tryz.f319.name, by decide, Tryz.func319.trans (congrArg some (by kernel_rfl))⟩
  f50 := ⟨Tryz.f320.name, by decide, Tryz.func320.trans (congrArg some (by kernel_rfl))⟩
  f57 := ⟨Tryz.f322.name, by decide, Tryz.func322.trans (congrArg some (by kernel_rfl))⟩
  t0 := Tryz.underlying0
  a0 := Tryz.isAgg0
  z0 := Tryz.sizeOf0
  v0 := Tryz.zeroValue0
  t3 := Tryz.underlying3
  a3 := Tryz.isAgg3
  z3 := Tryz.sizeOf3
  v3 := Tryz.zeroValue3
  t4 := Tryz.underlying4
  a4 := Tryz.isAgg4
  z4 := Tryz.sizeOf4
  v4 := Tryz.zeroValue4
  t5 := Tryz.underlying5
  a5 := Tryz.isAgg5
  z5 := Tryz.sizeOf5
  v5 := Tryz.zeroValue5
  t9 := Tryz.underlying9
  a9 := Tryz.isAgg9
  z9 := Tryz.sizeOf9
  v9 := Tryz.zeroValue9
  t22 := Tryz.underlying22
  a22 := Tryz.isAgg22
  z22 := Tryz.sizeOf22
  v22 := Tryz.zeroValue22
  t25 := Tryz.underlying254
  a25 := Tryz.isAgg254
  z25 := Tryz.sizeOf254
  v25 := Tryz.zeroValue254
  t39 := Tryz.underlying271
  a39 := Tryz.isAgg271
  z39 := Tryz.sizeOf271
  v39 := Tryz.zeroValue271
  t45 := Tryz.underlying308
  a45 := Tryz.isAgg308
  z45 := Tryz.sizeOf308
  v45 := Tryz.zeroValue308
  t46 := Tryz.underlying309
  a46 := Tryz.isAgg309
  z46 := Tryz.sizeOf309
  v46 := Tryz.zeroValue309
  t50 := Tryz.underlying313
  a50 := Tryz.isAgg313
  z50 := Tryz.sizeOf313
  v50 := Tryz.zeroValue313
  t53 := Tryz.underlying316
  a53 := Tryz.isAgg316
  z53 := Tryz.sizeOf316
  v53 := Tryz.zeroValue316
  t55 := Tryz.underlying245
  a55 := Tryz.isAgg245
  z55 := Tryz.sizeOf245
  v55 := Tryz.zeroValue245
  t66 := Tryz.underlying327
  a66 := Tryz.isAgg327
  z66 := Tryz.sizeOf327
  v66 := Tryz.zeroValue327
  t70 := Tryz.underlying331
  a70 := Tryz.isAgg331
  z70 := Tryz.sizeOf331
  v70 := Tryz.zeroValue331
  t76 := Tryz.underlying343
  a76 := Tryz.isAgg343
  z76 := Tryz.sizeOf343
  v76 := Tryz.zeroValue343
  t77 := Tryz.underlying215
  a77 := Tryz.isAgg215
  z77 := Tryz.sizeOf215
  v77 := Tryz.zeroValue215 }
end Go.Proofs

/-
  slices.SortFunc by zone.Cmp at a row of the run's own; slices.SortedFunc over slices.Values.
-/
namespace Go.Proofs.YtjbhpfmnfdebkaaGreat
set_option linter.unusedVariables false
set_option linter.unusedSimpArgs false
set_option maxRecDepth 100000
open Go.RowKit Go.Proofs.YtjbhpfmnfdebkaaGreat.Eng Enc Go.Shelf Go.Sort

namespace Zo
instance inhZn : Inhabited Zn := ⟨⟨0, 0, 0, 0, 0, 0⟩⟩
def Lt (x y : Zn) : Prop := x.a < y.a ∨ x.a = y.a ∧ (x.b < y.b ∨ x.b = y.b ∧ (x.c < y.c ∨ x.c = y.c ∧ (x.d < y.d ∨ x.d = y.d ∧ (x.e < y.e ∨ x.e = y.e ∧ (x.f < y.f ∨ x.f = y.f ∧ False)))))
theorem cmpI_lt (x y : Int) : cmpI x y < 0 ↔ x < y := by unfold cmpI; split <;> (try split) <;> omega
theorem cmpI_eq (x y : Int) : cmpI x y = 0 ↔ x = y := by unfold cmpI; split <;> (try split) <;> omega
theorem step_lt {x y c : Int} {P : Prop} (h : c < 0 ↔ P) : (if cmpI x y ≠ 0 then cmpI x y else c) < 0 ↔ (x < y ∨ x = y ∧ P) := by
  have h1 := cmpI_lt x y
  have h2 := cmpI_eq x y
  by_cases hc : cmpI x y = 0
  · rw [if_neg (by simp [hc]), h]
    have := h2.1 hc
    constructor
    · intro hp; exact .inr ⟨this, hp⟩
    · rintro (hl | ⟨_, hp⟩)
      · omega
      · exact hp
  · rw [if_pos hc, h1]
    constructor
    · exact .inl
    · rintro (hl | ⟨he, _⟩)
      · exact hl
      · exact absurd (h2.2 he) hc
theorem cmp_lt (x y : Zn) : cmp x y < 0 ↔ Lt x y := by
  unfold cmp Lt
  exact step_lt (step_lt (step_lt (step_lt (step_lt (step_lt (by simp))))))
theorem lex_trans {x y z : Int} {P Q R : Prop} (h : P → Q → R) : (x < y ∨ x = y ∧ P) → (y < z ∨ y = z ∧ Q) → (x < z ∨ x = z ∧ R) := by
  rintro (h1 | ⟨h1, hp⟩) (h2 | ⟨h2, hq⟩)
  · left; omega
  · left; omega
  · left; omega
  · right; exact ⟨by omega, h hp hq⟩
theorem lex_ntrans {x y z : Int} {P Q R : Prop} (h : ¬ P → ¬ Q → ¬ R) : ¬ (x < y ∨ x = y ∧ P) → ¬ (y < z ∨ y = z ∧ Q) → ¬ (x < z ∨ x = z ∧ R) := by
  intro h1 h2
  have a1 : ¬ x < y := fun h => h1 (.inl h)
  have a2 : ¬ y < z := fun h => h2 (.inl h)
  rintro (h3 | ⟨h3, hr⟩)
  · omega
  · have e1 : x = y := by omega
    have e2 : y = z := by omega
    exact h (fun hp => h1 (.inr ⟨e1, hp⟩)) (fun hq => h2 (.inr ⟨e2, hq⟩)) hr
theorem lex_tot {x y : Int} {P Q E : Prop} (h : ¬ P → ¬ Q → E) : ¬ (x < y ∨ x = y ∧ P) → ¬ (y < x ∨ y = x ∧ Q) → x = y ∧ E := by
  intro h1 h2
  have a1 : ¬ x < y := fun h => h1 (.inl h)
  have a2 : ¬ y < x := fun h => h2 (.inl h)
  have e1 : x = y := by omega
  exact ⟨e1, h (fun hp => h1 (.inr ⟨e1, hp⟩)) (fun hq => h2 (.inr ⟨e1.symm, hq⟩))⟩
theorem Lt.irrefl (x : Zn) : ¬ Lt x x := by unfold Lt; simp
theorem Lt.trans {x y z : Zn} : Lt x y → Lt y z → Lt x z := by
  unfold Lt
  exact lex_trans (lex_trans (lex_trans (lex_trans (lex_trans (lex_trans fun h _ => h)))))
theorem Lt.ntrans {x y z : Zn} : ¬ Lt x y → ¬ Lt y z → ¬ Lt x z := by
  unfold Lt
  exact lex_ntrans (lex_ntrans (lex_ntrans (lex_ntrans (lex_ntrans (lex_ntrans fun h _ => h)))))
theorem Lt.tot {x y : Zn} (h1 : ¬ Lt x y) (h2 : ¬ Lt y x) : x = y := by
  unfold Lt at h1 h2
  obtain ⟨e1, e2, e3, e4, e5, e6, _⟩ := lex_tot (lex_tot (lex_tot (lex_tot (lex_tot (lex_tot (E := True) fun _ _ => trivial))))) h1 h2
  cases x; cases y; simp_all
theorem lt_iff (x y : Zn) : ltOf cmp x y = true ↔ Lt x y := by unfold ltOf; simp [cmp_lt]
theorem lt_niff (x y : Zn) : ltOf cmp x y = false ↔ ¬ Lt x y := by unfold ltOf; simp [← cmp_lt]
theorem swo : SWO (ltOf cmp) where
  irrefl x := (lt_niff x x).2 (Lt.irrefl x)
  trans x y z h1 h2 := (lt_iff x z).2 (((lt_iff x y).1 h1).trans ((lt_iff y z).1 h2))
  ntrans x y z h1 h2 := (lt_niff x z).2 (Lt.ntrans ((lt_niff x y).1 h1) ((lt_niff y z).1 h2))
theorem tot (x y : Zn) (h1 : ltOf cmp x y = false) (h2 : ltOf cmp y x = false) : x = y := Lt.tot ((lt_niff x y).1 h1) ((lt_niff y x).1 h2)
def sort (l : List Zn) : List Zn := l.mergeSort fun x y => !(ltOf cmp) y x
theorem sort_len (l : List Zn) : (sort l).length = l.length := List.length_mergeSort _
theorem sort_perm (l : List Zn) : (sort l).Perm l := List.mergeSort_perm l _
theorem sort_sorted (l : List Zn) : (sort l).Pairwise fun x y => ¬ Lt y x := by
  have h := List.pairwise_mergeSort (le := fun x y => !(ltOf cmp) y x) (fun x y z h1 h2 => by
    simp only [Bool.not_eq_eq_eq_not, Bool.not_true] at *
    exact (lt_niff z x).2 (Lt.ntrans ((lt_niff z y).1 h2) ((lt_niff y x).1 h1))) (fun x y => by
    simp only [Bool.or_eq_true, Bool.not_eq_eq_eq_not, Bool.not_true]
    by_cases h : Lt y x
    · exact .inr ((lt_niff x y).2 fun k => Lt.irrefl _ (h.trans k))
    · exact .inl ((lt_niff y x).2 h)) l
  refine h.imp fun {x y} hxy => ?_
  simp only [Bool.not_eq_eq_eq_not, Bool.not_true] at hxy
  exact (lt_niff y x).1 hxy
end Zo

theorem zcmpLays (blk off size : Nat) (w : World) : CmpLays Tryz.prog 213 #[] (Enc.enc (α := Zn)) 6 Zo.cmp blk off size w := fun m os dk _ x y => by
  refine (zcmp_at x y (sortWorldK Enc.enc 6 w blk off m dk os)).mono ?_
  rintro e w' ⟨rfl, q, os', rfl⟩
  exact ⟨rfl, q, os', rfl⟩

theorem flat_list {α : Type} [Enc α] [Inhabited α] (l : List α) : (flatK Enc.enc (size α) l.toArray).toList = cellsL l := by
  have h1 : (flatK (Enc.enc (α := α)) (size α) l.toArray).size = l.length * size α := by simp
  apply List.ext_getElem?
  intro t
  by_cases ht : t < l.length * size α
  · have hp : 0 < size α := Enc.pos
    have hd : t / size α < l.length := (Nat.div_lt_iff_lt_mul hp).2 ht
    have hm : t % size α < size α := Nat.mod_lt _ hp
    have h2 := get_flatK (Enc.enc (α := α)) (size α) l.toArray t (by simpa using ht)
    rw [getElem!_pos _ t (by rw [h1]; exact ht)] at h2
    rw [Array.getElem?_toList, Array.getElem?_eq_getElem (by rw [h1]; exact ht), h2]
    have e1 : l.toArray[t / size α]! = l[t / size α] := by rw [getElem!_pos _ _ (by simpa using hd)]; simp
    rw [e1]
    have hc := cellsL_get l (List.getElem?_eq_getElem hd) (i := t % size α) (c := (Enc.enc l[t / size α])[t % size α]!) (by rw [getElem!_pos _ _ (by rw [Enc.len]; exact hm)]; exact List.getElem?_eq_getElem _)
    rw [← hc]
    congr 1
    rw [Nat.mul_comm]; exact Nat.div_add_mod t (size α)
  · rw [List.getElem?_eq_none (by rw [Array.length_toList, h1]; omega), List.getElem?_eq_none (by rw [cellsL_len]; omega)]
theorem heap_sortedA {w : World} {g n : Nat} {os : Array Obj} {cur : Array Value} {e : TypeId} {fr : Nat × Nat} (d : Array Value) (hb : w.heap[g]? = some (.cells cur e fr)) :
    (grow (putRow id (Sort.ahead w n) g 0 d) os).heap[g]? = some (.cells (putCells id 0 d cur) e fr) := by
  have hg : g < w.heap.size := (Array.getElem?_eq_some_iff.1 hb).1
  rw [heap_grow_old _ _ (by simpa using hg)]
  simp [putRow, mapBlock, Sort.ahead, Array.getElem?_modify, hb, onCells]
theorem grownBy_sortedA {w : World} {g n : Nat} {os : Array Obj} (d : Array Value) : w.grownBy (grow (putRow id (Sort.ahead w n) g 0 d) os) (some g) := by
  refine ⟨rfl, rfl, rfl, by simp, fun k hk hne => ?_⟩
  rw [heap_grow_old _ _ (by simpa using hk)]
  have : g ≠ k := fun e => hne (by rw [e])
  simp [putRow, mapBlock, Sort.ahead, Array.getElem?_modify, this]
theorem take_putCellsA (cur d : Array Value) (h : d.size ≤ cur.size) : (putCells id 0 d cur).toList.take d.size = d.toList := by
  apply List.ext_getElem?
  intro j
  by_cases hj : j < d.size
  · rw [List.getElem?_take_of_lt hj, Array.getElem?_toList]
    simp [putCells, hj, show j < cur.size by omega]
  · rw [List.getElem?_take_eq_none (by omega), List.getElem?_eq_none (by simp; omega)]
theorem holds_flat {w : World} {g : Nat} {cur d : Array Value} {e : TypeId} (hb : w.heap[g]? = some (.cells cur e (0, 0))) (ht : cur.toList.take d.size = d.toList) : Holds id w g 0 d := by
  intro j hj
  refine ⟨?_, by simp [World.frozen?, hb]⟩
  have h1 : (cur.toList.take d.size)[j]? = d.toList[j]? := by rw [ht]
  rw [List.getElem?_take_of_lt hj] at h1
  simp only [World.cell?, hb, Nat.zero_add]
  simp only [Option.isSome_none, Bool.false_eq_true, if_false]
  rw [← Array.getElem?_toList, h1]
  simp [hj]

/-- slices.SortFunc by zone.Cmp, at a row of the run's own. -/
theorem sortZ_own (base : Nat) (v : Value) (l : List Zn) (hl : l.length ≤ 1000000) (w : World) (hO : Own 104 base w v l) :
    Calls Tryz.prog 257 #[v, .func (.func 213) #[] #[]] w fun e w' => e = .returned (.tuple #[]) ∧ Own 104 base w' v (Zo.sort l) ∧ w.grownBy w' v.ownBlock := by
  obtain ⟨hc, ⟨rfl, h0⟩ | ⟨g, cap, cur, rfl, hb, hg, hn, hm, hs, ht⟩⟩ := id hO
  · obtain rfl := List.eq_nil_of_length_eq_zero h0
    refine (AnyF.slices_SortFunc_none Tryz.sortZ none 0 _ w).mono ?_
    rintro e w' ⟨rfl, rfl⟩
    exact ⟨rfl, by rw [show Zo.sort [] = [] by simp [Zo.sort]]; exact hO, rfl, rfl, rfl, Nat.le_refl _, fun _ _ _ => rfl⟩
  · have hf := flat_list l
    have hfs : (flatK (Enc.enc (α := Zn)) 6 l.toArray).size = l.length * 6 := by simp
    have hH : HoldsK (Enc.enc (α := Zn)) 6 w g 0 l.toArray := holds_flat hg (by rw [hfs]; exact ht.trans hf.symm)
    refine (AnyQ.slices_SortFunc_total Tryz.sortZ 6 Tryz.isAgg104 Tryz.sizeOf104 (Enc.enc (α := Zn)) (fun x => rfl) (fun x v hv => Enc.one x v hv) Zo.cmp Zo.swo 213 #[] g 0 cap l.toArray w Tryz.call213 (zcmpLays g 0 _ w) hH (Array.getElem?_eq_some_iff.1 hg).1 (by simp; omega) Zo.tot).mono ?_
    rintro e w' ⟨rfl, n, os, rfl⟩
    have hlen : (Zo.sort l).length = l.length := Zo.sort_len l
    refine ⟨rfl, ?_, grownBy_sortedA _⟩
    have hf2 := flat_list (Zo.sort l)
    have hfs2 : (flatK (Enc.enc (α := Zn)) 6 (Zo.sort l).toArray).size = l.length * 6 := by simp [hlen]
    have hsz : cur.size = cap * 6 := hs
    refine ⟨by rw [cellsL_len, hlen], .inr ⟨g, cap, _, by rw [hlen], hb, heap_sortedA _ hg, by rw [hlen]; exact hn, hm, ?_, ?_⟩⟩
    · rw [show size Zn = 6 from rfl, ← hsz]; simp [putCells]
    · rw [hlen, ← hf2]
      have h6 := take_putCellsA cur (flatK (Enc.enc (α := Zn)) 6 (Zo.sort l).toArray) (by rw [hfs2, hsz]; omega)
      rw [hfs2] at h6
      exact h6

theorem sortedZ_any (Bs : Nat) (a : Option Addr) (cap : Nat) (zs : List Zn) (hlen : zs.length ≤ 1000000) (w : World) (hc : w.cell? ⟨Bs, 0, none⟩ = some (.slice a zs.length cap)) (hS : Sl w.heap.size w (.slice a zs.length cap) zs) :
    Calls Tryz.prog 211 #[.func (.func 258) #[] #[.pointer (some ⟨Bs, 0, none⟩)], .func (.func 213) #[] #[]] w fun e w' => ∃ v, e = .returned v ∧ Below Bs w w' ∧ Own 104 w.heap.size w' v (Zo.sort zs) := by
  have hBs : Bs < w.heap.size := World.block_lt_of_cell? _ _ hc
  refine fun_at 0 Bs w (Nat.le_of_lt hBs) Tryz.func211 (args := [.val (.func (.func 258) #[] #[.pointer (some ⟨Bs, 0, none⟩)]), .val (.func (.func 213) #[] #[])]) rfl rfl ?_
  refine CallI.mk fun w1 h1 => ?_
  have hg1 : Below w.heap.size w w1 := h1.go
  refine (collectZ_any Bs a cap zs hlen w1 ((hg1.cell (p := ⟨Bs, 0, none⟩) hBs).trans hc) (hS.go hg1 hg1.size)).mono ?_
  rintro e w2 ⟨v, rfl, hB2, hO⟩
  refine ⟨⟨hB2, by simp⟩, _, rfl, ?_⟩
  obtain ⟨a', c', rfl⟩ := hO.form
  refine CallI.mk fun w3 h3 => (sortZ_own w1.heap.size _ zs hlen w3 (hO.at h3 (by simp))).mono ?_
  rintro e w4 ⟨rfl, hO4, hg⟩
  have hlen2 : (Zo.sort zs).length = zs.length := Zo.sort_len zs
  refine ⟨keep_grown h3 hg fun k hk => ⟨by have h5 := (hO.lt k hk).1; have := hg1.size; show Bs ≤ k; omega, by simp⟩, _, rfl, ?_⟩
  exact EndI.mk fun w5 h5 => (hO4.at h5 (by simp)).lower hg1.size
end Go.Proofs.YtjbhpfmnfdebkaaGreat

/-
  Of zones that follow one another and are the same, one: the plain law of slices.Compact.
-/
namespace Go.Proofs.YtjbhpfmnfdebkaaGreat
set_option linter.unusedVariables false
set_option linter.unusedSimpArgs false
namespace Cv
/-- each of those that follow one another once. -/
def cpt : List Zn → List Zn
  | [] => []
  | x :: l => if l.head? = some x then cpt l else x :: cpt l
theorem cpt_cons (x : Zn) (l : List Zn) : cpt (x :: l) = if l.head? = some x then cpt l else x :: cpt l := rfl
theorem cpt_mem (l : List Zn) (x : Zn) : x ∈ cpt l ↔ x ∈ l := by
  induction l with
  | nil => simp [cpt]
  | cons y l ih =>
    rw [cpt_cons, List.mem_cons, ← ih]
    split
    · rename_i h
      have hy : y ∈ l := List.mem_of_mem_head? (by rw [h]; rfl)
      constructor
      · exact .inr
      · rintro (rfl | h2)
        · exact ih.2 hy
        · exact h2
    · rw [List.mem_cons]
theorem cpt_len (l : List Zn) : (cpt l).length ≤ l.length := by
  induction l with
  | nil => simp [cpt]
  | cons x l ih => rw [cpt_cons]; split <;> simp only [List.length_cons] <;> omega
theorem cpt_snoc (p : List Zn) (y x : Zn) : cpt (p ++ [y] ++ [x]) = if x = y then cpt (p ++ [y]) else cpt (p ++ [y]) ++ [x] := by
  induction p with
  | nil =>
    simp only [List.nil_append, List.cons_append, cpt_cons, List.head?_cons, List.head?_nil, Option.some.injEq]
    by_cases h : x = y
    · subst h; simp [cpt]
    · simp [h, cpt]
  | cons a p ih =>
    simp only [List.cons_append, cpt_cons]
    have hh : (p ++ [y] ++ [x]).head? = (p ++ [y]).head? := by cases p <;> rfl
    rw [hh, ih]
    split <;> split <;> simp_all
theorem cpt_step {l : List Zn} {k : Nat} {x y : Zn} (hy : l[k]? = some y) (hx : l[k + 1]? = some x) : cpt (l.take (k + 2)) = if x = y then cpt (l.take (k + 1)) else cpt (l.take (k + 1)) ++ [x] := by
  have e1 : l.take (k + 1) = l.take k ++ [y] := by rw [List.take_add_one, hy]; rfl
  have e2 : l.take (k + 2) = l.take k ++ [y] ++ [x] := by rw [show k + 2 = k + 1 + 1 from rfl, List.take_add_one, hx, e1]; rfl
  rw [e1, e2, cpt_snoc]
theorem cpt_all {l : List Zn} (h : ∀ k x y, l[k]? = some y → l[k + 1]? = some x → x ≠ y) : cpt l = l := by
  induction l with
  | nil => rfl
  | cons a l ih =>
    rw [cpt_cons, ih fun k x y hy hx => h (k + 1) x y hy hx]
    split
    · rename_i hh
      cases l with
      | nil => cases hh
      | cons b l => simp at hh; exact absurd hh (h 0 b a rfl rfl)
    · rfl
end Cv
end Go.Proofs.YtjbhpfmnfdebkaaGreat

/-
  What is wanted of zones: sorted, each once, without those that the others cover; the plain laws.
-/
namespace Go.Proofs.YtjbhpfmnfdebkaaGreat
set_option linter.unusedVariables false
set_option linter.unusedSimpArgs false
open Go.RowKit Go.Proofs.YtjbhpfmnfdebkaaGreat.Eng Enc
namespace Cv
open Mi Zo
theorem cpt_strict {l : List Zn} (h : l.Pairwise fun x y => ¬ Lt y x) : (cpt l).Pairwise Lt := by
  induction l with
  | nil => simp [cpt]
  | cons x l ih =>
    rw [List.pairwise_cons] at h
    have h2 := ih h.2
    rw [cpt_cons]
    split
    · exact h2
    · rename_i hne
      rw [List.pairwise_cons]
      refine ⟨fun z hz => ?_, h2⟩
      have hz' := (cpt_mem l z).1 hz
      cases l with
      | nil => simp at hz'
      | cons y m =>
        have hyx : y ≠ x := fun e => hne (by simp [e])
        have hxy : Lt x y := by
          have h3 := h.1 y (by simp)
          apply Classical.byContradiction
          intro h4
          exact hyx (Lt.tot h3 h4)
        rcases List.mem_cons.1 hz' with rfl | hz'
        · exact hxy
        · have h5 := (List.pairwise_cons.1 h.2).1 z hz'
          apply Classical.byContradiction
          intro h6
          exact Lt.ntrans h6 h5 hxy
theorem strict_eq : ∀ {l m : List Zn}, l.Pairwise Lt → m.Pairwise Lt → (∀ x, x ∈ l ↔ x ∈ m) → l = m
  | [], [], _, _, _ => rfl
  | [], y :: m, _, _, h => by have := (h y).2 (by simp); simp at this
  | x :: l, [], _, _, h => by have := (h x).1 (by simp); simp at this
  | x :: l, y :: m, hl, hm, h => by
    rw [List.pairwise_cons] at hl hm
    have e : x = y := by
      rcases List.mem_cons.1 ((h x).1 (by simp)) with e | hx
      · exact e
      · rcases List.mem_cons.1 ((h y).2 (by simp)) with e | hy
        · exact e.symm
        · exact absurd ((hl.1 y hy).trans (hm.1 x hx)) (Lt.irrefl x)
    subst e
    congr 1
    refine strict_eq hl.2 hm.2 fun z => ?_
    constructor
    · intro hz
      rcases List.mem_cons.1 ((h z).1 (by simp [hz])) with rfl | hz'
      · exact absurd (hl.1 z hz) (Lt.irrefl z)
      · exact hz'
    · intro hz
      rcases List.mem_cons.1 ((h z).2 (by simp [hz])) with rfl | hz'
      · exact absurd (hm.1 z hz) (Lt.irrefl z)
      · exact hz'
def sorted (l : List Zn) : List Zn := cpt (sort l)
theorem sorted_strict (l : List Zn) : (sorted l).Pairwise Lt := cpt_strict (sort_sorted l)
theorem sorted_mem (l : List Zn) (x : Zn) : x ∈ sorted l ↔ x ∈ l := (cpt_mem _ x).trans (sort_perm l).mem_iff
theorem sorted_self {l : List Zn} (h : l.Pairwise Lt) : sorted l = l := strict_eq (sorted_strict l) h (sorted_mem l)
theorem sorted_len (l : List Zn) : (sorted l).length ≤ l.length := by
  have := cpt_len (sort l); rw [sort_len] at this; exact this
/-- those that the others cover go, from behind. -/
def pgo : Nat → List Zn → List Zn × Int
  | 0, out => (out, 0)
  | i + 1, out => match out[i]? with
    | none => (out, 0)
    | some z => if (in_ z (out.eraseIdx i)).2 ≠ 0 then ([], (in_ z (out.eraseIdx i)).2) else if (in_ z (out.eraseIdx i)).1 = true then pgo i (out.eraseIdx i) else pgo i out
theorem pgo_succ {i : Nat} {out : List Zn} {z : Zn} (h : out[i]? = some z) : pgo (i + 1) out = if (in_ z (out.eraseIdx i)).2 ≠ 0 then ([], (in_ z (out.eraseIdx i)).2) else if (in_ z (out.eraseIdx i)).1 = true then pgo i (out.eraseIdx i) else pgo i out := by
  rw [pgo, h]
def prune (l : List Zn) : List Zn × Int := if checked [l] ≠ 0 then ([], checked [l]) else pgo (sorted l).length (sorted l)
theorem prune_order {l m : List Zn} (h : ∀ x, x ∈ l ↔ x ∈ m) (hl : l.length ≤ 4096) (hm : m.length ≤ 4096) : prune l = prune m := by
  have e1 : sorted l = sorted m := strict_eq (sorted_strict l) (sorted_strict m) fun x => by rw [sorted_mem, sorted_mem]; exact h x
  have e2 : l.any odd = m.any odd := by
    rw [Bool.eq_iff_iff, List.any_eq_true, List.any_eq_true]
    exact ⟨fun ⟨x, hx, hp⟩ => ⟨x, (h x).1 hx, hp⟩, fun ⟨x, hx, hp⟩ => ⟨x, (h x).2 hx, hp⟩⟩
  have e3 : checked [l] = checked [m] := by
    unfold checked
    have d1 : decide (4096 < l.length) = false := by simp; omega
    have d2 : decide (4096 < m.length) = false := by simp; omega
    by_cases ho : m.any odd = true <;> simp only [List.any_cons, List.any_nil, d1, d2, e2, ho, if_pos, if_neg] <;> rfl
  unfold prune
  rw [e3, e1]
/-- no one from a place on is covered by the others. -/
def Bare (n : Nat) (out : List Zn) : Prop := ∀ j z, n ≤ j → out[j]? = some z → ¬ Cov z (out.eraseIdx j)
theorem mem_erase {l : List Zn} {i : Nat} {x : Zn} : x ∈ l.eraseIdx i ↔ ∃ j, j ≠ i ∧ l[j]? = some x := by
  rw [List.mem_eraseIdx_iff_getElem?]
theorem pgo_ok {n : Nat} : ∀ {out : List Zn}, n ≤ out.length → (pgo n out).2 = 0 → Bare n out → (∀ z, z ∈ out → Zo.chk z = 0) → (pgo n out).1.Sublist out ∧ Bare 0 (pgo n out).1 ∧ ∀ t, (∃ b, b ∈ out ∧ Fz b t) → ∃ b, b ∈ (pgo n out).1 ∧ Fz b t := by
  induction n with
  | zero => intro out _ _ hb _; exact ⟨List.Sublist.refl _, hb, fun t h => h⟩
  | succ i ih =>
    intro out hn h hb hc
    have ho := List.getElem?_eq_getElem (l := out) (i := i) (by omega)
    generalize out[i] = z at ho
    rw [pgo_succ ho] at h ⊢
    by_cases h1 : (in_ z (out.eraseIdx i)).2 ≠ 0
    · rw [if_pos h1] at h; exact absurd h h1
    rw [if_neg h1] at h ⊢
    obtain ⟨_, _, hcov⟩ := in_ok (z := z) (l := out.eraseIdx i) (by simpa using h1)
    by_cases h2 : (in_ z (out.eraseIdx i)).1 = true
    · rw [if_pos h2] at h ⊢
      have hsub := List.eraseIdx_sublist out i
      have hbare : Bare i (out.eraseIdx i) := fun j x hj hx hcv => by
        have hx' : out[j + 1]? = some x := by
          rw [List.getElem?_eraseIdx] at hx
          rwa [if_neg (by omega)] at hx
        refine hb (j + 1) x (by omega) hx' (hcv.mono fun y hy => ?_)
        obtain ⟨q, hq, hqy⟩ := mem_erase.1 hy
        rw [List.getElem?_eraseIdx] at hqy
        split at hqy
        · exact mem_erase.2 ⟨q, by omega, hqy⟩
        · exact mem_erase.2 ⟨q + 1, by omega, hqy⟩
      obtain ⟨k1, k2, k3⟩ := ih (out := out.eraseIdx i) (by rw [List.length_eraseIdx]; split <;> omega) h hbare (fun x hx => hc x (hsub.mem hx))
      refine ⟨k1.trans hsub, k2, fun t ht => k3 t ?_⟩
      obtain ⟨b, hb1, hb2⟩ := ht
      obtain ⟨j, hj⟩ := List.mem_iff_getElem?.1 hb1
      by_cases hji : j = i
      · subst hji
        rw [ho] at hj; injection hj with hj; subst hj
        exact hcov.1 h2 t hb2
      · exact ⟨b, mem_erase.2 ⟨j, hji, hj⟩, hb2⟩
    · rw [if_neg h2] at h ⊢
      refine ih (by omega) h (fun j x hj hx => ?_) hc
      by_cases hji : j = i
      · subst hji
        rw [ho] at hx; injection hx with hx; subst hx
        exact fun hcv => h2 (hcov.2 hcv)
      · exact hb j x (by omega) hx
theorem pgo_self {n : Nat} : ∀ {out : List Zn}, n ≤ out.length → (pgo n out).2 = 0 → Bare 0 out → pgo n out = (out, 0) := by
  induction n with
  | zero => intro out _ _ _; rfl
  | succ i ih =>
    intro out hn h hb
    have ho := List.getElem?_eq_getElem (l := out) (i := i) (by omega)
    generalize out[i] = z at ho
    rw [pgo_succ ho] at h ⊢
    by_cases h1 : (in_ z (out.eraseIdx i)).2 ≠ 0
    · rw [if_pos h1] at h; exact absurd h h1
    rw [if_neg h1] at h ⊢
    obtain ⟨_, _, hcov⟩ := in_ok (z := z) (l := out.eraseIdx i) (by simpa using h1)
    have h2 : ¬ (in_ z (out.eraseIdx i)).1 = true := fun h2 => hb i z (Nat.zero_le _) ho (hcov.1 h2)
    rw [if_neg h2] at h ⊢
    exact ih (by omega) h hb
theorem checked_one {l : List Zn} : checked [l] = 0 ↔ l.length ≤ 4096 ∧ ∀ z, z ∈ l → Zo.chk z = 0 := by
  unfold checked
  simp only [List.any_cons, List.any_nil, Bool.or_false, decide_eq_true_eq]
  by_cases h1 : 4096 < l.length
  · rw [if_pos h1]; constructor
    · intro h; cases h
    · intro h; omega
  · rw [if_neg h1]
    by_cases h2 : l.any odd = true
    · rw [if_pos h2]
      constructor
      · intro h; cases h
      · intro h
        obtain ⟨z, hz, ho⟩ := List.any_eq_true.1 h2
        simp [odd, h.2 z hz] at ho
    · rw [if_neg h2]
      refine ⟨fun _ => ⟨by omega, fun z hz => ?_⟩, fun _ => rfl⟩
      apply Classical.byContradiction
      intro h3
      exact h2 (List.any_eq_true.2 ⟨z, hz, by simpa [odd] using h3⟩)
/-- what is wanted: of the zones, in order, no one covered by the others, with the same points. -/
structure Wanted (l m : List Zn) : Prop where
  chk : ∀ z, z ∈ l → Zo.chk z = 0
  len : l.length ≤ 4096
  mem : ∀ z, z ∈ m → z ∈ l
  strict : m.Pairwise Lt
  bare : Bare 0 m
  pts : ∀ t, (∃ b, b ∈ l ∧ Fz b t) ↔ ∃ b, b ∈ m ∧ Fz b t
  mlen : m.length ≤ l.length
theorem prune_ok {l : List Zn} (h : (prune l).2 = 0) : Wanted l (prune l).1 := by
  unfold prune at h ⊢
  by_cases h1 : checked [l] ≠ 0
  · rw [if_pos h1] at h; exact absurd h h1
  rw [if_neg h1] at h ⊢
  obtain ⟨hl, hc⟩ := checked_one.1 (by simpa using h1)
  obtain ⟨k1, k2, k3⟩ := pgo_ok (Nat.le_refl _) h (fun j z hj hz => by have := (List.getElem?_eq_some_iff.1 hz).1; omega) (fun z hz => hc z ((sorted_mem l z).1 hz))
  have hmem : ∀ z, z ∈ (pgo (sorted l).length (sorted l)).1 → z ∈ l := fun z hz => (sorted_mem l z).1 (k1.mem hz)
  refine ⟨hc, hl, hmem, (sorted_strict l).sublist k1, k2, fun t => ⟨fun ⟨b, hb, hbt⟩ => k3 t ⟨b, (sorted_mem l b).2 hb, hbt⟩, fun ⟨b, hb, hbt⟩ => ⟨b, hmem b hb, hbt⟩⟩, Nat.le_trans k1.length_le (sorted_len l)⟩
theorem Wanted.again {l m : List Zn} (h : Wanted l m) (h2 : (prune m).2 = 0) : (prune m).1 = m := by
  unfold prune at h2 ⊢
  by_cases h1 : checked [m] ≠ 0
  · rw [if_pos h1] at h2; exact absurd h2 h1
  rw [if_neg h1] at h2 ⊢
  rw [sorted_self h.strict] at h2 ⊢
  rw [pgo_self (Nat.le_refl _) h2 h.bare]
end Cv
end Go.Proofs.YtjbhpfmnfdebkaaGreat

/-
  The plain law of CoverPrunes; what cover.All tells.
-/
namespace Go.Proofs.YtjbhpfmnfdebkaaGreat
set_option linter.unusedVariables false
set_option linter.unusedSimpArgs false
open Go.RowKit Go.Proofs.YtjbhpfmnfdebkaaGreat.Eng Enc
namespace Cv
open Mi Zo
def misses (b : List Zn) (z : Zn) : Bool := decide ((in_ z b).2 ≠ 0) || !(in_ z b).1
def allGo (b : List Zn) : List Zn → Bool × Int
  | [] => (true, 0)
  | z :: a => if misses b z = true then (false, (in_ z b).2) else allGo b a
def all_ (a b : List Zn) : Bool × Int := if checked [a, b] ≠ 0 then (false, checked [a, b]) else allGo b a
/-- the error of the last zone that was asked, of so many. -/
def told (b l : List Zn) : Nat → Int
  | 0 => 0
  | k + 1 => match l[k]? with | some z => (in_ z b).2 | none => 0
theorem allGo_eq (b : List Zn) : ∀ l, allGo b l = (!(l.any (misses b)), told b l (cntF (misses b) l))
  | [] => rfl
  | z :: a => by
    rw [allGo, List.any_cons, cntF]
    by_cases hm : misses b z = true
    · rw [if_pos hm, if_pos hm, hm]; rfl
    · rw [if_neg hm, if_neg hm, allGo_eq b a]
      have hm' : misses b z = false := by simpa using hm
      rw [hm', Bool.false_or]
      congr 1
      have he : (in_ z b).2 = 0 := by unfold misses at hm'; simp at hm'; exact hm'.1
      cases hc : cntF (misses b) a with
      | zero => simp [told, he]
      | succ k => simp [told]
theorem allGo_ok {b : List Zn} : ∀ {a : List Zn}, (allGo b a).2 = 0 → ((allGo b a).1 = true ↔ ∀ z, z ∈ a → Cov z b)
  | [], _ => by simp [allGo]
  | z :: a, h => by
    rw [allGo] at h ⊢
    by_cases hm : misses b z = true
    · rw [if_pos hm] at h ⊢
      simp only at h
      obtain ⟨_, _, hc⟩ := in_ok h
      constructor
      · intro h1; cases h1
      · intro hall
        have h1 := hc.2 (hall z (by simp))
        unfold misses at hm
        rw [h1, h] at hm
        simp at hm
    · rw [if_neg hm] at h ⊢
      have he : (in_ z b).2 = 0 ∧ (in_ z b).1 = true := by
        unfold misses at hm
        simpa using hm
      obtain ⟨_, _, hc⟩ := in_ok he.1
      rw [allGo_ok h]
      constructor
      · intro hall x hx
        rcases List.mem_cons.1 hx with rfl | hx
        · exact hc.1 he.2
        · exact hall x hx
      · exact fun hall x hx => hall x (by simp [hx])
theorem all_ok {a b : List Zn} (h : (all_ a b).2 = 0) : (all_ a b).1 = true ↔ ∀ z, z ∈ a → Cov z b := by
  unfold all_ at h ⊢
  by_cases h1 : checked [a, b] ≠ 0
  · rw [if_pos h1] at h; exact absurd h h1
  · rw [if_neg h1] at h ⊢; exact allGo_ok h
/-- what the law of what is wanted asks. -/
structure PrunesLaw (l : List Zn) (p : Pt) : Prop where
  among : (Cv.among l p).2 = true → (Cv.among (prune l).1 p).2 = true → (Cv.among l p).1 = (Cv.among (prune l).1 p).1
  order : ∀ i x y, (prune l).1[i]? = some x → (prune l).1[i + 1]? = some y → Zo.cmp x y < 0
  bare : ∀ i z, (prune l).1[i]? = some z → (in_ z ((prune l).1.take i ++ (prune l).1.drop (i + 1))).2 = 0 → (in_ z ((prune l).1.take i ++ (prune l).1.drop (i + 1))).1 = false
  all : (all_ l (prune l).1).2 = 0 → (all_ l (prune l).1).1 = true
  again : (prune (prune l).1).2 = 0 → (prune (prune l).1).1 = (prune l).1
end Cv
end Go.Proofs.YtjbhpfmnfdebkaaGreat

/-
  Small laws of worlds that grow; a row of zones whose cells are numbers, whatever they are.
-/
namespace Go.Proofs.YtjbhpfmnfdebkaaGreat
set_option linter.unusedVariables false
set_option linter.unusedSimpArgs false
open Go.RowKit Go.Proofs.YtjbhpfmnfdebkaaGreat.Eng Enc

theorem grown_belowM {n : Nat} {W w1 w2 : World} {row : Option Nat} (hB : Below n W w1) (hg : w1.grownBy w2 row) (hr : ∀ k, row = some k → n ≤ k) (hn : n ≤ w1.heap.size) : Below n W w2 :=
  ⟨hg.os.trans hB.os, hg.tape.trans hB.tape, hg.output.trans hB.output, Nat.le_trans hB.size hg.size, fun k hk => (hg.block k (Nat.lt_of_lt_of_le hk hn) (fun e => absurd (hr k e.symm) (Nat.not_le.2 hk))).trans (hB.block k hk)⟩
/-- a row of zones of the run's own, whose cells are numbers. -/
structure ZRow (W : World) (g cap n : Nat) : Prop where
  le : n ≤ cap
  max : cap ≤ maxLen
  row : ∃ cur : Array Value, W.heap[g]? = some (.cells cur TZ (0, 0)) ∧ cur.size = cap * 6 ∧ ∀ j, j < n * 6 → ∃ x, cur[j]? = some (.int .i64 x)
theorem cellsL_zn : ∀ (l : List Zn) (j : Nat), j < l.length * 6 → ∃ x, (cellsL l)[j]? = some (.int .i64 x)
  | [], j, h => by simp at h
  | z :: l, j, h => by
    have hlen : (enc z).length = 6 := rfl
    rw [List.length_cons] at h
    by_cases hj : j < 6
    · have : j = 0 ∨ j = 1 ∨ j = 2 ∨ j = 3 ∨ j = 4 ∨ j = 5 := by omega
      have hx : (cellsL (z :: l))[j]? = (enc z)[j]? := by
        show (enc z ++ cellsL l)[j]? = _
        rw [List.getElem?_append_left (by rw [hlen]; exact hj)]
      rw [hx]
      rcases this with rfl | rfl | rfl | rfl | rfl | rfl
      · exact ⟨z.a, rfl⟩
      · exact ⟨z.b, rfl⟩
      · exact ⟨z.c, rfl⟩
      · exact ⟨z.d, rfl⟩
      · exact ⟨z.e, rfl⟩
      · exact ⟨z.f, rfl⟩
    · obtain ⟨x, hx⟩ := cellsL_zn l (j - 6) (by omega)
      refine ⟨x, ?_⟩
      show (enc z ++ cellsL l)[j]? = _
      rw [List.getElem?_append_right (by rw [hlen]; omega), hlen]
      exact hx
theorem ZRow.of {base : Nat} {W : World} {g n cap : Nat} {l : List Zn} (h : Own TZ base W (.slice (some ⟨g, 0, none⟩) n cap) l) : ZRow W g cap n ∧ base ≤ g ∧ g < W.heap.size := by
  obtain ⟨rfl, hb, hlt, cur', hg, hn, hm, hs, ht⟩ := h.at0
  refine ⟨⟨hn, hm, cur', hg, hs, fun j hj => ?_⟩, hb, hlt⟩
  obtain ⟨x, hx⟩ := cellsL_zn l j hj
  refine ⟨x, ?_⟩
  have h1 : (cur'.toList.take (l.length * 6))[j]? = some (.int .i64 x) := by
    have : cur'.toList.take (l.length * size Zn) = cellsL l := ht
    rw [show l.length * 6 = l.length * size Zn from rfl, this]; exact hx
  rw [List.getElem?_take] at h1
  rw [if_pos hj] at h1
  rw [← h1, Array.getElem?_toList]
theorem ZRow.kept {W X : World} {g cap n : Nat} (h : ZRow W g cap n) (e : X.heap[g]? = W.heap[g]?) : ZRow X g cap n := by
  obtain ⟨a, b, cur, c⟩ := h
  exact ⟨a, b, cur, e.trans c.1, c.2⟩
theorem ZRow.lt {W : World} {g cap n : Nat} (h : ZRow W g cap n) : g < W.heap.size := by
  obtain ⟨_, _, cur, c, _⟩ := h
  exact (Array.getElem?_eq_some_iff.1 c).1
theorem ZRow.at {w0 : Base} {hp : List LB} {r L : List Nat} {w w1 : World} {g cap n : Nat} (h : ZRow w g cap n) (h1 : At w0 hp r L w w1) (hL : g ∉ L) : ZRow w1 g cap n := h.kept (h1.step g h.lt hL)
theorem ZRow.below {W X : World} {g cap n : Nat} (h : ZRow W g cap n) (hB : Below W.heap.size W X) : ZRow X g cap n := h.kept (hB.block _ h.lt)
theorem ZRow.cell {W : World} {g cap n : Nat} (h : ZRow W g cap n) {j : Nat} (hj : j < n * 6) : ∃ x, W.cell? ⟨g, j, none⟩ = some (.int .i64 x) := by
  obtain ⟨_, _, cur, c, _, d⟩ := h
  obtain ⟨x, hx⟩ := d j hj
  refine ⟨x, ?_⟩
  simp [World.cell?, c, hx]
theorem ZRow.frozen {W : World} {g cap n : Nat} (h : ZRow W g cap n) (j : Nat) : W.frozen? ⟨g, j, none⟩ = false := by
  obtain ⟨_, _, cur, c, _⟩ := h
  simp [World.frozen?, c]
theorem ZRow.set {W : World} {g cap n : Nat} (h : ZRow W g cap n) {j : Nat} (hj : j < n * 6) (x : Int) : ZRow (W.setCell ⟨g, j, none⟩ (.int .i64 x)) g cap n := by
  obtain ⟨a, b, cur, c, d, e⟩ := h
  refine ⟨a, b, cur.setIfInBounds j (.int .i64 x), ?_, by simp [d], fun i hi => ?_⟩
  · simp only [World.setCell]
    rw [Array.getElem?_modify, if_pos rfl, c]
    rfl
  · by_cases hij : i = j
    · subst hij
      refine ⟨x, ?_⟩
      have : i < cur.size := by rw [d]; have := Nat.mul_le_mul_right 6 a; omega
      simp [this]
    · obtain ⟨y, hy⟩ := e i hi
      refine ⟨y, ?_⟩
      rw [Array.getElem?_setIfInBounds_ne (fun h => hij h.symm)]; exact hy
theorem setCell_neM {W : World} {B o k : Nat} {u : Value} (h : k ≠ B) : (W.setCell ⟨B, o, none⟩ u).heap[k]? = W.heap[k]? := Below.heap_setCell _ _ _ _ (by simpa using h)
theorem at_belowM {w0 : Base} {hp : List LB} {r L : List Nat} {w w1 : World} (h : At w0 hp r L w w1) (hL : ∀ b, b ∈ L → w.heap.size ≤ b) : Below w.heap.size w w1 :=
  ⟨h.below.os.trans h.base.os.symm, h.below.tape.trans h.base.tape.symm, h.below.output.trans h.base.output.symm, h.size, fun k hk => h.step k hk fun hm => by have := hL k hm; omega⟩
theorem cell_oneM {W : World} {B : Nat} {v : Value} {t : TypeId} (h : W.heap[B]? = some (.cells #[v] t (0, 0))) : W.cell? ⟨B, 0, none⟩ = some v := by simp [World.cell?, h]
theorem lt_cellsM {W : World} {B : Nat} {o : Obj} (h : W.heap[B]? = some o) : B < W.heap.size := (Array.getElem?_eq_some_iff.1 h).1
end Go.Proofs.YtjbhpfmnfdebkaaGreat

/-
  DERIVED: THE SHELF's CONTRACTS AT THIS DUMP, IN PLAIN WORDS (tools/lay-plain.mjs out of 'YtjbhpfmnfdebkaaGreatShelf0.lean', which tools/lay-shelf.mjs wrote): THE SAME DECLARATIONS UNDER THE SAME NAMES: 'import', 'namespace', 'open', 'def', 'theorem' AND NOTHING ELSE: no command of the shelf's: FOR A HAND-IN. Each laying: the table of numbers ('.._ren') and one theorem, a field a fact of the dump's own or the kernel's comparison; each contract: ONE APPLICATION.
-/
namespace Go.Proofs
open Go.Shelf
end Go.Proofs

/-
  Sets of numbers, kept in maps that the call makes; their keys, rising.
-/
namespace Go.Proofs.YtjbhpfmnfdebkaaGreat
set_option linter.unusedVariables false
set_option linter.unusedSimpArgs false
set_option maxRecDepth 100000
open Go.RowKit Go.Proofs.YtjbhpfmnfdebkaaGreat.Eng Enc

abbrev TMi : TypeId := 115
abbrev TKi : TypeId := 3
theorem keyI : Maps.Keyed Tryz.prog TKi := Maps.int_keyed Tryz.underlying3
/-- block b is a set of numbers: those of which f says so; it has been written at most n times. -/
def MSet (W : World) (b n : Nat) (f : Int → Bool) : Prop :=
  ∃ D : DataW Unit, W.ownsMap Tryz.prog TKi (plainElem Tryz.prog TKi) b n D ∧ Maps.Tidy D ∧ ∀ x : Int, D.atKey (.int .i64 x) (.lit (.int .i64 0)) = .lit (.int .i64 (if f x = true then 1 else 0)) ∧ Maps.has D (.int .i64 x) = f x
theorem MSet.lt {W : World} {b n : Nat} {f : Int → Bool} (h : MSet W b n f) : b < W.heap.size := by
  obtain ⟨D, h1, _⟩ := h; exact h1.lt
theorem MSet.kept {W X : World} {b n : Nat} {f : Int → Bool} (h : MSet W b n f) (e : X.heap[b]? = W.heap[b]?) : MSet X b n f := by
  obtain ⟨D, ⟨es, clock, hb, F, hs, hD⟩, h2, h3⟩ := h
  exact ⟨D, ⟨es, clock, e.trans hb, F, hs, hD⟩, h2, h3⟩
theorem MSet.below {W X : World} {b n : Nat} {f : Int → Bool} (h : MSet W b n f) (hB : Below W.heap.size W X) : MSet X b n f := h.kept (hB.block b h.lt)
theorem MSet.at {w0 : Base} {hp : List LB} {r L : List Nat} {w w1 : World} {b n : Nat} {f : Int → Bool} (h : MSet w b n f) (h1 : At w0 hp r L w w1) (hL : b ∉ L) : MSet w1 b n f := h.kept (h1.step b h.lt hL)
theorem MSet.made (w : World) : MSet (w.alloc (.map #[] 0)) w.heap.size 0 (fun _ => false) :=
  ⟨.map [], World.ownsMap_made w _ _ _, Maps.tidy_empty, fun x => ⟨by simp [DataW.atKey], by simp [Maps.has_eq]⟩⟩
theorem MSet.put {W : World} {b n : Nat} {f : Int → Bool} (h : MSet W b n f) (x : Int) (hx : inK .i64 x) (hn : n < 1000000000) :
    ∃ W', (Instr.mapUpdate TMi (.map (some b)) (.int .i64 x) (.int .i64 1)).run Tryz.prog W = .ok () W' ∧ MSet W' b (n + 1) (fun y => f y || decide (y = x)) ∧ W.grownBy W' (some b) := by
  obtain ⟨D, h1, h2, h3⟩ := h
  have hw : (Lit.int .i64 x).wf = true := by simp only [inK] at hx; simp [Lit.wf, IntKind.min, IntKind.max, IntKind.bits, IntKind.signed]; omega
  have hk := Maps.keyOf_int_mk (P := Tryz.prog) (k := TKi) Tryz.underlying3 hw
  have hkl := keyI.key hk
  obtain ⟨W', hrun, ho, hg⟩ := h1.update (t := TMi) (e := TKi) keyI (by kernel_rfl) (by unfold maxLen; omega) hk (plainElem_int (H := Unit) (a := 1) Tryz.underlying3 (by decide))
  refine ⟨W', hrun, ⟨_, ho, h2.put hkl _, fun y => ?_⟩, hg⟩
  by_cases e : y = x
  · subst e
    rw [Maps.atKey_put_same h2.isMap hkl, Maps.has_put_same h2.isMap hkl]
    simp
  · have hne : (Lit.int .i64 y) ≠ (Lit.int .i64 x) := fun h => e (by injection h)
    rw [Maps.atKey_put_other hne, Maps.has_put_other hne, (h3 y).1, (h3 y).2]
    simp [e]
end Go.Proofs.YtjbhpfmnfdebkaaGreat

/-
  The contract of region.List, by the engine.
-/
namespace Go.Proofs.YtjbhpfmnfdebkaaGreat
set_option linter.unusedVariables false
set_option linter.unusedSimpArgs false
set_option maxRecDepth 100000
open Go.RowKit Go.Proofs.YtjbhpfmnfdebkaaGreat.Eng Enc

namespace Rg
/-- is a number a region's, and in its range? -/
def isR (long : Int) (x : Int) : Bool := decide (0 ≤ x) && decide (x < (many long).1) && (point x long).2
/-- is a region's point in one of some zones? -/
def inL (l : List Zn) (long : Int) (x : Int) : Bool := isR long x && l.any fun z => (Zo.has z (pt x long)).1
/-- the numbers of which p says so, rising. -/
def up (long : Int) (p : Int → Bool) : List Int := ((List.range (many long).1.toNat).filter fun n : Nat => p (n : Int)).map Int.ofNat
theorem mem_up {long : Int} {p : Int → Bool} (h : ∀ x, p x = true → 0 ≤ x ∧ x < (many long).1) (x : Int) : x ∈ up long p ↔ p x = true := by
  unfold up
  rw [List.mem_map]
  constructor
  · rintro ⟨k, hk, rfl⟩
    exact (List.mem_filter.1 hk).2
  · intro hx
    obtain ⟨h0, h1⟩ := h x hx
    refine ⟨x.toNat, List.mem_filter.2 ⟨List.mem_range.2 (by omega), ?_⟩, Int.toNat_of_nonneg h0⟩
    show p ((x.toNat : Nat) : Int) = true
    rw [Int.toNat_of_nonneg h0]; exact hx
def list (l : List Zn) (long : Int) : List Int × Int :=
  if (many long).2 ≠ 0 then ([], (many long).2) else if l.any (fun z => decide (Zo.chk z ≠ 0)) = true then ([], 8) else (up long (inL l long), 0)
end Rg
end Go.Proofs.YtjbhpfmnfdebkaaGreat

/-
  The document's answer of layer 14: numbers and points, by the engine.
-/
namespace Go.Proofs.YtjbhpfmnfdebkaaGreat
set_option linter.unusedVariables false
set_option linter.unusedSimpArgs false
set_option maxRecDepth 100000
open Go.RowKit Go.Proofs.YtjbhpfmnfdebkaaGreat.Eng Enc

theorem Rg.many_doc {long : Int} (hl : 1 ≤ long ∧ long ≤ 16) : Rg.many long = (3 * (2 * long + 1) * (2 * long + 1), 0) := by
  unfold Rg.many; rw [if_pos (Rg.fits_iff.2 hl)]; rfl
end Go.Proofs.YtjbhpfmnfdebkaaGreat

/-
  A region's zone by the document: what is gone through, case by case, in the texts ZonesR0 and on.
-/
namespace Go.Proofs.YtjbhpfmnfdebkaaGreat
open Go.RowKit Go.Proofs.YtjbhpfmnfdebkaaGreat.Eng Enc
namespace Rg
/-- a span's bounds, by the document. -/
def ab (s : Sp) : Int := if s.op = true then 9223372036854775807 else Bd.mk s.hi s.hs
def be (s : Sp) : Int := Bd.mk (0 - s.lo) s.ls
def raw (t u d : Sp) : Zn := ⟨ab t, be t, ab u, be u, ab d, be d⟩
end Rg
end Go.Proofs.YtjbhpfmnfdebkaaGreat

/-
  A region's zone by the document: the cases of some places.
-/
namespace Go.Proofs.YtjbhpfmnfdebkaaGreat
set_option maxRecDepth 100000
namespace Rg
end Rg
end Go.Proofs.YtjbhpfmnfdebkaaGreat

/-
  A region's zone by the document: the cases of some places.
-/
namespace Go.Proofs.YtjbhpfmnfdebkaaGreat
set_option maxRecDepth 100000
namespace Rg
end Rg
end Go.Proofs.YtjbhpfmnfdebkaaGreat

/-
  A region's zone by the document: the cases of some places.
-/
namespace Go.Proofs.YtjbhpfmnfdebkaaGreat
set_option maxRecDepth 100000
namespace Rg
end Rg
end Go.Proofs.YtjbhpfmnfdebkaaGreat

/-
  A region's zone by the document: the cases of some places.
-/
namespace Go.Proofs.YtjbhpfmnfdebkaaGreat
set_option maxRecDepth 100000
namespace Rg
end Rg
end Go.Proofs.YtjbhpfmnfdebkaaGreat

/-
  A region's zone by the document, of all places.
-/
namespace Go.Proofs.YtjbhpfmnfdebkaaGreat
set_option linter.unusedVariables false
namespace Rg
end Rg
end Go.Proofs.YtjbhpfmnfdebkaaGreat

/-
  The document's own closing: the least simple way between two clocks; it is the closing of XPlainDbm.
-/
namespace Go.Proofs.YtjbhpfmnfdebkaaGreat
set_option linter.unusedVariables false
set_option linter.unusedSimpArgs false
namespace Dbm
/-- is a clock among some (bits)? -/
def inS (S k : Nat) : Bool := decide (S / 2 ^ k % 2 = 1)
def skip (i j S k : Nat) : Bool := !(inS S k) || decide (k = i) || decide (k = j)
structure POk (N : Nat) (L : List Int) (i j S f : Nat) (v : Int) : Prop where
  lim : Dbm.lim 1152921504606846976 v
  wit : ∀ u, ob v = some u → ∃ mid : List Nat, mid.Nodup ∧ i ∉ mid ∧ j ∉ mid ∧ (∀ a, a ∈ mid → a < N ∧ inS S a = true) ∧ way (mx N L) (i :: (mid ++ [j])) = some u
  low : ∀ mid : List Nat, mid.Nodup → i ∉ mid → j ∉ mid → (∀ a, a ∈ mid → a < N ∧ inS S a = true) → mid.length ≤ f → ole (ob v) (way (mx N L) (i :: (mid ++ [j])))
section
variable {N : Nat} {L : List Int}
end
end Dbm
end Go.Proofs.YtjbhpfmnfdebkaaGreat

/-
  The document's own closing is the closing of XPlainDbm.
-/
namespace Go.Proofs.YtjbhpfmnfdebkaaGreat
set_option linter.unusedVariables false
set_option linter.unusedSimpArgs false
namespace Dbm
end Dbm
end Go.Proofs.YtjbhpfmnfdebkaaGreat

/-
  The document's own closing is the closing of XPlainDbm: both ways.
-/
namespace Go.Proofs.YtjbhpfmnfdebkaaGreat
set_option linter.unusedVariables false
set_option linter.unusedSimpArgs false
namespace Dbm
section
variable {N : Nat} {L : List Int}
end
end Dbm
end Go.Proofs.YtjbhpfmnfdebkaaGreat

/-
  The contract of rallentandoref01.May at every number.
-/
namespace Go.Proofs.YtjbhpfmnfdebkaaGreat
set_option linter.unusedVariables false
open Go.RowKit

end Go.Proofs.YtjbhpfmnfdebkaaGreat

/-
  The contracts of the reference of chapter 2 (rallentandoref02), at every bound that is an int64, and every number.
-/
namespace Go.Proofs.YtjbhpfmnfdebkaaGreat
set_option linter.unusedVariables false
open Go.RowKit

theorem tmod2_even {b : Int} (h : b % 2 = 0) : b.tmod 2 = 0 := Int.tmod_eq_zero_of_dvd (Int.dvd_of_emod_eq_zero h)
theorem tmod2_odd {b : Int} (h : ¬ b % 2 = 0) : (b.tmod 2 == 0) = false := by
  simp only [beq_eq_false_iff_ne, ne_eq]
  intro e
  exact h (Int.emod_eq_zero_of_dvd (Int.dvd_of_tmod_eq_zero e))
theorem tdiv2_even {b : Int} (h : b % 2 = 0) : b.tdiv 2 = b / 2 := by
  obtain ⟨k, rfl⟩ := Int.dvd_of_emod_eq_zero h
  rw [Int.mul_tdiv_cancel_left _ (by decide), Int.mul_ediv_cancel_left _ (by decide)]

theorem rnumber_any (b : Int) (hlo : -9223372036854775808 ≤ b) (hhi : b ≤ 9223372036854775807) (w : World) :
    Calls Tryz.prog 95 #[.int .i64 b] w fun e w' => e = .returned (.int .i64 (b / 2)) ∧ w = w' := by
  by_cases h : b % 2 = 0
  · have h1 := tmod2_even h
    have h2 := Lib.hid (tdiv2_even h)
    clear h
    go_enter Tryz.func95, Tryz.ntmps95
    go_wp2
    go_ret
    exact ⟨ret_int h2.out, rfl⟩
  · have h1 := tmod2_odd h
    have h3 : (b.tmod 2 != 0) = true := by simp only [bne, h1]; rfl
    have h2 := Lib.hid (show (b - 1).tdiv 2 = b / 2 by rw [tdiv2_even (by omega)]; omega)
    have h4 : -9223372036854775808 ≤ b - 1 := by omega
    clear h
    go_enter Tryz.func95, Tryz.ntmps95
    go_wp2
    go_ret
    exact ⟨ret_int h2.out, rfl⟩

/-- Sum: the sum, and whether it may be, of two bounds that may be. -/
def Bd.sum (a b : Int) : Int × Bool :=
  if a = 9223372036854775807 ∨ b = 9223372036854775807 then (9223372036854775807, true) else if Num.okB (a / 2 + b / 2) then (Bd.mk (a / 2 + b / 2) (Bd.st a || Bd.st b), true) else (0, false)

end Go.Proofs.YtjbhpfmnfdebkaaGreat

/-
  The document's answer of layer 4, by the engine: May, path, Closed.
-/
namespace Go.Proofs.YtjbhpfmnfdebkaaGreat
set_option linter.unusedVariables false
set_option linter.unusedSimpArgs false
set_option maxRecDepth 100000
open Go.RowKit Go.Proofs.YtjbhpfmnfdebkaaGreat.Eng Enc

namespace Dbm
def int64 (b : Int) : Prop := -9223372036854775808 ≤ b ∧ b ≤ 9223372036854775807
end Dbm
theorem atB {w0 : Base} {hp : List LB} {r L : List Nat} {w w1 : World} (h : At w0 hp r L w w1) (hL : ∀ b, b ∈ L → w.heap.size ≤ b) : Below w.heap.size w w1 :=
  ⟨h.below.os.trans h.base.os.symm, h.below.tape.trans h.base.tape.symm, h.below.output.trans h.base.output.symm, h.size, fun k hk => h.step k hk fun hm => by have := hL k hm; omega⟩
section
variable {N : Nat} {L : List Int}
end
end Go.Proofs.YtjbhpfmnfdebkaaGreat

/-
  The document's answer of layer 4, by the engine: Closed.
-/
namespace Go.Proofs.YtjbhpfmnfdebkaaGreat
set_option linter.unusedVariables false
set_option linter.unusedSimpArgs false
set_option maxRecDepth 100000
open Go.RowKit Go.Proofs.YtjbhpfmnfdebkaaGreat.Eng Enc

namespace Dbm
end Dbm
section
variable {N : Nat} {L : List Int}
end
end Go.Proofs.YtjbhpfmnfdebkaaGreat

/-
  Plain laws: the lesser bounds of two matrices, one by one. No program is in sight.
-/
namespace Go.Proofs.YtjbhpfmnfdebkaaGreat
set_option linter.unusedVariables false
namespace Dbm
def lessr (L M : List Int) : List Int := (List.range L.length).map fun q => min (L[q]?.getD 0) (M[q]?.getD 0)
end Dbm
namespace Tg
/-- what two matrices have in common. -/
def meet (n : Int) (L : List Int) (m : Int) (M : List Int) : Int × List Int × Int :=
  if Dbm.chk n L ≠ 0 ∨ Dbm.chk m M ≠ 0 then (0, [], 8) else if n ≠ m then (0, [], 40) else Dbm.close n (Dbm.lessr L M)
end Tg
end Go.Proofs.YtjbhpfmnfdebkaaGreat

/-
  The document's answer of layer 5, by the engine: the lesser bounds of two matrices, what they have in common.
-/
namespace Go.Proofs.YtjbhpfmnfdebkaaGreat
set_option linter.unusedVariables false
set_option linter.unusedSimpArgs false
set_option maxRecDepth 100000
open Go.RowKit Go.Proofs.YtjbhpfmnfdebkaaGreat.Eng Enc

end Go.Proofs.YtjbhpfmnfdebkaaGreat

/-
  The contract of the document's comparison of matrices (rallentandoref04.Same), by the engine.
-/
namespace Go.Proofs.YtjbhpfmnfdebkaaGreat
set_option linter.unusedVariables false
set_option linter.unusedSimpArgs false
set_option maxRecDepth 100000
open Go.RowKit Go.Proofs.YtjbhpfmnfdebkaaGreat.Eng Enc

end Go.Proofs.YtjbhpfmnfdebkaaGreat

/-
  The document's answer of layer 8, by the engine: Full, Short, May, Cmp.
-/
namespace Go.Proofs.YtjbhpfmnfdebkaaGreat
set_option linter.unusedVariables false
set_option linter.unusedSimpArgs false
set_option maxRecDepth 100000
open Go.RowKit Go.Proofs.YtjbhpfmnfdebkaaGreat.Eng Enc

namespace Zo
def i64 (z : Zn) : Prop := ∀ b, b ∈ matL z → Dbm.int64 b
end Zo
end Go.Proofs.YtjbhpfmnfdebkaaGreat

/-
  rallentandoref02.Other: not a bound.
-/
namespace Go.Proofs.YtjbhpfmnfdebkaaGreat
set_option linter.unusedVariables false
open Go.RowKit

end Go.Proofs.YtjbhpfmnfdebkaaGreat

/-
  The document's answer of layer 11, by the engine: With, Less, Rest.
-/
namespace Go.Proofs.YtjbhpfmnfdebkaaGreat
set_option linter.unusedVariables false
set_option linter.unusedSimpArgs false
set_option maxRecDepth 100000
open Go.RowKit Go.Proofs.YtjbhpfmnfdebkaaGreat.Eng Enc

namespace Mi
open Dbm
theorem mayC_min {x b : Int} (hx : mayC x = true) (hb : mayC b = true) : mayC (min x b) = true := by
  rcases Int.le_total x b with h | h
  · rw [Int.min_eq_left h]; exact hx
  · rw [Int.min_eq_right h]; exact hb
end Mi
end Go.Proofs.YtjbhpfmnfdebkaaGreat

/-
  DERIVED: THE SHELF's CONTRACTS AT THIS DUMP, IN PLAIN WORDS (tools/lay-plain.mjs out of 'YtjbhpfmnfdebkaaGreatShelf0.lean', which tools/lay-shelf.mjs wrote): THE SAME DECLARATIONS UNDER THE SAME NAMES: 'import', 'namespace', 'open', 'def', 'theorem' AND NOTHING ELSE: no command of the shelf's: FOR A HAND-IN. Each laying: the table of numbers ('.._ren') and one theorem, a field a fact of the dump's own or the kernel's comparison; each contract: ONE APPLICATION.
-/
namespace Go.Proofs
open Go.Shelf
def Tryz.growZ_ren : Go.Shelf.Ren := ⟨fun | 4 => 139 | n => n, fun | 22 => 22 | 25 => 104 | 3 => 3 | 4 => 4 | 9 => 9 | 20 => 20 | 0 => 0 | n => n, fun | n => n⟩
theorem Tryz.growZ : Go.Proofs.Lays8.n4 Tryz.prog Tryz.growZ_ren := {
  mixed := by kernel_rfl
  f4 := ⟨Tryz.f139.name, by decide, Tryz.func139.trans (congrArg some (by kernel_rfl))⟩
  t0 := Tryz.underlying0
  a0 := Tryz.isAgg0
  z0 := Tryz.sizeOf0
  v0 := Tryz.zeroValue0
  t3 := Tryz.underlying3
  a3 := Tryz.isAgg3
  z3 := Tryz.sizeOf3
  v3 := Tryz.zeroValue3
  t4 := Tryz.underlying4
  a4 := Tryz.isAgg4
  z4 := Tryz.sizeOf4
  v4 := Tryz.zeroValue4
  t9 := Tryz.underlying9
  a9 := Tryz.isAgg9
  z9 := Tryz.sizeOf9
  v9 := Tryz.zeroValue9
  t20 := Tryz.underlying20
  a20 := Tryz.isAgg20
  z20 := Tryz.sizeOf20
  v20 := Tryz.zeroValue20
  t22 := Tryz.underlying22
  a22 := Tryz.isAgg22
  z22 := Tryz.sizeOf22
  v22 := Tryz.zeroValue22 }
end Go.Proofs

/-
  The contracts of slices.Grow (of nothing) and slices.Concat, at zones, by the engine.
-/
namespace Go.Proofs.YtjbhpfmnfdebkaaGreat
set_option linter.unusedVariables false
set_option linter.unusedSimpArgs false
set_option maxRecDepth 100000
open Go.RowKit Go.Proofs.YtjbhpfmnfdebkaaGreat.Eng Enc

theorem own_newZ {w : World} {C : Array Value} {e : TypeId} {G base : Nat} (hb : base ≤ w.heap.size) (hs : C.size = G * 6) (hG : G ≤ maxLen) : Own e base (w.drew.alloc (.cells C e)) (.slice (some ⟨w.heap.size, 0, none⟩) 0 G) ([] : List Zn) :=
  ⟨rfl, .inr ⟨w.heap.size, G, C, rfl, hb, World.alloc_heap_new w.drew _, Nat.zero_le _, hG, hs, by simp [cellsL]⟩⟩
theorem growZ_any (n : Nat) (hn : n ≤ 100000) (w : World) :
    Calls Tryz.prog 139 #[.slice none 0 0, .int .i64 n] w (Ret w fun v w' => Own TZ w.heap.size w' v ([] : List Zn)) := by
  by_cases h0 : n = 0
  · subst h0
    refine (Any8.slices_Grow_room Tryz.growZ none 0 0 0 w (Nat.le_refl _) (by omega) (by omega) (by omega)).mono ?_
    rintro e w' ⟨rfl, rfl⟩
    exact ⟨_, rfl, Below.refl _ _, Own.nil⟩
  · have hi : ∃ i0, Tryz.prog.info? 104 = some i0 ∧ i0.zero = some (.agg #[.int .i64 0, .int .i64 0, .int .i64 0, .int .i64 0, .int .i64 0, .int .i64 0]) ∧ i0.size = 6 ∧ i0.bytes = 48 := by
      have h := infoZone
      cases hx : Tryz.prog.info? 104 with
      | none => rw [hx] at h; cases h
      | some i0 =>
        rw [hx] at h
        simp only [Option.map_some, Option.some.injEq, Prod.mk.injEq] at h
        exact ⟨i0, rfl, h.1, h.2.1, h.2.2⟩
    obtain ⟨i0, hi1, hi2, hi3, hi4⟩ := hi
    refine (Any8.slices_Grow_grow Tryz.growZ i0 _ hi1 hi2 (by omega) none 0 0 n [] w (Nat.le_refl _) (by omega) (by rw [hi4]; omega) (by omega) (by simp) (fun _ => rfl) (fun a e => by cases e)).mono ?_
    rintro e w' ⟨rfl, rfl⟩
    have hG := grownCap_ge w (0 + n) 0 (Tryz.growZ_ren.t 25)
    have hG2 := grownCap_le_maxLen w (0 + n) 0 (Tryz.growZ_ren.t 25) (by unfold maxLen; omega)
    refine ⟨_, rfl, ((Below.refl _ _).drew).alloc (Nat.le_refl _) _, own_newZ (e := Tryz.growZ_ren.t 25) (Nat.le_refl _) ?_ hG2⟩
    simp only [Array.size_append, Builtin.zeroCells, Array.size_map, Array.size_range]
    have hz : (Value.agg #[.int .i64 0, .int .i64 0, .int .i64 0, .int .i64 0, .int .i64 0, .int .i64 0]).cells.size = 6 := rfl
    rw [hz]
    generalize grownCap w (0 + n) 0 (Tryz.growZ_ren.t 25) = G at *
    show 0 + (0 + n - 0) * 6 + (G - (0 + n)) * 6 = G * 6
    omega
theorem flat_take {ls : List (List Zn)} {k : Nat} {l : List Zn} (h : ls[k]? = some l) : (ls.take (k + 1)).flatten = (ls.take k).flatten ++ l := by
  rw [List.take_add_one, h, List.flatten_append]; simp
theorem flat_le (ls : List (List Zn)) (k : Nat) : (ls.take k).flatten.length ≤ ls.flatten.length := by
  conv => rhs; rw [← List.take_append_drop k ls, List.flatten_append, List.length_append]
  omega
theorem concat_any (ss : List Svl) (ls : List (List Zn)) (htot : ls.flatten.length ≤ 100000) (a : Option Addr) (cap : Nat) (w : World) (hA : Shown w.heap.size w ss ls) (hS : Sl w.heap.size w (.slice a ss.length cap) ss) :
    Calls Tryz.prog 74 #[.slice a ss.length cap] w (Ret w fun v w' => ∃ a' c', v = .slice a' ls.flatten.length c' ∧ Own TZ w.heap.size w' (.slice a' ls.flatten.length c') ls.flatten) := by
  refine fun_ret 0 w Tryz.func74 (args := [.val (.slice a ss.length cap)]) rfl rfl ?_
  obtain ⟨hlen, hA⟩ := hA
  obtain ⟨_, _, hfe, hcap1, hcap2, _⟩ := hS.form
  injection hfe with _ _ hfe
  subst hfe
  unfold maxLen at hcap2
  refine LoopI.invC (α := Nat × World) (fun y => [(11, .val (.int .i64 y.1)), (3, .val (.int .i64 ((ls.take y.1).flatten.length : Nat)))]) (fun y => y.2) (fun y => y.1 ≤ ss.length ∧ Below w.heap.size w y.2) (fun y => ss.length - y.1) ?_ ?_
  · intro w1 h1
    exact ⟨(0, w1), Cov.mk (by repeat' (first | exact trivial | refine And.intro rfl ?_)) rfl rfl rfl rfl rfl, rfl, Nat.zero_le _, h1.below⟩
  rintro ⟨k, W⟩ ⟨hk, hW⟩
  simp only at hk hW
  refine Branch.mk (fun hc => ?_) (fun hc => ?_)
  · have hlt : k < ss.length := by simpa using hc
    have hg := List.getElem?_eq_getElem (l := ss) (i := k) hlt
    have hl := List.getElem?_eq_getElem (l := ls) (i := k) (by omega)
    obtain ⟨hs1, hs2⟩ := hA k _ _ hg hl
    generalize ls[k]'(by omega) = l at hl hs1 hs2
    have hft := flat_take hl
    have hfl := flat_le ls (k + 1)
    have hSW := hS.go hW hW.size
    refine hSW.idx hg fun ad had => ?_
    refine hSW.ldv hg rfl had (Below.refl _ _) (by simp) ?_
    rw [hft, List.length_append] at hfl
    refine Need.mk (by simp only [inK]; omega) ?_
    refine Branch.no (decide_eq_false (by simp only; omega)) ?_
    refine Need.mk (by simp only [inK]; omega) (EndI.mk fun w7 h7 => ⟨(k + 1, w7), ?_, rfl, ⟨hlt, h7.below⟩, by simp only; omega⟩)
    simp only
    rw [hft, List.length_append, ← hs2, Int.natCast_add]
    exact Cov.mk (by repeat' (first | exact trivial | refine And.intro rfl ?_)) rfl rfl rfl rfl rfl
  have hge : k = ls.length := by have : ¬ k < ss.length := by simpa using hc
                                 omega
  subst hge
  clear hc hk
  have hfa : ((ls.take ls.length).flatten.length : Int) = ((ls.flatten.length : Nat) : Int) := by rw [List.take_length]
  conv => whnf
  simp only
  rw [hfa]
  apply CallI.use
  focus (exact fun w2 h2 => growZ_any ls.flatten.length htot w2)
  rintro v w2 v2 h2 hB2 hO2
  refine LoopI.invC (α := Nat × World × Value) (fun y => [(27, .val (.int .i64 y.1)), (6, .val y.2.2)]) (fun y => y.2.1) (fun y => y.1 ≤ ss.length ∧ Below w.heap.size w y.2.1 ∧ Own TZ w.heap.size y.2.1 y.2.2 (ls.take y.1).flatten) (fun y => ss.length - y.1) ?_ ?_
  · intro w3 h3
    exact ⟨(0, w3, v), Cov.mk (by repeat' (first | exact trivial | refine And.intro rfl ?_)) rfl rfl rfl rfl rfl, rfl, Nat.zero_le _, h3.below, (hO2.lower h2.below.size).below (at_belowM h3 (by simp))⟩
  rintro ⟨k, U, tv⟩ ⟨hk, hU, hO⟩
  simp only at hk hU hO
  refine Branch.mk (fun hc => ?_) (fun hc => ?_)
  · have hlt : k < ss.length := by simpa using hc
    have hg := List.getElem?_eq_getElem (l := ss) (i := k) hlt
    have hl := List.getElem?_eq_getElem (l := ls) (i := k) (by omega)
    obtain ⟨hs1, hs2⟩ := hA k _ _ hg hl
    generalize ls[k]'(by omega) = l at hl hs1 hs2
    have hft := flat_take hl
    have hfl := flat_le ls (k + 1)
    have hSU := hS.go hU hU.size
    refine hSU.idx hg fun ad had => ?_
    refine hSU.ldv hg rfl had (Below.refl _ _) (by simp) ?_
    rw [hft, List.length_append] at hfl
    rw [hs2] at hs1 ⊢
    refine GenN.app (α := Zn) elZ (ls.take k).flatten l w.heap.size (fun w5 h5 => hO.at h5 (by simp)) (fun w5 h5 => (hs1.go h5.below h5.below.size).src) (by unfold maxLen; omega) (by omega) (fun w5 h5 => h5.below.size) (fun w5 w6 h5 hg => keep_grown h5 hg (fun k hk => ⟨(hO.lt k hk).1, by simp⟩)) fun v1 w5 w6 h5 hg hO1 => ?_
    rw [← hft] at hO1
    refine Need.mk (by simp only [inK]; omega) (EndI.mk fun w7 h7 => ⟨(k + 1, w7, v1), Cov.mk (by repeat' (first | exact trivial | refine And.intro rfl ?_)) rfl rfl rfl rfl rfl, rfl, ⟨hlt, h7.below, hO1.below (at_belowM h7 (by simp))⟩, by simp only; omega⟩)
  · have hge : k = ls.length := by have : ¬ k < ss.length := by simpa using hc
                                   omega
    subst hge
    rw [List.take_length] at hO
    obtain ⟨a', c', rfl⟩ := hO.form
    exact EndI.mk fun w9 h9 => ⟨_, _, rfl, hO.at h9 (by simp)⟩
end Go.Proofs.YtjbhpfmnfdebkaaGreat

/-
  == and != at two zones.
-/
namespace Go.Proofs.YtjbhpfmnfdebkaaGreat
set_option linter.unusedVariables false
set_option linter.unusedSimpArgs false
set_option maxRecDepth 100000
open Go.RowKit Go.Proofs.YtjbhpfmnfdebkaaGreat.Eng Enc

theorem equalZ (d : Nat) (x y : Zn) (w : World) : (Op.equalIn (d + 1 + 1) 104 (.agg #[.int .i64 x.a, .int .i64 x.b, .int .i64 x.c, .int .i64 x.d, .int .i64 x.e, .int .i64 x.f]) (.agg #[.int .i64 y.a, .int .i64 y.b, .int .i64 y.c, .int .i64 y.d, .int .i64 y.e, .int .i64 y.f])).run Tryz.prog w = .ok (decide (x = y)) w := by
  have hu := Tryz.underlying104
  have hb := Tryz.underlying102
  have hs := Tryz.sizeOf102
  have ha := Tryz.isAgg102
  rw [Op.equalIn]
  simp only [Sem.run_bind, run_underlying hu, Result.andThen_ok, hs]
  have hpart : ∀ (vs : Array Value) (k : Nat) (v : Value), vs[k]? = some v → (part 102 vs k).run Tryz.prog w = .ok v w := fun vs k v h => by
    simp [part, Sem.run_bind, ha, hs, Result.andThen_ok, h]
  have he : ∀ a b : Int, (Op.equalIn (d + 1) 102 (.int .i64 a) (.int .i64 b)).run Tryz.prog w = .ok (a == b) w := fun a b => run_equalIn_int w d _ _ _ a b hb
  rw [Std.Legacy.Range.forIn_eq_forIn_range']
  simp [Std.Legacy.Range.size, List.range', Sem.run_bind, hpart, he, Result.andThen_ok]
  have hxy : x = y ↔ (x.a = y.a ∧ x.b = y.b ∧ x.c = y.c ∧ x.d = y.d ∧ x.e = y.e ∧ x.f = y.f) := by
    cases x; cases y; simp
  simp only [hxy]
  repeat' split
  all_goals simp_all
theorem run_eql_zn (x y : Zn) (w : World) : (binOp .eql 104 (.agg #[.int .i64 x.a, .int .i64 x.b, .int .i64 x.c, .int .i64 x.d, .int .i64 x.e, .int .i64 x.f]) (.agg #[.int .i64 y.a, .int .i64 y.b, .int .i64 y.c, .int .i64 y.d, .int .i64 y.e, .int .i64 y.f])).run Tryz.prog w = .ok (.bool (decide (x = y))) w := by
  rw [run_eql_struct, show (10000 : Nat) = 9998 + 1 + 1 from rfl, equalZ]; rfl
theorem run_neq_zn (x y : Zn) (w : World) : (binOp .neq 104 (.agg #[.int .i64 x.a, .int .i64 x.b, .int .i64 x.c, .int .i64 x.d, .int .i64 x.e, .int .i64 x.f]) (.agg #[.int .i64 y.a, .int .i64 y.b, .int .i64 y.c, .int .i64 y.d, .int .i64 y.e, .int .i64 y.f])).run Tryz.prog w = .ok (.bool (decide (x ≠ y))) w := by
  rw [run_neq_struct, show (10000 : Nat) = 9998 + 1 + 1 from rfl, equalZ]
  simp [Result.andThen]
theorem run_eql_znG (p q : Operand) (x y : Zn) (w : World) : (do eqGuard .eql 104 p q (.agg #[.int .i64 x.a, .int .i64 x.b, .int .i64 x.c, .int .i64 x.d, .int .i64 x.e, .int .i64 x.f]) (.agg #[.int .i64 y.a, .int .i64 y.b, .int .i64 y.c, .int .i64 y.d, .int .i64 y.e, .int .i64 y.f]); binOp .eql 104 (.agg #[.int .i64 x.a, .int .i64 x.b, .int .i64 x.c, .int .i64 x.d, .int .i64 x.e, .int .i64 x.f]) (.agg #[.int .i64 y.a, .int .i64 y.b, .int .i64 y.c, .int .i64 y.d, .int .i64 y.e, .int .i64 y.f]) : Sem Value).run Tryz.prog w = .ok (.bool (decide (x = y))) w := by
  have hg : (eqGuard .eql 104 p q (.agg #[.int .i64 x.a, .int .i64 x.b, .int .i64 x.c, .int .i64 x.d, .int .i64 x.e, .int .i64 x.f]) (.agg #[.int .i64 y.a, .int .i64 y.b, .int .i64 y.c, .int .i64 y.d, .int .i64 y.e, .int .i64 y.f])).run Tryz.prog w = .ok () w := run_eqGuard_agg _ _ _ _ _ _ _ (by kernel_rfl)
  rw [Sem.run_bind, hg]
  exact run_eql_zn x y w
theorem run_neq_znG (p q : Operand) (x y : Zn) (w : World) : (do eqGuard .neq 104 p q (.agg #[.int .i64 x.a, .int .i64 x.b, .int .i64 x.c, .int .i64 x.d, .int .i64 x.e, .int .i64 x.f]) (.agg #[.int .i64 y.a, .int .i64 y.b, .int .i64 y.c, .int .i64 y.d, .int .i64 y.e, .int .i64 y.f]); binOp .neq 104 (.agg #[.int .i64 x.a, .int .i64 x.b, .int .i64 x.c, .int .i64 x.d, .int .i64 x.e, .int .i64 x.f]) (.agg #[.int .i64 y.a, .int .i64 y.b, .int .i64 y.c, .int .i64 y.d, .int .i64 y.e, .int .i64 y.f]) : Sem Value).run Tryz.prog w = .ok (.bool (decide (x ≠ y))) w := by
  have hg : (eqGuard .neq 104 p q (.agg #[.int .i64 x.a, .int .i64 x.b, .int .i64 x.c, .int .i64 x.d, .int .i64 x.e, .int .i64 x.f]) (.agg #[.int .i64 y.a, .int .i64 y.b, .int .i64 y.c, .int .i64 y.d, .int .i64 y.e, .int .i64 y.f])).run Tryz.prog w = .ok () w := run_eqGuard_agg _ _ _ _ _ _ _ (by kernel_rfl)
  rw [Sem.run_bind, hg]
  exact run_neq_zn x y w
end Go.Proofs.YtjbhpfmnfdebkaaGreat

