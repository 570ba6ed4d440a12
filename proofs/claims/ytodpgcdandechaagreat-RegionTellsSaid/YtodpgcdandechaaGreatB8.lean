/-
  Merged texts of this seat (each with its own head below).
-/
import Derived.Test.YtodpgcdandechaaGreatB7
import Derived.Test.YtodpgcdandechaaGreatB6
import Derived.Test.YtodpgcdandechaaGreatB5
import Derived.Test.YtodpgcdandechaaGreatB4
import Derived.Test.YtodpgcdandechaaGreatB3
import Derived.Laws.StructEq
/-
  The contracts of zset.each, Within, Window, In, Same, by the engine.
-/
namespace Go.Proofs.YtodpgcdandechaaGreat
set_option linter.unusedVariables false
set_option linter.unusedSimpArgs false
set_option maxRecDepth 100000
open Go.RowKit Go.Proofs.YtodpgcdandechaaGreat.Eng Enc

namespace Zs
def free : Zn := ⟨9223372036854775807, 9223372036854775807, 9223372036854775807, 9223372036854775807, 9223372036854775807, 9223372036854775807⟩
theorem free_of : Zo.of 3 (Dbm.topL 3) = (free, 0) := by decide +kernel
/-- what all zones come to. -/
def each (f : Zn → Zn × Int) (l : List Zn) : List Zn × Int :=
  if Cv.checked [l] = 0 then (if (f free).2 ≠ 0 ∧ (f free).2 ≠ 6 then ([], (f free).2) else come f [] l) else ([], Cv.checked [l])
def within (l : List Zn) (s : Sp) : List Zn × Int := each (fun z => Wn.within z s) l
def window (l : List Zn) (lo hi : Int) : List Zn × Int := each (fun z => Wn.window z lo hi) l
theorem checked_len1 {l : List Zn} (h0 : Cv.checked [l] = 0) : l.length ≤ 4096 := (Cv.checked_one.1 h0).1
def same (a b : List Zn) : Bool × Int := if (Cv.all_ a b).2 = 0 ∧ (Cv.all_ a b).1 = true then Cv.all_ b a else (false, (Cv.all_ a b).2)
end Zs
theorem KeptBut.ofBelow {w W : World} (h : Below w.heap.size w W) (row : Option Nat) : KeptBut row w W := ⟨h.size, fun k hk _ => h.block k hk⟩
theorem KeptBut.none_trans {row : Option Nat} {w W X : World} (h : KeptBut none w W) (k : KeptBut none W X) : KeptBut row w X :=
  ⟨Nat.le_trans h.1 k.1, fun i hi _ => (k.2 i (Nat.lt_of_lt_of_le hi h.1) (by simp)).trans (h.2 i hi (by simp))⟩
theorem each_any (f : Zn → Zn × Int) (fid : FuncId) (caps : Array Value) (en : Enters Tryz.prog fid) (l : List Zn) (a : Option Addr) (cap : Nat) (w : World) (hS : Sl w.heap.size w (.slice a l.length cap) l)
    (hcall : ∀ x W, KeptBut none w W → Calls Tryz.prog fid (val x :: caps.toList).toArray W fun e W' => e = .returned (.tuple #[.agg #[.int .i64 (f x).1.a, .int .i64 (f x).1.b, .int .i64 (f x).1.c, .int .i64 (f x).1.d, .int .i64 (f x).1.e, .int .i64 (f x).1.f], .int .i64 (f x).2]) ∧ Below W.heap.size W W') :
    Calls Tryz.prog 98 #[.slice a l.length cap, .func (.func fid) #[] caps] w (Ret w fun v w' => ∃ a' c', v = .tuple #[.slice a' (Zs.each f l).1.length c', .int .i64 (Zs.each f l).2] ∧ Own TZ w.heap.size w' (.slice a' (Zs.each f l).1.length c') (Zs.each f l).1) := by
  refine fun_ret 0 w Tryz.func98 (args := [.val (.slice a l.length cap), .val (.func (.func fid) #[] caps)]) rfl rfl ?_
  have st := Stay.first (w := w)
  refine NewI.mk fun b1 hb1 => ?_
  apply CallI.use1
  focus (exact fun w1 h1 => zschecked_any [⟨a, l.length, cap⟩] [l] (by simp) _ _ w1 (shown_one (hS.st (st.at h1 (fun x hx => by simp at hx <;> omega))) rfl) (Sl.own (l := [(⟨a, l.length, cap⟩ : Svl)]) h1 0 rfl rfl rfl (Nat.le_refl _) (by simp [maxLen])))
  intro w1 v1 h1 hB1
  have st := st.next h1 (fun x hx => by simp at hx <;> omega) hB1
  unfold Zs.each
  refine Branch.mk (fun hc => ?_) (fun hc => ?_)
  · have h0 : Cv.checked [l] ≠ 0 := by simpa using hc
    rw [if_neg h0]
    exact EndI.mk fun w9 h9 => ⟨_, _, rfl, Own.nil⟩
  have h0 : Cv.checked [l] = 0 := by simpa using hc
  rw [if_pos h0]
  have htop := fun w => top_any 3 w
  rw [Zo.top3] at htop
  have hof := fun (w : World) a c h => zof_any 3 a c (Dbm.topL 3) w h
  rw [Zs.free_of] at hof
  apply CallI.use
  focus (exact fun w2 h2 => htop w2)
  rintro v w2 v2 h2 hB2 ⟨a2, c2, rfl, hO2⟩
  have st := st.next h2 (fun x hx => by simp at hx <;> omega) hB2
  refine NewI.mk fun b2 hb2 => ?_
  apply CallI.use1
  focus (exact fun w3 h3 => hof w3 a2 c2 ((hO2.st (st.at h3 (fun x hx => by simp at hx <;> omega))).sl))
  intro w3 v3 h3 hB3
  have st := st.next h3 (fun x hx => by simp at hx <;> omega) hB3
  refine NewI.mk fun b3 hb3 => ?_
  refine Need.mk en ?_
  apply CallI.use1
  focus (exact fun w4 h4 => hcall Zs.free w4 (KeptBut.ofBelow h4.below none))
  intro w4 v4 h4 hB4
  refine NewI.mk fun b4 hb4 => ?_
  have hcm := fun (w7 : World) (hw7 : Below w.heap.size w w7) => come_any f fid caps en [] l (.slice none 0 0) a cap w.heap.size (by simp) (Zs.checked_len1 h0) w7 hw7.size Own.nil (hS.below hw7) (fun x W hx hK => hcall x W ((KeptBut.ofBelow hw7 none).none_trans hK))
  have fin : ∀ w7 : World, ∀ (hw7 : Below w.heap.size w w7), Calls Tryz.prog 158 #[.slice none 0 0, .slice a l.length cap, .func (.func fid) #[] caps] w7 (Ret w7 fun v w' => ∃ a' c', v = .tuple #[.slice a' (Zs.come f [] l).1.length c', .int .i64 (Zs.come f [] l).2] ∧ Own TZ w7.heap.size w' (.slice a' (Zs.come f [] l).1.length c') (Zs.come f [] l).1) := fun w7 hw7 =>
    (hcm w7 hw7).mono fun e w8 ⟨v, he, hB, hK, a8, c8, hv, hO⟩ => ⟨v, he, ⟨hB.os.trans rfl, hB.tape, hB.output, hB.size, fun k hk => hK.2 k hk (by simp [Value.ownBlock])⟩, a8, c8, hv, hO⟩
  refine Branch.mk (fun hc2 => ?_) (fun hc2 => ?_)
  · have h1 : (f Zs.free).2 ≠ 0 := of_decide_eq_true hc2
    refine Branch.mk (fun hc3 => ?_) (fun hc3 => ?_)
    · have h6 : (f Zs.free).2 ≠ 6 := by simpa using hc3
      rw [if_pos ⟨h1, h6⟩]
      exact EndI.mk fun w9 h9 => ⟨_, _, rfl, Own.nil⟩
    · have h6 : (f Zs.free).2 = 6 := by simpa using hc3
      rw [if_neg (fun h => h.2 h6)]
      apply CallI.use
      focus (exact fun w7 h7 => fin w7 h7.below)
      rintro v w7 v7 h7 hB7 ⟨a8, c8, rfl, hO8⟩
      exact EndI.mk fun w9 h9 => ⟨a8, c8, rfl, (hO8.lower h7.below.size).below (at_belowM h9 (by simp <;> omega))⟩
  · have h1 : (f Zs.free).2 = 0 := by simpa using hc2
    rw [if_neg (fun h => h.1 h1)]
    apply CallI.use
    focus (exact fun w7 h7 => fin w7 h7.below)
    rintro v w7 v7 h7 hB7 ⟨a8, c8, rfl, hO8⟩
    exact EndI.mk fun w9 h9 => ⟨a8, c8, rfl, (hO8.lower h7.below.size).below (at_belowM h9 (by simp <;> omega))⟩
theorem within1_any (z : Zn) (s : Sp) (hs : s.ins) (B : Nat) (w : World) (hbox : w.heap[B]? = some (.cells #[.int .i64 s.lo, .bool s.ls, .int .i64 s.hi, .bool s.hs, .bool s.op] 54 (0, 0))) :
    Calls Tryz.prog 99 #[.agg #[.int .i64 z.a, .int .i64 z.b, .int .i64 z.c, .int .i64 z.d, .int .i64 z.e, .int .i64 z.f], .pointer (some ⟨B, 0, none⟩)] w fun e w' => e = .returned (.tuple #[.agg #[.int .i64 (Wn.within z s).1.a, .int .i64 (Wn.within z s).1.b, .int .i64 (Wn.within z s).1.c, .int .i64 (Wn.within z s).1.d, .int .i64 (Wn.within z s).1.e, .int .i64 (Wn.within z s).1.f], .int .i64 (Wn.within z s).2]) ∧ Below w.heap.size w w' := by
  refine fun_eq 0 w Tryz.func99 (args := [.agg [.val (.int .i64 z.a), .val (.int .i64 z.b), .val (.int .i64 z.c), .val (.int .i64 z.d), .val (.int .i64 z.e), .val (.int .i64 z.f)], .val (.pointer (some ⟨B, 0, none⟩))]) rfl rfl ?_
  refine NewI.mk fun b1 hb1 => ?_
  refine NewI.mk fun b2 hb2 => ?_
  refine LoadA.mk ⟨[.int .i64 s.lo, .bool s.ls, .int .i64 s.hi, .bool s.hs, .bool s.op], ⟨rfl, by decide, by simp, cell_nM hbox⟩, ?_⟩
  apply CallI.use1
  focus (exact fun w2 h2 => wwithin_any z s hs w2)
  intro w2 v2 h2 hB2
  exact EndI.mk fun w9 h9 => rfl
theorem window1_any (z : Zn) (lo hi : Int) (hlo : inK .i64 lo) (hhi : inK .i64 hi) (B C : Nat) (w : World) (hB : w.heap[B]? = some (.cells #[.int .i64 lo] 3 (0, 0))) (hC : w.heap[C]? = some (.cells #[.int .i64 hi] 3 (0, 0))) :
    Calls Tryz.prog 102 #[.agg #[.int .i64 z.a, .int .i64 z.b, .int .i64 z.c, .int .i64 z.d, .int .i64 z.e, .int .i64 z.f], .pointer (some ⟨B, 0, none⟩), .pointer (some ⟨C, 0, none⟩)] w fun e w' => e = .returned (.tuple #[.agg #[.int .i64 (Wn.window z lo hi).1.a, .int .i64 (Wn.window z lo hi).1.b, .int .i64 (Wn.window z lo hi).1.c, .int .i64 (Wn.window z lo hi).1.d, .int .i64 (Wn.window z lo hi).1.e, .int .i64 (Wn.window z lo hi).1.f], .int .i64 (Wn.window z lo hi).2]) ∧ Below w.heap.size w w' := by
  refine fun_eq 0 w Tryz.func102 (args := [.agg [.val (.int .i64 z.a), .val (.int .i64 z.b), .val (.int .i64 z.c), .val (.int .i64 z.d), .val (.int .i64 z.e), .val (.int .i64 z.f)], .val (.pointer (some ⟨B, 0, none⟩)), .val (.pointer (some ⟨C, 0, none⟩))]) rfl rfl ?_
  refine NewI.mk fun b1 hb1 => ?_
  refine NewI.mk fun b2 hb2 => ?_
  refine LoadI.mk ⟨_, ⟨cell_oneM hB, by simp⟩, ?_⟩
  refine LoadI.mk ⟨_, ⟨cell_oneM hC, by simp⟩, ?_⟩
  apply CallI.use1
  focus (exact fun w2 h2 => wwindow_any z lo hi hlo hhi w2)
  intro w2 v2 h2 hB2
  exact EndI.mk fun w9 h9 => rfl
theorem zswithin_any (l : List Zn) (s : Sp) (hs : s.ins) (a : Option Addr) (cap : Nat) (w : World) (hS : Sl w.heap.size w (.slice a l.length cap) l) :
    Calls Tryz.prog 38 #[.slice a l.length cap, .agg #[.int .i64 s.lo, .bool s.ls, .int .i64 s.hi, .bool s.hs, .bool s.op]] w (Ret w fun v w' => ∃ a' c', v = .tuple #[.slice a' (Zs.within l s).1.length c', .int .i64 (Zs.within l s).2] ∧ Own TZ w.heap.size w' (.slice a' (Zs.within l s).1.length c') (Zs.within l s).1) := by
  refine fun_ret 0 w Tryz.func38 (args := [.val (.slice a l.length cap), .agg [.val (.int .i64 s.lo), .val (.bool s.ls), .val (.int .i64 s.hi), .val (.bool s.hs), .val (.bool s.op)]]) rfl rfl ?_
  refine NewI.frn fun w1 h1 => ?_
  have hbox : (w1.alloc (.cells #[.int .i64 s.lo, .bool s.ls, .int .i64 s.hi, .bool s.hs, .bool s.op] 54)).heap[w1.heap.size]? = some (.cells #[.int .i64 s.lo, .bool s.ls, .int .i64 s.hi, .bool s.hs, .bool s.op] 54 (0, 0)) := World.alloc_heap_new w1 _
  apply CallI.use
  focus (exact fun w2 h2 => each_any (fun z => Wn.within z s) 99 #[.pointer (some ⟨w1.heap.size, 0, none⟩)] Tryz.call99 l a cap w2 (hS.go h2.below h2.below.size) (fun x W hK => within1_any x s hs w1.heap.size W ((hK.2 _ (Nat.lt_of_lt_of_le (lt_cellsM hbox) (at_belowM h2 (by simp)).size) (by simp)).trans (((at_belowM h2 (by simp)).block _ (lt_cellsM hbox)).trans hbox))))
  rintro v w2 v2 h2 hB2 ⟨a2, c2, rfl, hO2⟩
  exact EndI.mk fun w9 h9 => ⟨a2, c2, rfl, (hO2.lower h2.below.size).below (at_belowM h9 (by simp))⟩
theorem zswindow_any (l : List Zn) (lo hi : Int) (hlo : inK .i64 lo) (hhi : inK .i64 hi) (a : Option Addr) (cap : Nat) (w : World) (hS : Sl w.heap.size w (.slice a l.length cap) l) :
    Calls Tryz.prog 40 #[.slice a l.length cap, .int .i64 lo, .int .i64 hi] w (Ret w fun v w' => ∃ a' c', v = .tuple #[.slice a' (Zs.window l lo hi).1.length c', .int .i64 (Zs.window l lo hi).2] ∧ Own TZ w.heap.size w' (.slice a' (Zs.window l lo hi).1.length c') (Zs.window l lo hi).1) := by
  refine fun_ret 0 w Tryz.func40 (args := [.val (.slice a l.length cap), .val (.int .i64 lo), .val (.int .i64 hi)]) rfl rfl ?_
  refine NewI.frn fun w1 h1 => ?_
  have hbox : (w1.alloc (.cells #[.int .i64 lo] 3)).heap[w1.heap.size]? = some (.cells #[.int .i64 lo] 3 (0, 0)) := World.alloc_heap_new w1 _
  refine NewI.frn fun w2 h2 => ?_
  have g2 := at_belowM h2 (by simp)
  have hbox2 : (w2.alloc (.cells #[.int .i64 hi] 3)).heap[w2.heap.size]? = some (.cells #[.int .i64 hi] 3 (0, 0)) := World.alloc_heap_new w2 _
  have hal : Below w2.heap.size w2 (w2.alloc (.cells #[.int .i64 hi] 3)) := (Below.refl _ _).alloc (Nat.le_refl _) _
  have hboxa := (g2.block _ (lt_cellsM hbox)).trans hbox
  have hboxb := (hal.block _ (lt_cellsM hboxa)).trans hboxa
  apply CallI.use
  focus (exact fun w3 h3 => each_any (fun z => Wn.window z lo hi) 102 #[.pointer (some ⟨w1.heap.size, 0, none⟩), .pointer (some ⟨w2.heap.size, 0, none⟩)] Tryz.call102 l a cap w3 (hS.go h3.below h3.below.size) (fun x W hK => window1_any x lo hi hlo hhi w1.heap.size w2.heap.size W
    ((hK.2 _ (Nat.lt_of_lt_of_le (lt_cellsM hboxb) (at_belowM h3 (by simp)).size) (by simp)).trans (((at_belowM h3 (by simp)).block _ (lt_cellsM hboxb)).trans hboxb))
    ((hK.2 _ (Nat.lt_of_lt_of_le (lt_cellsM hbox2) (at_belowM h3 (by simp)).size) (by simp)).trans (((at_belowM h3 (by simp)).block _ (lt_cellsM hbox2)).trans hbox2))))
  rintro v w3 v3 h3 hB3 ⟨a2, c2, rfl, hO2⟩
  exact EndI.mk fun w9 h9 => ⟨a2, c2, rfl, (hO2.lower h3.below.size).below (at_belowM h9 (by simp))⟩
theorem zsin_any (l m : List Zn) (a b : Option Addr) (ca cb : Nat) (w : World) (hS : Sl w.heap.size w (.slice a l.length ca) l) (hT : Sl w.heap.size w (.slice b m.length cb) m) :
    Calls Tryz.prog 42 #[.slice a l.length ca, .slice b m.length cb] w fun e w' => e = .returned (.tuple #[.bool (Cv.all_ l m).1, .int .i64 (Cv.all_ l m).2]) ∧ Below w.heap.size w w' := by
  refine fun_eq 0 w Tryz.func42 (args := [.val (.slice a l.length ca), .val (.slice b m.length cb)]) rfl rfl ?_
  apply CallI.use1
  focus (exact fun w2 h2 => all_any l m a ca b cb w2 (hS.go h2.below h2.below.size) (hT.go h2.below h2.below.size))
  intro w2 v2 h2 hB2
  exact EndI.mk fun w9 h9 => rfl
theorem zssame_any (l m : List Zn) (a b : Option Addr) (ca cb : Nat) (w : World) (hS : Sl w.heap.size w (.slice a l.length ca) l) (hT : Sl w.heap.size w (.slice b m.length cb) m) :
    Calls Tryz.prog 44 #[.slice a l.length ca, .slice b m.length cb] w fun e w' => e = .returned (.tuple #[.bool (Zs.same l m).1, .int .i64 (Zs.same l m).2]) ∧ Below w.heap.size w w' := by
  refine fun_eq 0 w Tryz.func44 (args := [.val (.slice a l.length ca), .val (.slice b m.length cb)]) rfl rfl ?_
  unfold Zs.same
  apply CallI.use1
  focus (exact fun w2 h2 => zsin_any l m a b ca cb w2 (hS.go h2.below h2.below.size) (hT.go h2.below h2.below.size))
  intro w2 v2 h2 hB2
  generalize Cv.all_ l m = X at *
  obtain ⟨x, e⟩ := X
  refine Branch.mk (fun hc => ?_) (fun hc => ?_)
  · have h1 : e ≠ 0 := by simpa using hc
    rw [if_neg (fun h => h1 h.1)]
    exact EndI.mk fun w9 h9 => rfl
  have h1 : e = 0 := by simpa using hc
  refine Branch.mk (fun hc2 => ?_) (fun hc2 => ?_)
  · have h2 : ¬ x = true := by simpa using hc2
    rw [if_neg (fun h => h2 h.2)]
    exact EndI.mk fun w9 h9 => rfl
  have h2 : x = true := by simpa using hc2
  rw [if_pos ⟨h1, h2⟩]
  apply CallI.use1
  focus (exact fun w3 h3 => zsin_any m l b a cb ca w3 (hT.go h3.below h3.below.size) (hS.go h3.below h3.below.size))
  intro w3 v3 h3 hB3
  exact EndI.mk fun w9 h9 => rfl
end Go.Proofs.YtodpgcdandechaaGreat

/-
  The contracts of slices.Equal at zones, zset.Check, zset.Has, by the engine.
-/
namespace Go.Proofs.YtodpgcdandechaaGreat
set_option linter.unusedVariables false
set_option linter.unusedSimpArgs false
set_option maxRecDepth 100000
open Go.RowKit Go.Proofs.YtodpgcdandechaaGreat.Eng Enc

theorem equalZ_any (l m : List Zn) (a : Option Addr) (cap : Nat) (b : Option Addr) (cb : Nat) (w : World) (hS : Sl w.heap.size w (.slice a l.length cap) l) (hT : Sl w.heap.size w (.slice b m.length cb) m) :
    Calls Tryz.prog 96 #[.slice a l.length cap, .slice b m.length cb] w fun e w' => e = .returned (.bool (decide (l = m))) ∧ Below w.heap.size w w' := by
  refine fun_eq 0 w Tryz.func96 (args := [.val (.slice a l.length cap), .val (.slice b m.length cb)]) rfl rfl ?_
  obtain ⟨_, _, hfe, hcap1, hcap2, _⟩ := hS.form
  injection hfe with _ _ hfe
  subst hfe
  unfold maxLen at hcap2
  refine Branch.mk (fun hc => ?_) (fun hc => ?_)
  · have hne : l.length ≠ m.length := by have := of_decide_eq_true hc; omega
    refine EndI.mk fun w9 h9 => ?_
    rw [decide_eq_false (fun e => hne (by rw [e]))]
  have hlm : l.length = m.length := by have := of_decide_eq_false hc; omega
  refine LoopI.invC (α := Nat × World) (fun y => [(13, .val (.int .i64 y.1))]) (fun y => y.2) (fun y => y.1 ≤ l.length ∧ Below w.heap.size w y.2 ∧ l.take y.1 = m.take y.1) (fun y => l.length - y.1) ?_ ?_
  · intro w1 h1
    exact ⟨(0, w1), Cov.mk (by repeat' (first | exact trivial | refine And.intro rfl ?_)) rfl rfl rfl rfl rfl, rfl, Nat.zero_le _, h1.below, rfl⟩
  rintro ⟨k, V⟩ ⟨hk, hV, hall⟩
  simp only at hk hV hall
  refine Branch.mk (fun hc2 => ?_) (fun hc2 => ?_)
  · have hlt : k < l.length := by have := of_decide_eq_true hc2; simp only at this; omega
    have hx := List.getElem?_eq_getElem (l := l) (i := k) hlt
    have hy := List.getElem?_eq_getElem (l := m) (i := k) (by omega)
    generalize l[k] = x at hx
    generalize m[k]'(by omega) = y at hy
    refine DrawI.go (.tk 0 (.tk 1 (.tk 2 (.tk 3 (.tk 4 (.tk 5 (.tk 6 (.tk 7 (.ev 8 .done))))))))) (by kernel_rfl) fun w4 h4 => ?_
    have hg4 : Below V.heap.size V w4 := h4.go
    have hw4 := hV.trans (hg4.mono hV.size)
    have hS4 := hS.go hw4 hw4.size
    have hT4 := hT.go hw4 hw4.size
    refine hS4.idx hx fun ad had => ?_
    refine hS4.ld hx had (Below.refl _ _) (by simp) ?_
    refine hT4.idx hy fun ad2 had2 => ?_
    refine hT4.ld hy had2 (Below.refl _ _) (by simp) ?_
    refine GenV.to (x := .bool (decide (x ≠ y))) (fun w => run_neq_znG _ _ x y w) fun w5 h5 => ?_
    refine Branch.mk (fun hc3 => ?_) (fun hc3 => ?_)
    · have hne : x ≠ y := by simpa using hc3
      refine EndI.mk fun w9 h9 => ?_
      rw [decide_eq_false (fun e => hne (by rw [e, hy] at hx; injection hx with hx; exact hx.symm))]
    · have he : x = y := by simpa using hc3
      refine Need.mk (by simp only [inK]; omega) (EndI.mk fun w9 h9 => ⟨(k + 1, w9), Cov.mk (by repeat' (first | exact trivial | refine And.intro rfl ?_)) rfl rfl rfl rfl rfl, rfl, ⟨hlt, h9.below, ?_⟩, by simp only; omega⟩)
      simp only
      rw [List.take_add_one, List.take_add_one, hall, hx, hy, he]
  · have hge : k = l.length := by have := of_decide_eq_false hc2; simp only at this; omega
    subst hge
    rw [List.take_length, hlm, List.take_length] at hall
    refine EndI.mk fun w9 h9 => ?_
    rw [decide_eq_true hall]
namespace Zs
/-- a set is as it has to be. -/
def check (l : List Zn) : Int := if (Cv.prune l).2 = 0 ∧ (Cv.prune l).1 = l then 0 else 8
/-- a set has a point. -/
def has (l : List Zn) (p : Pt) : Bool × Int :=
  if Cv.checked [l] = 0 then (if (Zo.has free p).2 = 0 then (l.any (fun z => decide ((Zo.has z p).2 = 0) && (Zo.has z p).1), 0) else (false, (Zo.has free p).2)) else (false, Cv.checked [l])
end Zs
theorem zscheck_any (l : List Zn) (a : Option Addr) (cap : Nat) (w : World) (hS : Sl w.heap.size w (.slice a l.length cap) l) :
    Calls Tryz.prog 36 #[.slice a l.length cap] w fun e w' => e = .returned (.int .i64 (Zs.check l)) ∧ Below w.heap.size w w' := by
  refine fun_eq 0 w Tryz.func36 (args := [.val (.slice a l.length cap)]) rfl rfl ?_
  apply CallI.use
  focus (exact fun w2 h2 => zsof_any l a cap w2 (hS.go h2.below h2.below.size))
  rintro v w2 v2 h2 hB2 ⟨a2, c2, rfl, hO2⟩
  unfold Zs.check
  generalize Cv.prune l = X at *
  obtain ⟨m, e⟩ := X
  simp only at hO2 ⊢
  refine Branch.mk (fun hc => ?_) (fun hc => ?_)
  · have h1 : e ≠ 0 := by simpa using hc
    rw [if_neg (fun h => h1 h.1)]
    exact EndI.mk fun w9 h9 => rfl
  have h1 : e = 0 := by simpa using hc
  apply CallI.use1
  focus (exact fun w3 h3 => equalZ_any l m a cap a2 c2 w3 (hS.go h3.below h3.below.size) (hO2.below (at_belowM h3 (by simp))).sl)
  intro w3 v3 h3 hB3
  refine Branch.mk (fun hc2 => ?_) (fun hc2 => ?_)
  · have h2 : ¬ l = m := by simpa using hc2
    rw [if_neg (fun h => h2 h.2.symm)]
    exact EndI.mk fun w9 h9 => rfl
  · have h2 : l = m := by simpa using hc2
    rw [if_pos ⟨h1, h2.symm⟩]
    exact EndI.mk fun w9 h9 => rfl
theorem has1_any (z : Zn) (p : Pt) (hp : p.ins) (B : Nat) (w : World) (hbox : w.heap[B]? = some (.cells #[.int .i64 p.t.num, .int .i64 p.t.den, .int .i64 p.u.num, .int .i64 p.u.den] 25 (0, 0))) :
    Calls Tryz.prog 69 #[.agg #[.int .i64 z.a, .int .i64 z.b, .int .i64 z.c, .int .i64 z.d, .int .i64 z.e, .int .i64 z.f], .pointer (some ⟨B, 0, none⟩)] w fun e w' => e = .returned (.bool (decide ((Zo.has z p).2 = 0) && (Zo.has z p).1)) ∧ Below w.heap.size w w' := by
  refine fun_eq 0 w Tryz.func69 (args := [.agg [.val (.int .i64 z.a), .val (.int .i64 z.b), .val (.int .i64 z.c), .val (.int .i64 z.d), .val (.int .i64 z.e), .val (.int .i64 z.f)], .val (.pointer (some ⟨B, 0, none⟩))]) rfl rfl ?_
  refine NewI.mk fun b1 hb1 => ?_
  refine LoadA.mk ⟨[.int .i64 p.t.num, .int .i64 p.t.den, .int .i64 p.u.num, .int .i64 p.u.den], ⟨rfl, by decide, by simp, cell_nM hbox⟩, ?_⟩
  apply CallI.use
  focus (exact fun w2 h2 => zhas_any z p hp w2)
  rintro v w2 v2 h2 hB2 rfl
  generalize Zo.has z p = X at *
  obtain ⟨x, e⟩ := X
  refine Branch.mk (fun hc => ?_) (fun hc => ?_)
  · have h1 : e = 0 := by simpa using hc
    exact EndI.mk fun w9 h9 => by simp [h1]
  · have h1 : ¬ e = 0 := by simpa using hc
    exact EndI.mk fun w9 h9 => by simp [h1]
theorem zshas_any (l : List Zn) (p : Pt) (hp : p.ins) (a : Option Addr) (cap : Nat) (w : World) (hS : Sl w.heap.size w (.slice a l.length cap) l) :
    Calls Tryz.prog 18 #[.slice a l.length cap, .agg #[.int .i64 p.t.num, .int .i64 p.t.den, .int .i64 p.u.num, .int .i64 p.u.den]] w fun e w' => e = .returned (.tuple #[.bool (Zs.has l p).1, .int .i64 (Zs.has l p).2]) ∧ Below w.heap.size w w' := by
  refine fun_eq 0 w Tryz.func18 (args := [.val (.slice a l.length cap), .agg [.val (.int .i64 p.t.num), .val (.int .i64 p.t.den), .val (.int .i64 p.u.num), .val (.int .i64 p.u.den)]]) rfl rfl ?_
  refine NewI.frn fun w1 h1 => ?_
  have hbox : (w1.alloc (.cells #[.int .i64 p.t.num, .int .i64 p.t.den, .int .i64 p.u.num, .int .i64 p.u.den] 25)).heap[w1.heap.size]? = some (.cells #[.int .i64 p.t.num, .int .i64 p.t.den, .int .i64 p.u.num, .int .i64 p.u.den] 25 (0, 0)) := World.alloc_heap_new w1 _
  have hw2 : Below w.heap.size w (w1.alloc (.cells #[.int .i64 p.t.num, .int .i64 p.t.den, .int .i64 p.u.num, .int .i64 p.u.den] 25)) := h1.below.alloc h1.below.size _
  generalize w1.alloc (.cells #[.int .i64 p.t.num, .int .i64 p.t.den, .int .i64 p.u.num, .int .i64 p.u.den] 25) = w2 at *
  generalize w1.heap.size = B at *
  refine NewI.mk fun b1 hb1 => ?_
  apply CallI.use1
  focus (exact fun w3 h3 => zschecked_any [⟨a, l.length, cap⟩] [l] (by simp) _ _ w3 (shown_one (hS.go h3.below h3.below.size) rfl) (Sl.own (l := [(⟨a, l.length, cap⟩ : Svl)]) h3 0 rfl rfl rfl (Nat.le_refl _) (by simp [maxLen])))
  intro w3 v3 h3 hB3
  have g3 := at_belowM h3 (by simp)
  have hbox3 := (hB3.block B (Nat.lt_of_lt_of_le (lt_cellsM hbox) g3.size)).trans ((g3.block B (lt_cellsM hbox)).trans hbox)
  unfold Zs.has
  refine Branch.mk (fun hc => ?_) (fun hc => ?_)
  · have h0 : Cv.checked [l] ≠ 0 := by simpa using hc
    rw [if_neg h0]
    exact EndI.mk fun w9 h9 => rfl
  have h0 : Cv.checked [l] = 0 := by simpa using hc
  rw [if_pos h0]
  have htop := fun w => top_any 3 w
  rw [Zo.top3] at htop
  have hof := fun (w : World) a c h => zof_any 3 a c (Dbm.topL 3) w h
  rw [Zs.free_of] at hof
  apply CallI.use
  focus (exact fun w4 h4 => htop w4)
  rintro v w4 v4 h4 hB4 ⟨a2, c2, rfl, hO2⟩
  have g4 := at_belowM h4 (by simp)
  have hbox4 := (hB4.block B (Nat.lt_of_lt_of_le (lt_cellsM hbox3) g4.size)).trans ((g4.block B (lt_cellsM hbox3)).trans hbox3)
  refine NewI.mk fun b2 hb2 => ?_
  apply CallI.use1
  focus (exact fun w5 h5 => hof w5 a2 c2 (hO2.below (at_belowM h5 (by simp <;> omega))).sl)
  intro w5 v5 h5 hB5
  have g5 : Below v4.heap.size v4 w5 := at_belowM h5 (by simp <;> omega)
  have hbox5 := (hB5.block B (Nat.lt_of_lt_of_le (lt_cellsM hbox4) g5.size)).trans ((g5.block B (lt_cellsM hbox4)).trans hbox4)
  have hBv4 := lt_cellsM hbox4
  refine NewI.mk fun b3 hb3 => ?_
  have hb3' : v5.heap.size ≤ b3 := hb3
  have hBv5 := lt_cellsM hbox5
  refine LoadA.mk ⟨[.int .i64 p.t.num, .int .i64 p.t.den, .int .i64 p.u.num, .int .i64 p.u.den], ⟨rfl, by decide, by simp; omega, cell_nM hbox5⟩, ?_⟩
  apply CallI.use
  focus (exact fun w6 h6 => zhas_any Zs.free p hp w6)
  rintro v w6 v6 h6 hB6 rfl
  have g6 : Below v5.heap.size v5 w6 := at_belowM h6 (by simp <;> omega)
  have hbox6 := (hB6.block B (Nat.lt_of_lt_of_le hBv5 g6.size)).trans ((g6.block B hBv5).trans hbox5)
  generalize Zo.has Zs.free p = X at *
  obtain ⟨x, e⟩ := X
  refine Branch.mk (fun hc2 => ?_) (fun hc2 => ?_)
  · have h1 : e ≠ 0 := by simpa using hc2
    rw [if_neg (by exact h1)]
    exact EndI.mk fun w9 h9 => rfl
  have h1 : e = 0 := by simpa using hc2
  rw [if_pos (by exact h1)]
  have hBv6 := lt_cellsM hbox6
  apply CallI.use1
  focus (exact fun w7 h7 => containsZ_pure l (fun z => decide ((Zo.has z p).2 = 0) && (Zo.has z p).1) a cap 69 #[.pointer (some ⟨B, 0, none⟩)] w7 (hS.go h7.below h7.below.size) Tryz.call69 (fun x W hx hW => has1_any x p hp B W ((hW.block B (Nat.lt_of_lt_of_le hBv6 (at_belowM h7 (by simp <;> omega)).size)).trans (((at_belowM h7 (by simp <;> omega)).block B hBv6).trans hbox6))))
  intro w7 v7 h7 hB7
  exact EndI.mk fun w9 h9 => rfl
end Go.Proofs.YtodpgcdandechaaGreat

/-
  Plain laws of sets of zones: the points of what two zones have in common, of unions, of pairs. No program is in sight.
-/
namespace Go.Proofs.YtodpgcdandechaaGreat
set_option linter.unusedVariables false
set_option linter.unusedSimpArgs false
open Go.RowKit Go.Proofs.YtodpgcdandechaaGreat.Eng Enc
namespace Zo
open Mi Dbm
theorem mayC_min {x y : Int} (hx : mayC x = true) (hy : mayC y = true) : mayC (min x y) = true := by
  by_cases h : x ≤ y
  · rw [Int.min_eq_left h]; exact hx
  · rw [Int.min_eq_right (by omega)]; exact hy
theorem chk_lessr {n : Int} {L M : List Int} (h1 : Dbm.chk n L = 0) (h2 : Dbm.chk n M = 0) : Dbm.chk n (lessr L M) = 0 := by
  obtain ⟨a1, a2, a3, a4⟩ := chk_iff.1 h1
  obtain ⟨b1, b2, b3, b4⟩ := chk_iff.1 h2
  refine chk_iff.2 ⟨a1, a2, by rw [lessr_len]; exact a3, ?_⟩
  rw [List.any_eq_false] at a4 b4 ⊢
  intro z hz
  unfold lessr at hz
  obtain ⟨q, hq, rfl⟩ := List.mem_map.1 hz
  have hq := List.mem_range.1 hq
  have e1 := List.getElem?_eq_getElem (l := L) (i := q) hq
  have e2 := List.getElem?_eq_getElem (l := M) (i := q) (by omega)
  have k1 := a4 _ (List.getElem_mem hq)
  have k2 := b4 _ (List.getElem_mem (by omega : q < M.length))
  rw [e1, e2]
  simp only [Option.getD_some, Bool.not_eq_true', Bool.not_eq_true, Bool.not_eq_false] at k1 k2 ⊢
  exact mayC_min k1 k2
theorem fits_lessr {N : Nat} {L M : List Int} (h1 : Dbm.chk N L = 0) (h2 : Dbm.chk N M = 0) (t : Nat → Rat) : Fits N (mx N (lessr L M)) t ↔ Fits N (mx N L) t ∧ Fits N (mx N M) t := by
  have l1 := chk_lenK h1
  have l2 := chk_lenK h2
  have key : ∀ i j, i < N → j < N → (satO (t i - t j) (mx N (lessr L M) i j) ↔ satO (t i - t j) (mx N L i j) ∧ satO (t i - t j) (mx N M i j)) := fun i j hi hj => by
    have hp := place_lt hi hj
    have e : (lessr L M)[i * N + j]?.getD 0 = min (L[i * N + j]?.getD 0) (M[i * N + j]?.getD 0) := by
      unfold lessr
      rw [List.getElem?_map, List.getElem?_range (by omega)]; rfl
    unfold mx
    rw [e]
    exact satO_min _ _ _ (lim_lt (chk_limK h1 i j hi hj) (by decide)) (lim_lt (chk_limK h2 i j hi hj) (by decide))
  constructor
  · exact fun h => ⟨fun i j hi hj => ((key i j hi hj).1 (h i j hi hj)).1, fun i j hi hj => ((key i j hi hj).1 (h i j hi hj)).2⟩
  · exact fun h i j hi hj => (key i j hi hj).2 ⟨h.1 i j hi hj, h.2 i j hi hj⟩
theorem meet_of {a b : Zn} (ha : chk a = 0) (hb : chk b = 0) : meet a b = of 3 (lessr (matL a) (matL b)) := by
  have h1 := (clo ha).1
  have h2 := (clo hb).1
  have e : Tg.meet 3 (matL a) 3 (matL b) = Dbm.close 3 (lessr (matL a) (matL b)) := by
    unfold Tg.meet
    rw [if_neg (by rintro (h | h); exact h h1; exact h h2), if_neg (by decide)]
  have c3 : Dbm.chk 3 (lessr (matL a) (matL b)) = 0 := chk_lessr h1 h2
  unfold meet of
  rw [if_pos (checks_two.2 ⟨ha, hb⟩), if_pos c3, if_pos rfl, e]
theorem meet_ok {a b : Zn} (ha : chk a = 0) (hb : chk b = 0) (h : (meet a b).2 = 0) : chk (meet a b).1 = 0 ∧ ∀ t, Fz (meet a b).1 t ↔ Fz a t ∧ Fz b t := by
  rw [meet_of ha hb] at h ⊢
  obtain ⟨h1, h2⟩ := of_ok h
  exact ⟨h1, fun t => (h2 t).trans (fits_lessr (N := 3) (clo ha).1 (clo hb).1 t)⟩
theorem meet_none {a b : Zn} (ha : chk a = 0) (hb : chk b = 0) (h : (meet a b).2 = 6) (t : Nat → Rat) : ¬ (Fz a t ∧ Fz b t) := by
  rw [meet_of ha hb] at h
  intro hf
  exact of_none h t ((fits_lessr (N := 3) (clo ha).1 (clo hb).1 t).2 hf)
end Zo
namespace Zs
open Mi Dbm
/-- the points of a list of zones. -/
def Pts (l : List Zn) (t : Nat → Rat) : Prop := ∃ z, z ∈ l ∧ Fz z t
theorem checked_ok {ls : List (List Zn)} : Cv.checked ls = 0 ↔ ∀ l, l ∈ ls → l.length ≤ 4096 ∧ ∀ z, z ∈ l → Zo.chk z = 0 := by
  unfold Cv.checked
  constructor
  · intro h l hl
    split at h
    · cases h
    · rename_i h1
      split at h
      · cases h
      · rename_i h2
        rw [List.any_eq_true] at h1 h2
        refine ⟨?_, fun z hz => ?_⟩
        · apply Classical.byContradiction; intro hh; exact h1 ⟨l, hl, decide_eq_true (by omega)⟩
        · apply Classical.byContradiction; intro hh; exact h2 ⟨l, hl, List.any_eq_true.2 ⟨z, hz, by simpa [Cv.odd] using hh⟩⟩
  · intro h
    rw [if_neg, if_neg]
    · rw [List.any_eq_true]
      rintro ⟨l, hl, k⟩
      obtain ⟨z, hz, k⟩ := List.any_eq_true.1 k
      have := (h l hl).2 z hz
      simp [Cv.odd, this] at k
    · rw [List.any_eq_true]
      rintro ⟨l, hl, k⟩
      have := (h l hl).1
      simp at k; omega
theorem pts_prune {l : List Zn} (h : (Cv.prune l).2 = 0) (t : Nat → Rat) : Pts (Cv.prune l).1 t ↔ Pts l t := ((Cv.prune_ok h).pts t).symm
theorem come_ok (f : Zn → Zn × Int) : ∀ (l out : List Zn), (come f out l).2 = 0 →
    (∃ m, (Cv.prune m).2 = 0 ∧ come f out l = Cv.prune m) ∧ (∀ x, x ∈ l → (f x).2 = 0 ∨ (f x).2 = 6) ∧ ∀ t, Pts (come f out l).1 t ↔ Pts out t ∨ ∃ x, x ∈ l ∧ (f x).2 = 0 ∧ Fz (f x).1 t
  | [], out, h => by
    change (Cv.prune out).2 = 0 at h
    refine ⟨⟨out, h, rfl⟩, (fun x hx => (nomatch hx)), fun t => ?_⟩
    show Pts (Cv.prune out).1 t ↔ _
    rw [pts_prune h t]
    exact ⟨.inl, fun k => k.elim id fun ⟨x, hx, _⟩ => (nomatch hx)⟩
  | x :: l, out, h => by
    rw [come_cons] at h ⊢
    by_cases h0 : (f x).2 = 0
    · rw [if_pos h0] at h ⊢
      obtain ⟨k1, k2, k3⟩ := come_ok f l _ h
      refine ⟨k1, fun y hy => (List.mem_cons.1 hy).elim (fun e => e ▸ .inl h0) (k2 y), fun t => (k3 t).trans ?_⟩
      constructor
      · rintro (⟨z, hz, hf⟩ | ⟨y, hy, hf⟩)
        · rcases List.mem_append.1 hz with hz | hz
          · exact .inl ⟨z, hz, hf⟩
          · rw [List.mem_singleton.1 hz] at hf; exact .inr ⟨x, by simp, h0, hf⟩
        · exact .inr ⟨y, List.mem_cons_of_mem _ hy, hf⟩
      · rintro (⟨z, hz, hf⟩ | ⟨y, hy, h1, hf⟩)
        · exact .inl ⟨z, List.mem_append_left _ hz, hf⟩
        · rcases List.mem_cons.1 hy with rfl | hy
          · exact .inl ⟨_, List.mem_append_right _ (by simp), hf⟩
          · exact .inr ⟨y, hy, h1, hf⟩
    · rw [if_neg h0] at h ⊢
      by_cases h6 : (f x).2 = 6
      · rw [if_pos h6] at h ⊢
        obtain ⟨k1, k2, k3⟩ := come_ok f l _ h
        refine ⟨k1, fun y hy => (List.mem_cons.1 hy).elim (fun e => e ▸ .inr h6) (k2 y), fun t => (k3 t).trans ?_⟩
        constructor
        · rintro (hf | ⟨y, hy, hf⟩)
          · exact .inl hf
          · exact .inr ⟨y, List.mem_cons_of_mem _ hy, hf⟩
        · rintro (hf | ⟨y, hy, h1, hf⟩)
          · exact .inl hf
          · rcases List.mem_cons.1 hy with rfl | hy
            · exact absurd h1 h0
            · exact .inr ⟨y, hy, h1, hf⟩
      · rw [if_neg h6] at h
        exact absurd h h0
theorem pairGo_ok (f : Zn → Zn → Zn × Int) (b : List Zn) : ∀ (a out : List Zn), (pairGo f b out a).2 = 0 →
    ((a = [] ∧ (pairGo f b out a).1 = out) ∨ ∃ m, (Cv.prune m).2 = 0 ∧ (pairGo f b out a).1 = (Cv.prune m).1) ∧ (∀ x y, x ∈ a → y ∈ b → (f x y).2 = 0 ∨ (f x y).2 = 6) ∧ ∀ t, Pts (pairGo f b out a).1 t ↔ Pts out t ∨ ∃ x y, x ∈ a ∧ y ∈ b ∧ (f x y).2 = 0 ∧ Fz (f x y).1 t
  | [], out, h => ⟨.inl ⟨rfl, rfl⟩, (fun x y hx => (nomatch hx)), fun t => ⟨.inl, fun k => k.elim id fun ⟨x, y, hx, _⟩ => (nomatch hx)⟩⟩
  | x :: a, out, h => by
    rw [pairGo_cons] at h ⊢
    by_cases h0 : (come (f x) out b).2 = 0
    · rw [if_pos h0] at h ⊢
      obtain ⟨⟨m, hm1, hm2⟩, c2, c3⟩ := come_ok (f x) b out h0
      obtain ⟨k1, k2, k3⟩ := pairGo_ok f b a _ h
      refine ⟨.inr ?_, fun y z hy hz => (List.mem_cons.1 hy).elim (fun e => e ▸ c2 z hz) fun hy => k2 y z hy hz, fun t => (k3 t).trans ?_⟩
      · rcases k1 with ⟨_, e⟩ | k
        · exact ⟨m, hm1, by rw [e, hm2]⟩
        · exact k
      · rw [c3 t]
        constructor
        · rintro ((hf | ⟨y, hy, h1, hf⟩) | ⟨z, y, hz, hy, h1, hf⟩)
          · exact .inl hf
          · exact .inr ⟨x, y, by simp, hy, h1, hf⟩
          · exact .inr ⟨z, y, List.mem_cons_of_mem _ hz, hy, h1, hf⟩
        · rintro (hf | ⟨z, y, hz, hy, h1, hf⟩)
          · exact .inl (.inl hf)
          · rcases List.mem_cons.1 hz with rfl | hz
            · exact .inl (.inr ⟨y, hy, h1, hf⟩)
            · exact .inr ⟨z, y, hz, hy, h1, hf⟩
    · rw [if_neg h0] at h
      exact absurd h h0
/-- what is answered of a set: as it has to be, where that is answered. -/
def Fine (m : List Zn) : Prop := m.length ≤ 4096 ∧ (∀ z, z ∈ m → Zo.chk z = 0) ∧ ((Cv.prune m).2 = 0 → (Cv.prune m).1 = m)
theorem fine_nil : Fine [] := ⟨by simp, fun z hz => (nomatch hz), fun h => List.eq_nil_iff_forall_not_mem.2 fun x hx => nomatch (Cv.prune_ok h).mem x hx⟩
theorem fine_prune {l : List Zn} (h : (Cv.prune l).2 = 0) : Fine (Cv.prune l).1 := by
  have hw := Cv.prune_ok h
  exact ⟨Nat.le_trans hw.mlen hw.len, fun z hz => hw.chk z (hw.mem z hz), fun h2 => hw.again h2⟩
theorem paired_ok {f : Zn → Zn → Zn × Int} {a b : List Zn} (h : (paired f a b).2 = 0) : Cv.checked [a, b] = 0 ∧ Fine (paired f a b).1 ∧ (∀ x y, x ∈ a → y ∈ b → (f x y).2 = 0 ∨ (f x y).2 = 6) ∧ ∀ t, Pts (paired f a b).1 t ↔ ∃ x y, x ∈ a ∧ y ∈ b ∧ (f x y).2 = 0 ∧ Fz (f x y).1 t := by
  unfold paired at h ⊢
  by_cases h0 : Cv.checked [a, b] = 0
  · rw [if_pos h0] at h ⊢
    obtain ⟨k1, k2, k3⟩ := pairGo_ok f b a [] h
    refine ⟨h0, ?_, k2, fun t => (k3 t).trans ⟨fun k => k.elim (fun ⟨z, hz, _⟩ => (nomatch hz)) id, .inr⟩⟩
    rcases k1 with ⟨_, e⟩ | ⟨m, hm, e⟩
    · rw [e]; exact fine_nil
    · rw [e]; exact fine_prune hm
  · rw [if_neg h0] at h
    exact absurd h h0
theorem or_ok {a b : List Zn} (h : (or a b).2 = 0) : Cv.checked [a, b] = 0 ∧ Fine (or a b).1 ∧ ∀ t, Pts (or a b).1 t ↔ Pts a t ∨ Pts b t := by
  unfold or at h ⊢
  by_cases h0 : Cv.checked [a, b] = 0
  · rw [if_pos h0] at h ⊢
    refine ⟨h0, fine_prune h, fun t => (pts_prune h t).trans ?_⟩
    constructor
    · rintro ⟨z, hz, hf⟩
      exact (List.mem_append.1 hz).elim (fun hz => .inl ⟨z, hz, hf⟩) fun hz => .inr ⟨z, hz, hf⟩
    · rintro (⟨z, hz, hf⟩ | ⟨z, hz, hf⟩)
      · exact ⟨z, List.mem_append_left _ hz, hf⟩
      · exact ⟨z, List.mem_append_right _ hz, hf⟩
  · rw [if_neg h0] at h
    exact absurd h h0
theorem checked2 {a b : List Zn} (h : Cv.checked [a, b] = 0) : (∀ z, z ∈ a → Zo.chk z = 0) ∧ ∀ z, z ∈ b → Zo.chk z = 0 := ⟨(checked_ok.1 h a (by simp)).2, (checked_ok.1 h b (by simp)).2⟩
theorem and_ok {a b : List Zn} (h : (and a b).2 = 0) : Cv.checked [a, b] = 0 ∧ Fine (and a b).1 ∧ ∀ t, Pts (and a b).1 t ↔ Pts a t ∧ Pts b t := by
  obtain ⟨h0, h1, h2, h3⟩ := paired_ok h
  obtain ⟨ca, cb⟩ := checked2 h0
  refine ⟨h0, h1, fun t => (h3 t).trans ?_⟩
  constructor
  · rintro ⟨x, y, hx, hy, he, hf⟩
    have := ((Zo.meet_ok (ca x hx) (cb y hy) he).2 t).1 hf
    exact ⟨⟨x, hx, this.1⟩, y, hy, this.2⟩
  · rintro ⟨⟨x, hx, h1⟩, y, hy, hf⟩
    rcases h2 x y hx hy with he | he
    · exact ⟨x, y, hx, hy, he, ((Zo.meet_ok (ca x hx) (cb y hy) he).2 t).2 ⟨h1, hf⟩⟩
    · exact absurd ⟨h1, hf⟩ (Zo.meet_none (ca x hx) (cb y hy) he t)
theorem free_chk : Zo.chk free = 0 := by decide +kernel
theorem has_ok {l : List Zn} {p : Pt} (h : (has l p).2 = 0) : Cv.checked [l] = 0 ∧ p.t.ok = true ∧ p.u.ok = true ∧ ((has l p).1 = true ↔ Pts l (tvs [p.t, p.u])) := by
  unfold has at h ⊢
  by_cases h0 : Cv.checked [l] = 0
  case neg => rw [if_neg h0] at h; exact absurd h h0
  rw [if_pos h0] at h ⊢
  by_cases h1 : (Zo.has free p).2 = 0
  case neg => rw [if_neg h1] at h; exact absurd h h1
  rw [if_pos h1]
  obtain ⟨_, ht, hu⟩ := Cv.has_err h1
  refine ⟨h0, ht, hu, ?_⟩
  simp only [List.any_eq_true, Bool.and_eq_true, decide_eq_true_eq]
  have hc := (checked_ok.1 h0 l (by simp)).2
  constructor
  · rintro ⟨z, hz, _, hf⟩
    exact ⟨z, hz, (Zo.has_ok (hc z hz) ht hu).2.1 hf⟩
  · rintro ⟨z, hz, hf⟩
    obtain ⟨k1, k2⟩ := Zo.has_ok (hc z hz) ht hu
    exact ⟨z, hz, k1, k2.2 hf⟩
theorem has_err0 {m : List Zn} {p : Pt} (hm : Fine m) (ht : p.t.ok = true) (hu : p.u.ok = true) : (has m p).2 = 0 := by
  unfold has
  rw [if_pos (checked_ok.2 fun l hl => by rw [List.mem_singleton.1 hl]; exact ⟨hm.1, hm.2.1⟩), if_pos (Zo.has_ok free_chk ht hu).1]
end Zs
end Go.Proofs.YtodpgcdandechaaGreat

/-
  The document's answers: ref08.told, ref08.Common, by the engine.
-/
namespace Go.Proofs.YtodpgcdandechaaGreat
set_option linter.unusedVariables false
set_option linter.unusedSimpArgs false
set_option maxRecDepth 100000
open Go.RowKit Go.Proofs.YtodpgcdandechaaGreat.Eng Enc

namespace Zo
open Dbm
/-- the zone of a matrix that is closed, by the document's closing. -/
theorem of_rc {L : List Int} (h0 : Dbm.chk 3 L = 0) :
    ((rc 3 L).2.2 = false ∧ of 3 L = (nought, 6)) ∨ ((rc 3 L).2.2 = true ∧ (rc 3 L).1 = 3 ∧ (rc 3 L).2.1.length = 9 ∧ (∀ x, x ∈ (rc 3 L).2.1 → Dbm.int64 x) ∧ of 3 L = told (rc 3 L).2.1) := by
  have hcl : close 3 L = (match closeL 3 L with | some L' => (3, L', 0) | none => (0, [], 6)) := by unfold close; rw [if_pos h0]; rfl
  unfold of rc
  rw [if_pos h0, if_pos rfl]
  cases hC : closeL 3 L with
  | none =>
    rw [hC] at hcl; rw [hcl]
    left; exact ⟨rfl, rfl⟩
  | some C =>
    rw [hC] at hcl; rw [hcl]
    right
    have clo := close_clo (N := 3) h0 hC
    exact ⟨rfl, rfl, clo.len, Mi.clo_int64 clo, rfl⟩
end Zo
theorem rtold08_any (L : List Int) (h0 : Dbm.chk 3 L = 0) (a : Option Addr) (ca : Nat) (w : World) (hS : Sl w.heap.size w (.slice a (Dbm.rc 3 L).2.1.length ca) (Dbm.rc 3 L).2.1) :
    Calls Tryz.prog 121 #[.agg #[.int .i64 (Dbm.rc 3 L).1, .slice a (Dbm.rc 3 L).2.1.length ca], .bool (Dbm.rc 3 L).2.2] w fun e w' => e = .returned (.tuple #[.agg #[.int .i64 (Zo.of 3 L).1.a, .int .i64 (Zo.of 3 L).1.b, .int .i64 (Zo.of 3 L).1.c, .int .i64 (Zo.of 3 L).1.d, .int .i64 (Zo.of 3 L).1.e, .int .i64 (Zo.of 3 L).1.f], .int .i64 (Zo.of 3 L).2]) ∧ Below w.heap.size w w' := by
  have hor := Zo.of_rc h0
  generalize Dbm.rc 3 L = R at hS hor ⊢
  generalize Zo.of 3 L = W at hor ⊢
  obtain ⟨n3, C, is⟩ := R
  simp only at hS hor ⊢
  refine fun_eq 0 w Tryz.func121 (args := [.agg [.val (.int .i64 n3), .val (.slice a C.length ca)], .val (.bool is)]) rfl rfl ?_
  have st := Stay.first (w := w)
  refine NewI.mk fun b1 hb1 => ?_
  refine NewI.mk fun b2 hb2 => ?_
  rcases hor with ⟨e1, e2⟩ | ⟨e1, e2, e3, e5, e4⟩
  · subst e1; subst e2
    refine Branch.yes rfl ?_
    exact EndI.mk fun w9 h9 => rfl
  · subst e1; subst e2
    refine Branch.no rfl ?_
    apply CallI.use1
    focus (exact fun w3 h3 => rmay04_any 3 C ⟨by omega, by omega⟩ e5 a ca w3 (hS.st (st.at h3 (fun x hx => by simp at hx <;> omega))))
    intro w3 v3 h3 hB3
    have st := st.next h3 (fun x hx => by simp at hx <;> omega) hB3
    by_cases hk : Dbm.chk 3 C = 0
    · rw [decide_eq_true hk]
      unfold Zo.told at e4
      rw [if_pos hk] at e4
      subst e4
      refine Branch.no rfl ?_
      apply CallI.use1
      focus (exact fun w4 h4 => rshort_any 3 a ca C e3 w4 (hS.st (st.at h4 (fun x hx => by simp at hx <;> omega))))
      intro w4 v4 h4 hB4
      have st := st.next h4 (fun x hx => by simp at hx <;> omega) hB4
      exact EndI.mk fun w9 h9 => rfl
    · rw [decide_eq_false hk]
      unfold Zo.told at e4
      rw [if_neg hk] at e4
      subst e4
      refine Branch.yes rfl ?_
      exact EndI.mk fun w9 h9 => rfl
theorem rfullO_any (z : Zn) (w : World) :
    Calls Tryz.prog 123 #[.agg #[.int .i64 z.a, .int .i64 z.b, .int .i64 z.c, .int .i64 z.d, .int .i64 z.e, .int .i64 z.f]] w (Ret w fun v w' => ∃ a' c', v = .agg #[.int .i64 3, .slice a' (Zo.matL z).length c'] ∧ Own TB w.heap.size w' (.slice a' (Zo.matL z).length c') (Zo.matL z)) := by
  refine fun_ret 0 w Tryz.func123 (args := [.agg [.val (.int .i64 z.a), .val (.int .i64 z.b), .val (.int .i64 z.c), .val (.int .i64 z.d), .val (.int .i64 z.e), .val (.int .i64 z.f)]]) rfl rfl ?_
  refine NewI.mk fun b1 hb1 => ?_
  refine NewI.mk fun b2 hb2 => ?_
  refine Need.mk (by decide) ?_
  refine Need.mk (by decide) ?_
  refine Need.mk (by decide) ?_
  refine Need.mk (by decide) ?_
  refine Need.mk (by decide) ?_
  refine Need.mk (by decide) ?_
  refine NewI.mk fun b3 hb3 => ?_
  exact EndI.mk fun w9 h9 => ⟨_, _, rfl, Own.own (l := Zo.matL z) h9 2 rfl rfl rfl hb3 rfl (by simp [maxLen, Zo.matL])⟩
theorem rcommon08_any (x y : Zn) (hx : Zo.chk x = 0) (hy : Zo.chk y = 0) (w : World) :
    Calls Tryz.prog 162 #[.agg #[.int .i64 x.a, .int .i64 x.b, .int .i64 x.c, .int .i64 x.d, .int .i64 x.e, .int .i64 x.f], .agg #[.int .i64 y.a, .int .i64 y.b, .int .i64 y.c, .int .i64 y.d, .int .i64 y.e, .int .i64 y.f]] w fun e w' => e = .returned (.tuple #[.agg #[.int .i64 (Zo.meet x y).1.a, .int .i64 (Zo.meet x y).1.b, .int .i64 (Zo.meet x y).1.c, .int .i64 (Zo.meet x y).1.d, .int .i64 (Zo.meet x y).1.e, .int .i64 (Zo.meet x y).1.f], .int .i64 (Zo.meet x y).2]) ∧ Below w.heap.size w w' := by
  rw [Zo.meet_of hx hy]
  have h0 : Dbm.chk 3 (Dbm.lessr (Zo.matL x) (Zo.matL y)) = 0 := Zo.chk_lessr (Zo.clo hx).1 (Zo.clo hy).1
  refine fun_eq 0 w Tryz.func162 (args := [.agg [.val (.int .i64 x.a), .val (.int .i64 x.b), .val (.int .i64 x.c), .val (.int .i64 x.d), .val (.int .i64 x.e), .val (.int .i64 x.f)], .agg [.val (.int .i64 y.a), .val (.int .i64 y.b), .val (.int .i64 y.c), .val (.int .i64 y.d), .val (.int .i64 y.e), .val (.int .i64 y.f)]]) rfl rfl ?_
  have st := Stay.first (w := w)
  refine NewI.mk fun b1 hb1 => ?_
  refine NewI.mk fun b2 hb2 => ?_
  refine NewI.mk fun b3 hb3 => ?_
  refine DrawI.wr (.tk 0 (.tk 2 (.ev 1 (.ev 3 (.ev 4 (.tk 5 (.tk 6 (.ev 7 (.tk 8 (.tk 9 (.ev 10 (.tk 11 .done)))))))))))) [2] [] (by kernel_rfl) rfl (by simp) fun w1 h1 => ?_
  have st := Stay.start h1.below
  apply CallI.use
  focus (exact fun w2 h2 => rfull_any x w2)
  rintro v w2 v2 h2 hB2 ⟨a2, c2, rfl, hS2⟩
  have st := st.next h2 (fun x hx => by simp at hx <;> omega) hB2
  apply CallI.use
  focus (exact fun w3 h3 => rfull_any y w3)
  rintro v w3 v3 h3 hB3 ⟨a3, c3, rfl, hS3⟩
  have st := st.next h3 (fun x hx => by simp at hx <;> omega) hB3
  have hcom := fun w h k => rcommon_any 3 3 a2 a3 c2 c3 (Zo.matL x) (Zo.matL y) h0 (Nat.le_refl 9) w h k
  apply CallI.use
  focus (exact fun w4 h4 => hcom w4 (hS2.st (st.at h4 (fun x hx => by simp at hx <;> omega))) (hS3.st (st.at h4 (fun x hx => by simp at hx <;> omega))))
  rintro v w4 v4 h4 hB4 ⟨a4, c4, rfl, hO4⟩
  have st := st.next h4 (fun x hx => by simp at hx <;> omega) hB4
  apply CallI.use1
  focus (exact fun w5 h5 => rtold08_any _ h0 a4 c4 w5 ((hO4.st (st.at h5 (fun x hx => by simp at hx <;> omega))).sl))
  intro w5 v5 h5 hB5
  have st := st.next h5 (fun x hx => by simp at hx <;> omega) hB5
  exact EndI.mk fun w9 h9 => rfl
end Go.Proofs.YtodpgcdandechaaGreat

/-
  The document's answer of layer 14: a region's point and zone, by the engine.
-/
namespace Go.Proofs.YtodpgcdandechaaGreat
set_option linter.unusedVariables false
set_option linter.unusedSimpArgs false
set_option maxRecDepth 100000
open Go.RowKit Go.Proofs.YtodpgcdandechaaGreat.Eng Enc

theorem rat14_any (pl pa d : Int) (h : 0 ≤ pl ∧ pl ≤ 1000) (h3 : Rg.Three pa d) (w : World) :
    Calls Tryz.prog 117 #[.int .i64 pl, .int .i64 pa, .int .i64 d] w fun e w' => e = .returned (.agg #[.int .i64 (Rg.time pl pa d).num, .int .i64 (Rg.time pl pa d).den]) ∧ Below w.heap.size w w' := by
  refine fun_eq 0 w Tryz.func117 (args := [.val (.int .i64 pl), .val (.int .i64 pa), .val (.int .i64 d)]) rfl rfl ?_
  rw [(Rg.time_doc h h3).1]
  have hd : 2 ≤ d ∧ d ≤ 3 ∧ 0 ≤ pa ∧ pa ≤ 3 := by rcases h3 with h | h | h <;> omega
  have hm := Fr.mul_bd (u := pl / 2) (v := d) (m := 500) (n := 3) (by omega) (by omega) (by omega) (by omega)
  have e2 : pl.tdiv 2 = pl / 2 := Int.tdiv_eq_ediv_of_nonneg h.1
  have e3 : pl.tmod 2 = pl % 2 := Int.tmod_eq_emod_of_nonneg h.1
  refine NewI.mk fun b1 hb1 => ?_
  refine Need.mk (by decide) ?_
  refine Branch.mk (fun hc => ?_) (fun hc => ?_)
  · have he : pl % 2 = 0 := by rw [← e3]; simpa using hc
    rw [if_pos he]
    refine Need.mk ⟨by decide, by rw [e2]; simp only [inK]; omega⟩ ?_
    exact EndI.mk fun w3 h3 => by rw [e2]
  · have he : ¬ pl % 2 = 0 := by rw [← e3]; simpa using hc
    rw [if_neg he]
    refine Need.mk ⟨by decide, by rw [e2]; simp only [inK]; omega⟩ ?_
    refine Need.mk (by rw [e2]; simp only [inK]; omega) ?_
    refine Need.mk (by rw [e2]; simp only [inK]; omega) ?_
    exact EndI.mk fun w3 h3 => by rw [e2]
theorem rof14_any (n long : Int) (hl : 1 ≤ long ∧ long ≤ 16) (hn : 0 ≤ n ∧ n < 3 * (2 * long + 1) * (2 * long + 1)) (w : World) :
    Calls Tryz.prog 56 #[.int .i64 n, .int .i64 long] w fun e w' => e = .returned (.tuple #[.agg #[.int .i64 (Rg.pt n long).t.num, .int .i64 (Rg.pt n long).t.den, .int .i64 (Rg.pt n long).u.num, .int .i64 (Rg.pt n long).u.den], .bool (Rg.point n long).2]) ∧ Below w.heap.size w w' := by
  refine fun_eq 0 w Tryz.func56 (args := [.val (.int .i64 n), .val (.int .i64 long)]) rfl rfl ?_
  have hm := Fr.mul_bd (u := 3 * (2 * long + 1)) (v := 2 * long + 1) (m := 99) (n := 33) (by omega) (by omega) (by omega) (by omega)
  have e1 : n.tdiv 3 = n / 3 := Int.tdiv_eq_ediv_of_nonneg hn.1
  have e2 : (n.tdiv 3).tdiv (2 * long + 1) = n / 3 / Rg.sides long := by rw [e1]; exact Int.tdiv_eq_ediv_of_nonneg (by omega)
  have e3 : (n.tdiv 3).tmod (2 * long + 1) = n / 3 % Rg.sides long := by rw [e1]; exact Int.tmod_eq_emod_of_nonneg (by omega)
  have e4 : n.tmod 3 = n % 3 := Int.tmod_eq_emod_of_nonneg hn.1
  have hs : Rg.sides long = 2 * long + 1 := rfl
  have ht : 0 ≤ n / 3 / Rg.sides long ∧ n / 3 / Rg.sides long ≤ 1000 := by
    have h1 : 0 ≤ n / 3 / Rg.sides long := Int.ediv_nonneg (by omega) (by omega)
    have h2 : n / 3 / Rg.sides long < Rg.sides long := by
      refine Int.ediv_lt_of_lt_mul (by omega) ?_
      have : n < 3 * (Rg.sides long * Rg.sides long) := by rw [← Int.mul_assoc]; exact hn.2
      omega
    omega
  have hu : 0 ≤ n / 3 % Rg.sides long ∧ n / 3 % Rg.sides long ≤ 1000 := by
    have h1 := Int.emod_nonneg (n / 3) (b := Rg.sides long) (by omega)
    have h2 := Int.emod_lt_of_pos (n / 3) (b := Rg.sides long) (by omega)
    omega
  have h3 := Rg.parts_three (r := n % 3) (by omega)
  have hTok := (Rg.time_doc ht h3.1).2
  have hUok := (Rg.time_doc hu h3.2).2
  have hb := Rg.parts_three (r := n % 3) (by omega)
  have hins : (Rg.pt n long).ins := by
    have hp : (0 ≤ (Rg.parts (n % 3)).1 ∧ (Rg.parts (n % 3)).1 ≤ 10) ∧ (0 ≤ (Rg.parts (n % 3)).2.1 ∧ (Rg.parts (n % 3)).2.1 ≤ 10) ∧ (1 ≤ (Rg.parts (n % 3)).2.2 ∧ (Rg.parts (n % 3)).2.2 ≤ 10) := by
      rcases (by omega : n % 3 = 0 ∨ n % 3 = 1 ∨ n % 3 = 2) with h | h | h <;> rw [h] <;> simp [Rg.parts]
    exact ⟨Rg.time_ins ht hp.1 hp.2.2, Rg.time_ins hu hp.2.1 hp.2.2⟩
  have n1 : (3 : Int) ≠ 0 ∧ inK .i64 (n.tdiv 3) := ⟨by decide, by rw [e1]; simp only [inK]; omega⟩
  have A : ∀ (pl pa d : Int), 0 ≤ pl ∧ pl ≤ 1000 → Rg.Three pa d → ∀ w, Calls Tryz.prog 117 #[.int .i64 pl, .int .i64 pa, .int .i64 d] w fun e w' => e = .returned (.agg #[.int .i64 (Rg.time pl pa d).num, .int .i64 (Rg.time pl pa d).den]) ∧ Below w.heap.size w w' := fun pl pa d h h3 w => rat14_any pl pa d h h3 w
  refine NewI.mk fun b1 hb1 => ?_
  refine Need.mk n1 ?_
  refine Need.mk (by simp only [inK]; omega) ?_
  refine Need.mk (by simp only [inK]; omega) ?_
  refine Need.mk ⟨by omega, by rw [e2]; simp only [inK]; omega⟩ ?_
  refine Need.mk n1 ?_
  refine Need.mk (by simp only [inK]; omega) ?_
  refine Need.mk (by simp only [inK]; omega) ?_
  refine Need.mk (by omega) ?_
  conv => whnf
  rw [e2, e3]
  refine CallI.to1 (A _ 1 2 ht (.inl ⟨rfl, rfl⟩)) fun w2 => ?_
  refine CallI.to1 (A _ 1 2 hu (.inl ⟨rfl, rfl⟩)) fun w3 => ?_
  refine NewI.mk fun b2 hb2 => ?_
  refine Need.mk (by decide) ?_
  have hp : ∀ (p : Pt), Rg.pt n long = p → p.t.ok = true ∧ p.u.ok = true ∧ p.ins := fun p e => by subst e; exact ⟨hTok, hUok, hins⟩
  refine Branch.mk (fun hc => ?_) (fun hc => ?_)
  · have h0 : n % 3 = 0 := by rw [← e4]; simpa using hc
    have hpt : Rg.pt n long = ⟨Rg.time (n / 3 / Rg.sides long) 1 3, Rg.time (n / 3 % Rg.sides long) 2 3⟩ := by unfold Rg.pt; rw [h0]; rfl
    refine CallI.to1 (A _ 1 3 ht (.inr (.inl ⟨rfl, rfl⟩))) fun w2 => ?_
    refine CallI.to1 (A _ 2 3 hu (.inr (.inr ⟨rfl, rfl⟩))) fun w3 => ?_
    refine Need.mk (by decide) ?_
    refine Branch.no (by rw [e4, h0]; rfl) ?_
    refine DrawI.wr (.tk 0 (.tk 1 (.tk 2 (.tk 4 (.ev 3 (.tk 5 (.ev 6 (.tk 7 .done)))))))) [0] [] (by kernel_rfl) rfl (by simp) fun w1 h1 => ?_
    obtain ⟨o1, o2, o3⟩ := hp _ hpt
    unfold Rg.point
    rw [hpt]
    refine CallI.to1 (fun w => rnumber14_any ⟨Rg.time (n / 3 / Rg.sides long) 1 3, Rg.time (n / 3 % Rg.sides long) 2 3⟩ long o3 o1 o2 hl w) fun w4 => ?_
    exact EndI.mk fun w9 h9 => rfl
  · have h0 : ¬ n % 3 = 0 := by rw [← e4]; simpa using hc
    refine Need.mk (by decide) ?_
    refine Branch.mk (fun hc2 => ?_) (fun hc2 => ?_)
    · have h2 : n % 3 = 2 := by rw [← e4]; simpa using hc2
      have hpt : Rg.pt n long = ⟨Rg.time (n / 3 / Rg.sides long) 2 3, Rg.time (n / 3 % Rg.sides long) 1 3⟩ := by unfold Rg.pt; rw [h2]; rfl
      refine CallI.to1 (A _ 2 3 ht (.inr (.inr ⟨rfl, rfl⟩))) fun w2 => ?_
      refine CallI.to1 (A _ 1 3 hu (.inr (.inl ⟨rfl, rfl⟩))) fun w3 => ?_
      refine DrawI.wr (.tk 0 (.tk 1 (.tk 2 (.tk 4 (.ev 3 (.tk 5 (.ev 6 (.tk 7 .done)))))))) [0] [] (by kernel_rfl) rfl (by simp) fun w1 h1 => ?_
      obtain ⟨o1, o2, o3⟩ := hp _ hpt
      unfold Rg.point
      rw [hpt]
      refine CallI.to1 (fun w => rnumber14_any ⟨Rg.time (n / 3 / Rg.sides long) 2 3, Rg.time (n / 3 % Rg.sides long) 1 3⟩ long o3 o1 o2 hl w) fun w4 => ?_
      exact EndI.mk fun w9 h9 => rfl
    · have h2 : ¬ n % 3 = 2 := by rw [← e4]; simpa using hc2
      have h1 : n % 3 = 1 := by omega
      have hpt : Rg.pt n long = ⟨Rg.time (n / 3 / Rg.sides long) 1 2, Rg.time (n / 3 % Rg.sides long) 1 2⟩ := by unfold Rg.pt; rw [h1]; rfl
      refine DrawI.wr (.tk 0 (.tk 1 (.tk 2 (.tk 4 (.ev 3 (.tk 5 (.ev 6 (.tk 7 .done)))))))) [0] [] (by kernel_rfl) rfl (by simp) fun w1 h1 => ?_
      obtain ⟨o1, o2, o3⟩ := hp _ hpt
      unfold Rg.point
      rw [hpt]
      refine CallI.to1 (fun w => rnumber14_any ⟨Rg.time (n / 3 / Rg.sides long) 1 2, Rg.time (n / 3 % Rg.sides long) 1 2⟩ long o3 o1 o2 hl w) fun w4 => ?_
      exact EndI.mk fun w9 h9 => rfl
theorem rpoint14_any (n long : Int) (w : World) :
    Calls Tryz.prog 13 #[.int .i64 n, .int .i64 long] w fun e w' => e = .returned (.tuple #[.agg #[.int .i64 (Rg.askPoint n long).1.t.num, .int .i64 (Rg.askPoint n long).1.t.den, .int .i64 (Rg.askPoint n long).1.u.num, .int .i64 (Rg.askPoint n long).1.u.den], .int .i64 (Rg.askPoint n long).2]) ∧ Below w.heap.size w w' := by
  refine fun_eq 0 w Tryz.func13 (args := [.val (.int .i64 n), .val (.int .i64 long)]) rfl rfl ?_
  refine NewI.mk fun b1 hb1 => ?_
  (first
    | (refine CallI.to1 (rfits14_any long) fun w2 => ?_)
    | (refine Branch.yes rfl ?_)
    | (refine Branch.no rfl ?_)
    | (refine Branch.mk (fun hb => ?_) (fun hb => ?_))
    | (refine NewI.mk fun nb hnb => ?_)
    | (refine Need.mk (by show _ ∧ _; omega) ?_)
    | (refine Need.mk (by omega) ?_)
    | (refine Need.mk ?_ ?_)
    | (refine EndI.mk fun w1 h1 => ?_))
  unfold Rg.askPoint
  refine Branch.mk (fun hc => ?_) (fun hc => ?_)
  · have hf : Rg.fits long = false := by simpa using hc
    refine EndI.mk fun w3 h3 => ?_
    rw [if_pos (.inl (by unfold Rg.many; rw [hf]; simp))]; rfl
  have hf : Rg.fits long = true := by simpa using hc
  have hl := Rg.fits_iff.1 hf
  rw [Rg.many_doc hl]
  refine Branch.mk (fun hc2 => ?_) (fun hc2 => ?_)
  · refine EndI.mk fun w3 h3 => ?_
    rw [if_pos (.inr (.inl (by simpa using hc2)))]; rfl
  have h0 : ¬ n < 0 := by simpa using hc2
  (first
    | (refine CallI.to1 (rcount14_any long hl) fun w2 => ?_)
    | (refine Branch.yes rfl ?_)
    | (refine Branch.no rfl ?_)
    | (refine Branch.mk (fun hb => ?_) (fun hb => ?_))
    | (refine NewI.mk fun nb hnb => ?_)
    | (refine Need.mk (by show _ ∧ _; omega) ?_)
    | (refine Need.mk (by omega) ?_)
    | (refine Need.mk ?_ ?_)
    | (refine EndI.mk fun w1 h1 => ?_))
  refine Branch.mk (fun hc3 => ?_) (fun hc3 => ?_)
  · refine EndI.mk fun w3 h3 => ?_
    rw [if_pos (.inr (.inr (by simpa using hc3)))]; rfl
  have h1 : ¬ 3 * (2 * long + 1) * (2 * long + 1) ≤ n := by simpa using hc3
  rw [if_neg (by simp only; omega)]
  (first
    | (refine CallI.to1 (rof14_any n long hl (by omega)) fun w2 => ?_)
    | (refine Branch.yes rfl ?_)
    | (refine Branch.no rfl ?_)
    | (refine Branch.mk (fun hb => ?_) (fun hb => ?_))
    | (refine NewI.mk fun nb hnb => ?_)
    | (refine Need.mk (by show _ ∧ _; omega) ?_)
    | (refine Need.mk (by omega) ?_)
    | (refine Need.mk ?_ ?_)
    | (refine EndI.mk fun w1 h1 => ?_))
  refine NewI.mk fun b2 hb2 => ?_
  refine Branch.mk (fun hc4 => ?_) (fun hc4 => ?_)
  · refine EndI.mk fun w3 h3 => ?_
    rw [if_neg (by have h4 : (Rg.point n long).2 = false := by simpa using hc4
                   rw [h4]; simp)]; rfl
  · refine EndI.mk fun w3 h3 => ?_
    rw [if_pos (by simpa using hc4)]
theorem raround14_any (pl : Int) (h : -1000 ≤ pl ∧ pl ≤ 1000) (w : World) :
    Calls Tryz.prog 59 #[.int .i64 pl] w fun e w' => e = .returned (.agg #[.int .i64 (Rg.around pl).lo, .bool (Rg.around pl).ls, .int .i64 (Rg.around pl).hi, .bool (Rg.around pl).hs, .bool (Rg.around pl).op]) ∧ Below w.heap.size w w' := by
  refine fun_eq 0 w Tryz.func59 (args := [.val (.int .i64 pl)]) rfl rfl ?_
  refine NewI.mk fun b1 hb1 => ?_
  have hb := Rg.tdiv2_bd h
  have hz : pl.tmod 2 = 0 ↔ pl % 2 = 0 := by rw [Int.tmod_eq_emod]; split <;> omega
  unfold Rg.around
  refine Need.mk (by decide) ?_
  refine Branch.mk (fun hc => ?_) (fun hc => ?_)
  · have he : pl % 2 = 0 := hz.1 (by simpa using hc)
    rw [if_pos he]
    refine Need.mk ⟨by decide, by simp only [inK]; omega⟩ ?_
    refine Need.mk ⟨by decide, by simp only [inK]; omega⟩ ?_
    exact EndI.mk fun w3 h3 => rfl
  · have he : ¬ pl % 2 = 0 := fun e => by simp [hz.2 e] at hc
    rw [if_neg he]
    refine Need.mk ⟨by decide, by simp only [inK]; omega⟩ ?_
    refine Need.mk ⟨by decide, by simp only [inK]; omega⟩ ?_
    refine Need.mk (by simp only [inK]; omega) ?_
    exact EndI.mk fun w3 h3 => rfl
/-- a span whose numbers are no greater than may be. -/
def Sp.fit (s : Sp) : Prop := (-288230376151711744 ≤ s.lo ∧ s.lo ≤ 288230376151711744) ∧ (s.op = true ∨ -288230376151711744 ≤ s.hi ∧ s.hi ≤ 288230376151711744)
theorem rabove_any (s : Sp) (h : s.fit) (w : World) :
    Calls Tryz.prog 119 #[.agg #[.int .i64 s.lo, .bool s.ls, .int .i64 s.hi, .bool s.hs, .bool s.op]] w fun e w' => e = .returned (.int .i64 (Rg.ab s)) ∧ Below w.heap.size w w' := by
  refine fun_eq 0 w Tryz.func119 (args := [.agg [.val (.int .i64 s.lo), .val (.bool s.ls), .val (.int .i64 s.hi), .val (.bool s.hs), .val (.bool s.op)]]) rfl rfl ?_
  refine NewI.mk fun b1 hb1 => ?_
  unfold Rg.ab
  refine Branch.mk (fun hc => ?_) (fun hc => ?_)
  · rw [if_pos hc]
    exact EndI.mk fun w3 h3 => rfl
  · have h2 : -288230376151711744 ≤ s.hi ∧ s.hi ≤ 288230376151711744 := by rcases h.2 with h | h; rw [h] at hc; cases hc; exact h
    rw [if_neg (by rw [hc]; simp)]
    refine CallI.to0 (fun w => rmade_any s.hi s.hs (by omega) (by omega) w) fun w2 => ?_
    exact EndI.mk fun w3 h3 => rfl
theorem rbelow_any (s : Sp) (h : s.fit) (w : World) :
    Calls Tryz.prog 120 #[.agg #[.int .i64 s.lo, .bool s.ls, .int .i64 s.hi, .bool s.hs, .bool s.op]] w fun e w' => e = .returned (.int .i64 (Rg.be s)) ∧ Below w.heap.size w w' := by
  refine fun_eq 0 w Tryz.func120 (args := [.agg [.val (.int .i64 s.lo), .val (.bool s.ls), .val (.int .i64 s.hi), .val (.bool s.hs), .val (.bool s.op)]]) rfl rfl ?_
  have h1 := h.1
  refine NewI.mk fun b1 hb1 => ?_
  refine Need.mk (by simp only [inK]; omega) ?_
  refine CallI.to0 (fun w => rmade_any (0 - s.lo) s.ls (by omega) (by omega) w) fun w2 => ?_
  exact EndI.mk fun w3 h3 => rfl
theorem rmade08_any (t u d : Sp) (ht : t.fit) (hu : u.fit) (hd : d.fit) (h0 : Dbm.chk 3 (Zo.matL (Rg.raw t u d)) = 0) (w : World) :
    Calls Tryz.prog 60 #[.agg #[.int .i64 t.lo, .bool t.ls, .int .i64 t.hi, .bool t.hs, .bool t.op], .agg #[.int .i64 u.lo, .bool u.ls, .int .i64 u.hi, .bool u.hs, .bool u.op], .agg #[.int .i64 d.lo, .bool d.ls, .int .i64 d.hi, .bool d.hs, .bool d.op]] w fun e w' => e = .returned (.tuple #[.agg #[.int .i64 (Zo.of 3 (Zo.matL (Rg.raw t u d))).1.a, .int .i64 (Zo.of 3 (Zo.matL (Rg.raw t u d))).1.b, .int .i64 (Zo.of 3 (Zo.matL (Rg.raw t u d))).1.c, .int .i64 (Zo.of 3 (Zo.matL (Rg.raw t u d))).1.d, .int .i64 (Zo.of 3 (Zo.matL (Rg.raw t u d))).1.e, .int .i64 (Zo.of 3 (Zo.matL (Rg.raw t u d))).1.f], .int .i64 (Zo.of 3 (Zo.matL (Rg.raw t u d))).2]) ∧ Below w.heap.size w w' := by
  refine fun_eq 0 w Tryz.func60 (args := [.agg [.val (.int .i64 t.lo), .val (.bool t.ls), .val (.int .i64 t.hi), .val (.bool t.hs), .val (.bool t.op)], .agg [.val (.int .i64 u.lo), .val (.bool u.ls), .val (.int .i64 u.hi), .val (.bool u.hs), .val (.bool u.op)], .agg [.val (.int .i64 d.lo), .val (.bool d.ls), .val (.int .i64 d.hi), .val (.bool d.hs), .val (.bool d.op)]]) rfl rfl ?_
  refine NewI.mk fun b1 hb1 => ?_
  refine NewI.mk fun b2 hb2 => ?_
  refine NewI.mk fun b3 hb3 => ?_
  refine NewI.mk fun b4 hb4 => ?_
  refine DrawI.go (.tk 0 (.tk 2 (.tk 4 (.tk 6 (.tk 8 (.tk 10 (.two 1 (.two 3 (.two 5 (.two 7 (.two 9 (.two 11 (.tk 12 (.ev 13 (.ev 14 .done))) 13 (.ev 11 (.tk 12 (.ev 14 .done)))) 13 (.ev 9 (.ev 11 (.tk 12 (.ev 14 .done))))) 13 (.ev 7 (.ev 9 (.ev 11 (.tk 12 (.ev 14 .done)))))) 13 (.ev 5 (.ev 7 (.ev 9 (.ev 11 (.tk 12 (.ev 14 .done))))))) 13 (.ev 3 (.ev 5 (.ev 7 (.ev 9 (.ev 11 (.tk 12 (.ev 14 .done)))))))) 13 (.ev 1 (.ev 3 (.ev 5 (.ev 7 (.ev 9 (.ev 11 (.tk 12 (.ev 14 .done))))))))))))))) (by kernel_rfl) fun w1 h1 => ?_
  refine Both.mk ?_ ?_
  · skip
    refine CallI.to1 (fun w => rabove_any t ht w) fun w11 => ?_
    refine Both.mk ?_ ?_
    · skip
      refine CallI.to1 (fun w => rbelow_any t ht w) fun w12 => ?_
      refine Both.mk ?_ ?_
      · skip
        refine CallI.to1 (fun w => rabove_any u hu w) fun w13 => ?_
        refine Both.mk ?_ ?_
        · skip
          refine CallI.to1 (fun w => rbelow_any u hu w) fun w14 => ?_
          refine Both.mk ?_ ?_
          · skip
            refine CallI.to1 (fun w => rabove_any d hd w) fun w15 => ?_
            refine Both.mk ?_ ?_
            · skip
              refine CallI.to1 (fun w => rbelow_any d hd w) fun w16 => ?_
              refine NewI.mk fun b5 hb5 => ?_
              apply CallI.use
              focus (exact fun w27 h27 => rfull_any (Rg.raw t u d) w27)
              rintro v w27 v27 h27 hB27 ⟨a7, c7, rfl, hS7⟩
              have st := Stay.start (h27.below.trans (hB27.mono h27.below.size))
              have hcl := fun w h => rclosed_any (N := 3) (L := Zo.matL (Rg.raw t u d)) h0 a7 c7 w h
              apply CallI.use
              focus (exact fun w28 h28 => hcl w28 (hS7.st (st.at h28 (fun x hx => by simp at hx <;> omega))))
              rintro v w28 v28 h28 hB28 ⟨a8, c8, rfl, hO8⟩
              have st := st.next h28 (fun x hx => by simp at hx <;> omega) hB28
              apply CallI.use1
              focus (exact fun w29 h29 => rtold08_any _ h0 a8 c8 w29 ((hO8.st (st.at h29 (fun x hx => by simp at hx <;> omega))).sl))
              intro w29 v29 h29 hB29
              have st := st.next h29 (fun x hx => by simp at hx <;> omega) hB29
              exact EndI.mk fun w9 h9 => rfl
            · refine NewI.mk fun b5 hb5 => ?_
              refine CallI.to1 (fun w => rbelow_any d hd w) fun w16 => ?_
              apply CallI.use
              focus (exact fun w27 h27 => rfull_any (Rg.raw t u d) w27)
              rintro v w27 v27 h27 hB27 ⟨a7, c7, rfl, hS7⟩
              have st := Stay.start (h27.below.trans (hB27.mono h27.below.size))
              have hcl := fun w h => rclosed_any (N := 3) (L := Zo.matL (Rg.raw t u d)) h0 a7 c7 w h
              apply CallI.use
              focus (exact fun w28 h28 => hcl w28 (hS7.st (st.at h28 (fun x hx => by simp at hx <;> omega))))
              rintro v w28 v28 h28 hB28 ⟨a8, c8, rfl, hO8⟩
              have st := st.next h28 (fun x hx => by simp at hx <;> omega) hB28
              apply CallI.use1
              focus (exact fun w29 h29 => rtold08_any _ h0 a8 c8 w29 ((hO8.st (st.at h29 (fun x hx => by simp at hx <;> omega))).sl))
              intro w29 v29 h29 hB29
              have st := st.next h29 (fun x hx => by simp at hx <;> omega) hB29
              exact EndI.mk fun w9 h9 => rfl
          · refine NewI.mk fun b5 hb5 => ?_
            refine CallI.to1 (fun w => rabove_any d hd w) fun w15 => ?_
            refine CallI.to1 (fun w => rbelow_any d hd w) fun w16 => ?_
            apply CallI.use
            focus (exact fun w27 h27 => rfull_any (Rg.raw t u d) w27)
            rintro v w27 v27 h27 hB27 ⟨a7, c7, rfl, hS7⟩
            have st := Stay.start (h27.below.trans (hB27.mono h27.below.size))
            have hcl := fun w h => rclosed_any (N := 3) (L := Zo.matL (Rg.raw t u d)) h0 a7 c7 w h
            apply CallI.use
            focus (exact fun w28 h28 => hcl w28 (hS7.st (st.at h28 (fun x hx => by simp at hx <;> omega))))
            rintro v w28 v28 h28 hB28 ⟨a8, c8, rfl, hO8⟩
            have st := st.next h28 (fun x hx => by simp at hx <;> omega) hB28
            apply CallI.use1
            focus (exact fun w29 h29 => rtold08_any _ h0 a8 c8 w29 ((hO8.st (st.at h29 (fun x hx => by simp at hx <;> omega))).sl))
            intro w29 v29 h29 hB29
            have st := st.next h29 (fun x hx => by simp at hx <;> omega) hB29
            exact EndI.mk fun w9 h9 => rfl
        · refine NewI.mk fun b5 hb5 => ?_
          refine CallI.to1 (fun w => rbelow_any u hu w) fun w14 => ?_
          refine CallI.to1 (fun w => rabove_any d hd w) fun w15 => ?_
          refine CallI.to1 (fun w => rbelow_any d hd w) fun w16 => ?_
          apply CallI.use
          focus (exact fun w27 h27 => rfull_any (Rg.raw t u d) w27)
          rintro v w27 v27 h27 hB27 ⟨a7, c7, rfl, hS7⟩
          have st := Stay.start (h27.below.trans (hB27.mono h27.below.size))
          have hcl := fun w h => rclosed_any (N := 3) (L := Zo.matL (Rg.raw t u d)) h0 a7 c7 w h
          apply CallI.use
          focus (exact fun w28 h28 => hcl w28 (hS7.st (st.at h28 (fun x hx => by simp at hx <;> omega))))
          rintro v w28 v28 h28 hB28 ⟨a8, c8, rfl, hO8⟩
          have st := st.next h28 (fun x hx => by simp at hx <;> omega) hB28
          apply CallI.use1
          focus (exact fun w29 h29 => rtold08_any _ h0 a8 c8 w29 ((hO8.st (st.at h29 (fun x hx => by simp at hx <;> omega))).sl))
          intro w29 v29 h29 hB29
          have st := st.next h29 (fun x hx => by simp at hx <;> omega) hB29
          exact EndI.mk fun w9 h9 => rfl
      · refine NewI.mk fun b5 hb5 => ?_
        refine CallI.to1 (fun w => rabove_any u hu w) fun w13 => ?_
        refine CallI.to1 (fun w => rbelow_any u hu w) fun w14 => ?_
        refine CallI.to1 (fun w => rabove_any d hd w) fun w15 => ?_
        refine CallI.to1 (fun w => rbelow_any d hd w) fun w16 => ?_
        apply CallI.use
        focus (exact fun w27 h27 => rfull_any (Rg.raw t u d) w27)
        rintro v w27 v27 h27 hB27 ⟨a7, c7, rfl, hS7⟩
        have st := Stay.start (h27.below.trans (hB27.mono h27.below.size))
        have hcl := fun w h => rclosed_any (N := 3) (L := Zo.matL (Rg.raw t u d)) h0 a7 c7 w h
        apply CallI.use
        focus (exact fun w28 h28 => hcl w28 (hS7.st (st.at h28 (fun x hx => by simp at hx <;> omega))))
        rintro v w28 v28 h28 hB28 ⟨a8, c8, rfl, hO8⟩
        have st := st.next h28 (fun x hx => by simp at hx <;> omega) hB28
        apply CallI.use1
        focus (exact fun w29 h29 => rtold08_any _ h0 a8 c8 w29 ((hO8.st (st.at h29 (fun x hx => by simp at hx <;> omega))).sl))
        intro w29 v29 h29 hB29
        have st := st.next h29 (fun x hx => by simp at hx <;> omega) hB29
        exact EndI.mk fun w9 h9 => rfl
    · refine NewI.mk fun b5 hb5 => ?_
      refine CallI.to1 (fun w => rbelow_any t ht w) fun w12 => ?_
      refine CallI.to1 (fun w => rabove_any u hu w) fun w13 => ?_
      refine CallI.to1 (fun w => rbelow_any u hu w) fun w14 => ?_
      refine CallI.to1 (fun w => rabove_any d hd w) fun w15 => ?_
      refine CallI.to1 (fun w => rbelow_any d hd w) fun w16 => ?_
      apply CallI.use
      focus (exact fun w27 h27 => rfull_any (Rg.raw t u d) w27)
      rintro v w27 v27 h27 hB27 ⟨a7, c7, rfl, hS7⟩
      have st := Stay.start (h27.below.trans (hB27.mono h27.below.size))
      have hcl := fun w h => rclosed_any (N := 3) (L := Zo.matL (Rg.raw t u d)) h0 a7 c7 w h
      apply CallI.use
      focus (exact fun w28 h28 => hcl w28 (hS7.st (st.at h28 (fun x hx => by simp at hx <;> omega))))
      rintro v w28 v28 h28 hB28 ⟨a8, c8, rfl, hO8⟩
      have st := st.next h28 (fun x hx => by simp at hx <;> omega) hB28
      apply CallI.use1
      focus (exact fun w29 h29 => rtold08_any _ h0 a8 c8 w29 ((hO8.st (st.at h29 (fun x hx => by simp at hx <;> omega))).sl))
      intro w29 v29 h29 hB29
      have st := st.next h29 (fun x hx => by simp at hx <;> omega) hB29
      exact EndI.mk fun w9 h9 => rfl
  · refine NewI.mk fun b5 hb5 => ?_
    refine CallI.to1 (fun w => rabove_any t ht w) fun w11 => ?_
    refine CallI.to1 (fun w => rbelow_any t ht w) fun w12 => ?_
    refine CallI.to1 (fun w => rabove_any u hu w) fun w13 => ?_
    refine CallI.to1 (fun w => rbelow_any u hu w) fun w14 => ?_
    refine CallI.to1 (fun w => rabove_any d hd w) fun w15 => ?_
    refine CallI.to1 (fun w => rbelow_any d hd w) fun w16 => ?_
    apply CallI.use
    focus (exact fun w27 h27 => rfull_any (Rg.raw t u d) w27)
    rintro v w27 v27 h27 hB27 ⟨a7, c7, rfl, hS7⟩
    have st := Stay.start (h27.below.trans (hB27.mono h27.below.size))
    have hcl := fun w h => rclosed_any (N := 3) (L := Zo.matL (Rg.raw t u d)) h0 a7 c7 w h
    apply CallI.use
    focus (exact fun w28 h28 => hcl w28 (hS7.st (st.at h28 (fun x hx => by simp at hx <;> omega))))
    rintro v w28 v28 h28 hB28 ⟨a8, c8, rfl, hO8⟩
    have st := st.next h28 (fun x hx => by simp at hx <;> omega) hB28
    apply CallI.use1
    focus (exact fun w29 h29 => rtold08_any _ h0 a8 c8 w29 ((hO8.st (st.at h29 (fun x hx => by simp at hx <;> omega))).sl))
    intro w29 v29 h29 hB29
    have st := st.next h29 (fun x hx => by simp at hx <;> omega) hB29
    exact EndI.mk fun w9 h9 => rfl
end Go.Proofs.YtodpgcdandechaaGreat

/-
  The document's answer of layer 14: a region's zone, by the engine.
-/
namespace Go.Proofs.YtodpgcdandechaaGreat
set_option linter.unusedVariables false
set_option linter.unusedSimpArgs false
set_option maxRecDepth 100000
open Go.RowKit Go.Proofs.YtodpgcdandechaaGreat.Eng Enc

namespace Rg
theorem around_fit {pl : Int} (h : -1000 ≤ pl ∧ pl ≤ 1000) : (around pl).fit := by
  have hb := tdiv2_bd h
  unfold around Sp.fit
  split <;> simp only <;> exact ⟨by omega, .inr (by omega)⟩
/-- what is known of a region, by the document. -/
theorem zone_doc {n long : Int} (h : (askPoint n long).2 = 0) :
    Dbm.chk 3 (Zo.matL (raw3 (n / 3 / sides long) (n / 3 % sides long) (n % 3))) = 0 ∧ Zo.of 3 (Zo.matL (raw3 (n / 3 / sides long) (n / 3 % sides long) (n % 3))) = zone n long := by
  obtain ⟨hz, hm, _⟩ := zone_ok h
  obtain ⟨⟨hl, h0, h1⟩, _, _⟩ := ask_ok h
  have hs : 3 ≤ sides long ∧ sides long ≤ 33 := by unfold sides; omega
  have a1 : 0 ≤ n / 3 / sides long := Int.ediv_nonneg (by omega) (by omega)
  have a2 : n / 3 / sides long < sides long := by
    refine Int.ediv_lt_of_lt_mul (by omega) ?_
    have : n < 3 * (sides long * sides long) := by rw [← Int.mul_assoc]; exact h1
    omega
  have b1 := Int.emod_nonneg (n / 3) (b := sides long) (by omega)
  have b2 := Int.emod_lt_of_pos (n / 3) (b := sides long) (by omega)
  have hf := fineR_at (fineR_all (T := n / 3 / sides long) ⟨a1, by omega⟩) (U := n / 3 % sides long) (r := n % 3) ⟨b1, by omega⟩ ⟨by omega, by omega⟩
  rw [hz]
  unfold fineR3 at hf
  rw [hm] at hf
  simp only [Bool.not_true, Bool.false_or, Bool.and_eq_true, decide_eq_true_eq] at hf
  exact ⟨hf.1, zeq_eq hf.2⟩
end Rg
theorem rzone14_any (n long : Int) (w : World) :
    Calls Tryz.prog 15 #[.int .i64 n, .int .i64 long] w fun e w' => e = .returned (.tuple #[.agg #[.int .i64 (Rg.zone n long).1.a, .int .i64 (Rg.zone n long).1.b, .int .i64 (Rg.zone n long).1.c, .int .i64 (Rg.zone n long).1.d, .int .i64 (Rg.zone n long).1.e, .int .i64 (Rg.zone n long).1.f], .int .i64 (Rg.zone n long).2]) ∧ Below w.heap.size w w' := by
  refine fun_eq 0 w Tryz.func15 (args := [.val (.int .i64 n), .val (.int .i64 long)]) rfl rfl ?_
  refine NewI.mk fun b1 hb1 => ?_
  (first
    | (refine CallI.to1 (rpoint14_any n long) fun w2 => ?_)
    | (refine Branch.yes rfl ?_)
    | (refine Branch.no rfl ?_)
    | (refine Branch.mk (fun hb => ?_) (fun hb => ?_))
    | (refine NewI.mk fun nb hnb => ?_)
    | (refine Need.mk (by show _ ∧ _; omega) ?_)
    | (refine Need.mk (by omega) ?_)
    | (refine Need.mk ?_ ?_)
    | (refine EndI.mk fun w1 h1 => ?_))
  refine NewI.mk fun b2 hb2 => ?_
  refine Branch.mk (fun hc => ?_) (fun hc => ?_)
  · have hne : (Rg.askPoint n long).2 ≠ 0 := by simpa using hc
    unfold Rg.zone
    rw [if_neg hne]
    exact EndI.mk fun w3 h3 => rfl
  have h0 : (Rg.askPoint n long).2 = 0 := by simpa using hc
  have hd := Rg.zone_doc h0
  obtain ⟨⟨hl, hn0, hn1⟩, _, _⟩ := Rg.ask_ok h0
  have hs : 3 ≤ Rg.sides long ∧ Rg.sides long ≤ 33 := by unfold Rg.sides; omega
  have hsd : Rg.sides long = 2 * long + 1 := rfl
  have hm := Fr.mul_bd (u := 3 * Rg.sides long) (v := Rg.sides long) (m := 99) (n := 33) (by omega) (by omega) (by omega) (by omega)
  have e1 : n.tdiv 3 = n / 3 := Int.tdiv_eq_ediv_of_nonneg hn0
  have e2 : (n.tdiv 3).tdiv (2 * long + 1) = n / 3 / Rg.sides long := by rw [e1]; exact Int.tdiv_eq_ediv_of_nonneg (by omega)
  have e3 : (n.tdiv 3).tmod (2 * long + 1) = n / 3 % Rg.sides long := by rw [e1]; exact Int.tmod_eq_emod_of_nonneg (by omega)
  have e4 : n.tmod 3 = n % 3 := Int.tmod_eq_emod_of_nonneg hn0
  have ht : 0 ≤ n / 3 / Rg.sides long ∧ n / 3 / Rg.sides long ≤ 100 := by
    have h1 : 0 ≤ n / 3 / Rg.sides long := Int.ediv_nonneg (by omega) (by omega)
    have h2 : n / 3 / Rg.sides long < Rg.sides long := by
      refine Int.ediv_lt_of_lt_mul (by omega) ?_
      have : n < 3 * (Rg.sides long * Rg.sides long) := by rw [← Int.mul_assoc]; exact hn1
      omega
    omega
  have hu : 0 ≤ n / 3 % Rg.sides long ∧ n / 3 % Rg.sides long ≤ 100 := by
    have h1 := Int.emod_nonneg (n / 3) (b := Rg.sides long) (by omega)
    have h2 := Int.emod_lt_of_pos (n / 3) (b := Rg.sides long) (by omega)
    omega
  have n1 : (3 : Int) ≠ 0 ∧ inK .i64 (n.tdiv 3) := ⟨by decide, by rw [e1]; simp only [inK]; omega⟩
  refine Need.mk n1 ?_
  refine Need.mk (by simp only [inK]; omega) ?_
  refine Need.mk (by simp only [inK]; omega) ?_
  refine Need.mk ⟨by omega, by rw [e2]; simp only [inK]; omega⟩ ?_
  refine Need.mk n1 ?_
  refine Need.mk (by simp only [inK]; omega) ?_
  refine Need.mk (by simp only [inK]; omega) ?_
  refine Need.mk (by omega) ?_
  refine NewI.mk fun b3 hb3 => ?_
  rw [← hd.2]
  conv => whnf
  rw [e2, e3]
  obtain ⟨T, hT⟩ : ∃ T, n / 3 / Rg.sides long = T := ⟨_, rfl⟩
  obtain ⟨U, hU⟩ : ∃ U, n / 3 % Rg.sides long = U := ⟨_, rfl⟩
  rw [hT, hU] at hd ⊢
  rw [hT] at ht
  rw [hU] at hu
  have mT : T.tmod 2 = T % 2 := Int.tmod_eq_emod_of_nonneg ht.1
  have mU : U.tmod 2 = U % 2 := Int.tmod_eq_emod_of_nonneg hu.1
  have c1 := fun w => raround14_any T (by omega) w
  have c2 := fun w => raround14_any U (by omega) w
  have f1 := Rg.around_fit (pl := T) (by omega)
  have f2 := Rg.around_fit (pl := U) (by omega)
  refine Need.mk (by decide) ?_
  have two : ∀ {P : Prop}, (T % 2 = 1 → U % 2 = 1 → P) → (¬ (T % 2 = 1 ∧ U % 2 = 1) → P) → P := fun h1 h2 => by
    by_cases h : T % 2 = 1 ∧ U % 2 = 1
    · exact h1 h.1 h.2
    · exact h2 h
  refine Branch.mk (fun hc1 => ?_) (fun hc1 => ?_)
  · have o1 : T % 2 = 1 := by rw [← mT]; simpa using hc1
    refine Need.mk (by decide) ?_
    refine Branch.mk (fun hc2 => ?_) (fun hc2 => ?_)
    · have o2 : U % 2 = 1 := by rw [← mU]; simpa using hc2
      refine Need.mk (by simp only [inK]; omega) ?_
      refine Need.mk (by simp only [inK]; omega) ?_
      refine Need.mk (by decide) ?_
      refine Need.mk (by rw [e4]; simp only [inK]; omega) ?_
      conv => whnf
      rw [e4]
      refine CallI.to1 (fun w => raround14_any (U - T + 1 - n % 3) (by omega) w) fun w5 => ?_
      refine DrawI.wr (.tk 0 (.tk 2 (.tk 4 (.ev 1 (.ev 3 (.ev 5 (.tk 6 (.tk 7 (.ev 8 (.tk 9 .done)))))))))) [0] [] (by kernel_rfl) rfl (by simp) fun w6 h6 => ?_
      refine CallI.to1 c1 fun w7 => ?_
      refine CallI.to1 c2 fun w8 => ?_
      have hr : Rg.raw3 T U (n % 3) = Rg.raw (Rg.around T) (Rg.around U) (Rg.around (U - T + 1 - n % 3)) := by unfold Rg.raw3 Rg.rdiff3; rw [if_pos ⟨o1, o2⟩]
      rw [hr] at hd ⊢
      refine CallI.to1 (fun w => rmade08_any _ _ _ f1 f2 (Rg.around_fit (by omega)) hd.1 w) fun w9 => ?_
      exact EndI.mk fun w10 h10 => rfl
    · have o2 : ¬ U % 2 = 1 := by rw [← mU]; simpa using hc2
      refine DrawI.wr (.tk 0 (.tk 2 (.tk 4 (.ev 1 (.ev 3 (.ev 5 (.tk 6 (.tk 7 (.ev 8 (.tk 9 .done)))))))))) [0] [] (by kernel_rfl) rfl (by simp) fun w6 h6 => ?_
      refine CallI.to1 c1 fun w7 => ?_
      refine CallI.to1 c2 fun w8 => ?_
      have hr : Rg.raw3 T U (n % 3) = Rg.raw (Rg.around T) (Rg.around U) ⟨0, false, 0, false, true⟩ := by unfold Rg.raw3 Rg.rdiff3; rw [if_neg (fun h => o2 h.2)]
      rw [hr] at hd ⊢
      refine CallI.to1 (fun w => rmade08_any _ _ ⟨0, false, 0, false, true⟩ f1 f2 ⟨by decide, .inl rfl⟩ hd.1 w) fun w9 => ?_
      exact EndI.mk fun w10 h10 => rfl
  · have o1 : ¬ T % 2 = 1 := by rw [← mT]; simpa using hc1
    refine DrawI.wr (.tk 0 (.tk 2 (.tk 4 (.ev 1 (.ev 3 (.ev 5 (.tk 6 (.tk 7 (.ev 8 (.tk 9 .done)))))))))) [0] [] (by kernel_rfl) rfl (by simp) fun w6 h6 => ?_
    refine CallI.to1 c1 fun w7 => ?_
    refine CallI.to1 c2 fun w8 => ?_
    have hr : Rg.raw3 T U (n % 3) = Rg.raw (Rg.around T) (Rg.around U) ⟨0, false, 0, false, true⟩ := by unfold Rg.raw3 Rg.rdiff3; rw [if_neg (fun h => o1 h.1)]
    rw [hr] at hd ⊢
    refine CallI.to1 (fun w => rmade08_any _ _ ⟨0, false, 0, false, true⟩ f1 f2 ⟨by decide, .inl rfl⟩ hd.1 w) fun w9 => ?_
    exact EndI.mk fun w10 h10 => rfl
end Go.Proofs.YtodpgcdandechaaGreat

/-
  == at two points.
-/
namespace Go.Proofs.YtodpgcdandechaaGreat
set_option linter.unusedVariables false
set_option linter.unusedSimpArgs false
set_option maxRecDepth 100000
open Go.RowKit Go.Proofs.YtodpgcdandechaaGreat.Eng Enc

theorem run_eql_pt (p q : Pt) (w : World) : (binOp .eql 25 (.agg #[.int .i64 p.t.num, .int .i64 p.t.den, .int .i64 p.u.num, .int .i64 p.u.den]) (.agg #[.int .i64 q.t.num, .int .i64 q.t.den, .int .i64 q.u.num, .int .i64 q.u.den])).run Tryz.prog w = .ok (.bool (decide (p = q))) w := by
  have u3 := Tryz.underlying3
  have a3 := Tryz.isAgg3
  have z3 := Tryz.sizeOf3
  have hS : Tryz.prog.underlying 25 = some (.struct (Tryz.prog.fieldsOf 25)) := by kernel_rfl
  have hp : Tryz.prog.stoodInHeld 25 = false := by kernel_rfl
  rw [run_eql_struct, show (10000 : Nat) = 9999 + 1 from rfl, run_equalIn_agg w 9999 25 _ _ hS hp]
  simp only [Program.fieldsOf, Tryz.underlying25]
  go_simp
  have hpq : p = q ↔ (p.t.num = q.t.num ∧ p.t.den = q.t.den ∧ p.u.num = q.u.num ∧ p.u.den = q.u.den) := by
    obtain ⟨⟨a, b⟩, c, d⟩ := p
    obtain ⟨⟨a', b'⟩, c', d'⟩ := q
    simp only [Pt.mk.injEq, Rt.mk.injEq, and_assoc]
  simp only [hpq]
  repeat' split
  all_goals simp_all

theorem run_eql_ptG (x y : Operand) (p q : Pt) (w : World) : (do eqGuard .eql 25 x y (.agg #[.int .i64 p.t.num, .int .i64 p.t.den, .int .i64 p.u.num, .int .i64 p.u.den]) (.agg #[.int .i64 q.t.num, .int .i64 q.t.den, .int .i64 q.u.num, .int .i64 q.u.den]); binOp .eql 25 (.agg #[.int .i64 p.t.num, .int .i64 p.t.den, .int .i64 p.u.num, .int .i64 p.u.den]) (.agg #[.int .i64 q.t.num, .int .i64 q.t.den, .int .i64 q.u.num, .int .i64 q.u.den]) : Sem Value).run Tryz.prog w = .ok (.bool (decide (p = q))) w := by
  have hg : (eqGuard .eql 25 x y (.agg #[.int .i64 p.t.num, .int .i64 p.t.den, .int .i64 p.u.num, .int .i64 p.u.den]) (.agg #[.int .i64 q.t.num, .int .i64 q.t.den, .int .i64 q.u.num, .int .i64 q.u.den])).run Tryz.prog w = .ok () w := run_eqGuard_agg _ _ _ _ _ _ _ (by kernel_rfl)
  rw [Sem.run_bind, hg]
  exact run_eql_pt p q w

end Go.Proofs.YtodpgcdandechaaGreat

