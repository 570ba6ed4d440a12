/-
  Merged texts of this law (each with its own head below).
-/
import Derived.Test.YtodpgcdandechaaGreatLZsetAsks5
import Derived.Test.YtodpgcdandechaaGreatLZsetAsks3
import Derived.Laws.StructEq
import Derived.Test.YtodpgcdandechaaGreatLZsetAsks4
import Derived.Test.YtodpgcdandechaaGreatLZsetAsks1
/-
  The contracts of zset.each, Within, Window, In, Same, by the engine.
-/
namespace Go.Proofs.YtodpgcdandechaaGreat
set_option linter.unusedVariables false
set_option linter.unusedSimpArgs false
set_option maxRecDepth 100000
open Go.RowKit Go.Proofs.YtodpgcdandechaaGreat.Eng Enc

namespace Zs
def free : Zn := ⟨9223372036854775807, 9223372036854775807, 9223372036854775807, 9223372036854775807, 9223372036854775807, 9223372036854775807⟩
theorem free_of : Zo.of 3 (Dbm.topL 3) = (free, 0) := by decide +kernel
/-- what all zones come to. -/
def each (f : Zn → Zn × Int) (l : List Zn) : List Zn × Int :=
  if Cv.checked [l] = 0 then (if (f free).2 ≠ 0 ∧ (f free).2 ≠ 6 then ([], (f free).2) else come f [] l) else ([], Cv.checked [l])
def within (l : List Zn) (s : Sp) : List Zn × Int := each (fun z => Wn.within z s) l
def window (l : List Zn) (lo hi : Int) : List Zn × Int := each (fun z => Wn.window z lo hi) l
theorem checked_len1 {l : List Zn} (h0 : Cv.checked [l] = 0) : l.length ≤ 4096 := (Cv.checked_one.1 h0).1
def same (a b : List Zn) : Bool × Int := if (Cv.all_ a b).2 = 0 ∧ (Cv.all_ a b).1 = true then Cv.all_ b a else (false, (Cv.all_ a b).2)
end Zs
theorem KeptBut.ofBelow {w W : World} (h : Below w.heap.size w W) (row : Option Nat) : KeptBut row w W := ⟨h.size, fun k hk _ => h.block k hk⟩
theorem KeptBut.none_trans {row : Option Nat} {w W X : World} (h : KeptBut none w W) (k : KeptBut none W X) : KeptBut row w X :=
  ⟨Nat.le_trans h.1 k.1, fun i hi _ => (k.2 i (Nat.lt_of_lt_of_le hi h.1) (by simp)).trans (h.2 i hi (by simp))⟩
theorem each_any (f : Zn → Zn × Int) (fid : FuncId) (caps : Array Value) (en : Enters Tryz.prog fid) (l : List Zn) (a : Option Addr) (cap : Nat) (w : World) (hS : Sl w.heap.size w (.slice a l.length cap) l)
    (hcall : ∀ x W, KeptBut none w W → Calls Tryz.prog fid (val x :: caps.toList).toArray W fun e W' => e = .returned (.tuple #[.agg #[.int .i64 (f x).1.a, .int .i64 (f x).1.b, .int .i64 (f x).1.c, .int .i64 (f x).1.d, .int .i64 (f x).1.e, .int .i64 (f x).1.f], .int .i64 (f x).2]) ∧ Below W.heap.size W W') :
    Calls Tryz.prog 98 #[.slice a l.length cap, .func (.func fid) #[] caps] w (Ret w fun v w' => ∃ a' c', v = .tuple #[.slice a' (Zs.each f l).1.length c', .int .i64 (Zs.each f l).2] ∧ Own TZ w.heap.size w' (.slice a' (Zs.each f l).1.length c') (Zs.each f l).1) := by
  refine fun_ret 0 w Tryz.func98 (args := [.val (.slice a l.length cap), .val (.func (.func fid) #[] caps)]) rfl rfl ?_
  have st := Stay.first (w := w)
  refine NewI.mk fun b1 hb1 => ?_
  apply CallI.use1
  focus (exact fun w1 h1 => zschecked_any [⟨a, l.length, cap⟩] [l] (by simp) _ _ w1 (shown_one (hS.st (st.at h1 (fun x hx => by simp at hx <;> omega))) rfl) (Sl.own (l := [(⟨a, l.length, cap⟩ : Svl)]) h1 0 rfl rfl rfl (Nat.le_refl _) (by simp [maxLen])))
  intro w1 v1 h1 hB1
  have st := st.next h1 (fun x hx => by simp at hx <;> omega) hB1
  unfold Zs.each
  refine Branch.mk (fun hc => ?_) (fun hc => ?_)
  · have h0 : Cv.checked [l] ≠ 0 := by simpa using hc
    rw [if_neg h0]
    exact EndI.mk fun w9 h9 => ⟨_, _, rfl, Own.nil⟩
  have h0 : Cv.checked [l] = 0 := by simpa using hc
  rw [if_pos h0]
  have htop := fun w => top_any 3 w
  rw [Zo.top3] at htop
  have hof := fun (w : World) a c h => zof_any 3 a c (Dbm.topL 3) w h
  rw [Zs.free_of] at hof
  apply CallI.use
  focus (exact fun w2 h2 => htop w2)
  rintro v w2 v2 h2 hB2 ⟨a2, c2, rfl, hO2⟩
  have st := st.next h2 (fun x hx => by simp at hx <;> omega) hB2
  refine NewI.mk fun b2 hb2 => ?_
  apply CallI.use1
  focus (exact fun w3 h3 => hof w3 a2 c2 ((hO2.st (st.at h3 (fun x hx => by simp at hx <;> omega))).sl))
  intro w3 v3 h3 hB3
  have st := st.next h3 (fun x hx => by simp at hx <;> omega) hB3
  refine NewI.mk fun b3 hb3 => ?_
  refine Need.mk en ?_
  apply CallI.use1
  focus (exact fun w4 h4 => hcall Zs.free w4 (KeptBut.ofBelow h4.below none))
  intro w4 v4 h4 hB4
  refine NewI.mk fun b4 hb4 => ?_
  have hcm := fun (w7 : World) (hw7 : Below w.heap.size w w7) => come_any f fid caps en [] l (.slice none 0 0) a cap w.heap.size (by simp) (Zs.checked_len1 h0) w7 hw7.size Own.nil (hS.below hw7) (fun x W hx hK => hcall x W ((KeptBut.ofBelow hw7 none).none_trans hK))
  have fin : ∀ w7 : World, ∀ (hw7 : Below w.heap.size w w7), Calls Tryz.prog 158 #[.slice none 0 0, .slice a l.length cap, .func (.func fid) #[] caps] w7 (Ret w7 fun v w' => ∃ a' c', v = .tuple #[.slice a' (Zs.come f [] l).1.length c', .int .i64 (Zs.come f [] l).2] ∧ Own TZ w7.heap.size w' (.slice a' (Zs.come f [] l).1.length c') (Zs.come f [] l).1) := fun w7 hw7 =>
    (hcm w7 hw7).mono fun e w8 ⟨v, he, hB, hK, a8, c8, hv, hO⟩ => ⟨v, he, ⟨hB.os.trans rfl, hB.tape, hB.output, hB.size, fun k hk => hK.2 k hk (by simp [Value.ownBlock])⟩, a8, c8, hv, hO⟩
  refine Branch.mk (fun hc2 => ?_) (fun hc2 => ?_)
  · have h1 : (f Zs.free).2 ≠ 0 := of_decide_eq_true hc2
    refine Branch.mk (fun hc3 => ?_) (fun hc3 => ?_)
    · have h6 : (f Zs.free).2 ≠ 6 := by simpa using hc3
      rw [if_pos ⟨h1, h6⟩]
      exact EndI.mk fun w9 h9 => ⟨_, _, rfl, Own.nil⟩
    · have h6 : (f Zs.free).2 = 6 := by simpa using hc3
      rw [if_neg (fun h => h.2 h6)]
      apply CallI.use
      focus (exact fun w7 h7 => fin w7 h7.below)
      rintro v w7 v7 h7 hB7 ⟨a8, c8, rfl, hO8⟩
      exact EndI.mk fun w9 h9 => ⟨a8, c8, rfl, (hO8.lower h7.below.size).below (at_belowM h9 (by simp <;> omega))⟩
  · have h1 : (f Zs.free).2 = 0 := by simpa using hc2
    rw [if_neg (fun h => h.1 h1)]
    apply CallI.use
    focus (exact fun w7 h7 => fin w7 h7.below)
    rintro v w7 v7 h7 hB7 ⟨a8, c8, rfl, hO8⟩
    exact EndI.mk fun w9 h9 => ⟨a8, c8, rfl, (hO8.lower h7.below.size).below (at_belowM h9 (by simp <;> omega))⟩
theorem within1_any (z : Zn) (s : Sp) (hs : s.ins) (B : Nat) (w : World) (hbox : w.heap[B]? = some (.cells #[.int .i64 s.lo, .bool s.ls, .int .i64 s.hi, .bool s.hs, .bool s.op] 54 (0, 0))) :
    Calls Tryz.prog 99 #[.agg #[.int .i64 z.a, .int .i64 z.b, .int .i64 z.c, .int .i64 z.d, .int .i64 z.e, .int .i64 z.f], .pointer (some ⟨B, 0, none⟩)] w fun e w' => e = .returned (.tuple #[.agg #[.int .i64 (Wn.within z s).1.a, .int .i64 (Wn.within z s).1.b, .int .i64 (Wn.within z s).1.c, .int .i64 (Wn.within z s).1.d, .int .i64 (Wn.within z s).1.e, .int .i64 (Wn.within z s).1.f], .int .i64 (Wn.within z s).2]) ∧ Below w.heap.size w w' := by
  refine fun_eq 0 w Tryz.func99 (args := [.agg [.val (.int .i64 z.a), .val (.int .i64 z.b), .val (.int .i64 z.c), .val (.int .i64 z.d), .val (.int .i64 z.e), .val (.int .i64 z.f)], .val (.pointer (some ⟨B, 0, none⟩))]) rfl rfl ?_
  refine NewI.mk fun b1 hb1 => ?_
  refine NewI.mk fun b2 hb2 => ?_
  refine LoadA.mk ⟨[.int .i64 s.lo, .bool s.ls, .int .i64 s.hi, .bool s.hs, .bool s.op], ⟨rfl, by decide, by simp, cell_nM hbox⟩, ?_⟩
  apply CallI.use1
  focus (exact fun w2 h2 => wwithin_any z s hs w2)
  intro w2 v2 h2 hB2
  exact EndI.mk fun w9 h9 => rfl
theorem window1_any (z : Zn) (lo hi : Int) (hlo : inK .i64 lo) (hhi : inK .i64 hi) (B C : Nat) (w : World) (hB : w.heap[B]? = some (.cells #[.int .i64 lo] 3 (0, 0))) (hC : w.heap[C]? = some (.cells #[.int .i64 hi] 3 (0, 0))) :
    Calls Tryz.prog 102 #[.agg #[.int .i64 z.a, .int .i64 z.b, .int .i64 z.c, .int .i64 z.d, .int .i64 z.e, .int .i64 z.f], .pointer (some ⟨B, 0, none⟩), .pointer (some ⟨C, 0, none⟩)] w fun e w' => e = .returned (.tuple #[.agg #[.int .i64 (Wn.window z lo hi).1.a, .int .i64 (Wn.window z lo hi).1.b, .int .i64 (Wn.window z lo hi).1.c, .int .i64 (Wn.window z lo hi).1.d, .int .i64 (Wn.window z lo hi).1.e, .int .i64 (Wn.window z lo hi).1.f], .int .i64 (Wn.window z lo hi).2]) ∧ Below w.heap.size w w' := by
  refine fun_eq 0 w Tryz.func102 (args := [.agg [.val (.int .i64 z.a), .val (.int .i64 z.b), .val (.int .i64 z.c), .val (.int .i64 z.d), .val (.int .i64 z.e), .val (.int .i64 z.f)], .val (.pointer (some ⟨B, 0, none⟩)), .val (.pointer (some ⟨C, 0, none⟩))]) rfl rfl ?_
  refine NewI.mk fun b1 hb1 => ?_
  refine NewI.mk fun b2 hb2 => ?_
  refine LoadI.mk ⟨_, ⟨cell_oneM hB, by simp⟩, ?_⟩
  refine LoadI.mk ⟨_, ⟨cell_oneM hC, by simp⟩, ?_⟩
  apply CallI.use1
  focus (exact fun w2 h2 => wwindow_any z lo hi hlo hhi w2)
  intro w2 v2 h2 hB2
  exact EndI.mk fun w9 h9 => rfl
theorem zswithin_any (l : List Zn) (s : Sp) (hs : s.ins) (a : Option Addr) (cap : Nat) (w : World) (hS : Sl w.heap.size w (.slice a l.length cap) l) :
    Calls Tryz.prog 38 #[.slice a l.length cap, .agg #[.int .i64 s.lo, .bool s.ls, .int .i64 s.hi, .bool s.hs, .bool s.op]] w (Ret w fun v w' => ∃ a' c', v = .tuple #[.slice a' (Zs.within l s).1.length c', .int .i64 (Zs.within l s).2] ∧ Own TZ w.heap.size w' (.slice a' (Zs.within l s).1.length c') (Zs.within l s).1) := by
  refine fun_ret 0 w Tryz.func38 (args := [.val (.slice a l.length cap), .agg [.val (.int .i64 s.lo), .val (.bool s.ls), .val (.int .i64 s.hi), .val (.bool s.hs), .val (.bool s.op)]]) rfl rfl ?_
  refine NewI.frn fun w1 h1 => ?_
  have hbox : (w1.alloc (.cells #[.int .i64 s.lo, .bool s.ls, .int .i64 s.hi, .bool s.hs, .bool s.op] 54)).heap[w1.heap.size]? = some (.cells #[.int .i64 s.lo, .bool s.ls, .int .i64 s.hi, .bool s.hs, .bool s.op] 54 (0, 0)) := World.alloc_heap_new w1 _
  apply CallI.use
  focus (exact fun w2 h2 => each_any (fun z => Wn.within z s) 99 #[.pointer (some ⟨w1.heap.size, 0, none⟩)] Tryz.call99 l a cap w2 (hS.go h2.below h2.below.size) (fun x W hK => within1_any x s hs w1.heap.size W ((hK.2 _ (Nat.lt_of_lt_of_le (lt_cellsM hbox) (at_belowM h2 (by simp)).size) (by simp)).trans (((at_belowM h2 (by simp)).block _ (lt_cellsM hbox)).trans hbox))))
  rintro v w2 v2 h2 hB2 ⟨a2, c2, rfl, hO2⟩
  exact EndI.mk fun w9 h9 => ⟨a2, c2, rfl, (hO2.lower h2.below.size).below (at_belowM h9 (by simp))⟩
theorem zswindow_any (l : List Zn) (lo hi : Int) (hlo : inK .i64 lo) (hhi : inK .i64 hi) (a : Option Addr) (cap : Nat) (w : World) (hS : Sl w.heap.size w (.slice a l.length cap) l) :
    Calls Tryz.prog 40 #[.slice a l.length cap, .int .i64 lo, .int .i64 hi] w (Ret w fun v w' => ∃ a' c', v = .tuple #[.slice a' (Zs.window l lo hi).1.length c', .int .i64 (Zs.window l lo hi).2] ∧ Own TZ w.heap.size w' (.slice a' (Zs.window l lo hi).1.length c') (Zs.window l lo hi).1) := by
  refine fun_ret 0 w Tryz.func40 (args := [.val (.slice a l.length cap), .val (.int .i64 lo), .val (.int .i64 hi)]) rfl rfl ?_
  refine NewI.frn fun w1 h1 => ?_
  have hbox : (w1.alloc (.cells #[.int .i64 lo] 3)).heap[w1.heap.size]? = some (.cells #[.int .i64 lo] 3 (0, 0)) := World.alloc_heap_new w1 _
  refine NewI.frn fun w2 h2 => ?_
  have g2 := at_belowM h2 (by simp)
  have hbox2 : (w2.alloc (.cells #[.int .i64 hi] 3)).heap[w2.heap.size]? = some (.cells #[.int .i64 hi] 3 (0, 0)) := World.alloc_heap_new w2 _
  have hal : Below w2.heap.size w2 (w2.alloc (.cells #[.int .i64 hi] 3)) := (Below.refl _ _).alloc (Nat.le_refl _) _
  have hboxa := (g2.block _ (lt_cellsM hbox)).trans hbox
  have hboxb := (hal.block _ (lt_cellsM hboxa)).trans hboxa
  apply CallI.use
  focus (exact fun w3 h3 => each_any (fun z => Wn.window z lo hi) 102 #[.pointer (some ⟨w1.heap.size, 0, none⟩), .pointer (some ⟨w2.heap.size, 0, none⟩)] Tryz.call102 l a cap w3 (hS.go h3.below h3.below.size) (fun x W hK => window1_any x lo hi hlo hhi w1.heap.size w2.heap.size W
    ((hK.2 _ (Nat.lt_of_lt_of_le (lt_cellsM hboxb) (at_belowM h3 (by simp)).size) (by simp)).trans (((at_belowM h3 (by simp)).block _ (lt_cellsM hboxb)).trans hboxb))
    ((hK.2 _ (Nat.lt_of_lt_of_le (lt_cellsM hbox2) (at_belowM h3 (by simp)).size) (by simp)).trans (((at_belowM h3 (by simp)).block _ (lt_cellsM hbox2)).trans hbox2))))
  rintro v w3 v3 h3 hB3 ⟨a2, c2, rfl, hO2⟩
  exact EndI.mk fun w9 h9 => ⟨a2, c2, rfl, (hO2.lower h3.below.size).below (at_belowM h9 (by simp))⟩
theorem zsin_any (l m : List Zn) (a b : Option Addr) (ca cb : Nat) (w : World) (hS : Sl w.heap.size w (.slice a l.length ca) l) (hT : Sl w.heap.size w (.slice b m.length cb) m) :
    Calls Tryz.prog 42 #[.slice a l.length ca, .slice b m.length cb] w fun e w' => e = .returned (.tuple #[.bool (Cv.all_ l m).1, .int .i64 (Cv.all_ l m).2]) ∧ Below w.heap.size w w' := by
  refine fun_eq 0 w Tryz.func42 (args := [.val (.slice a l.length ca), .val (.slice b m.length cb)]) rfl rfl ?_
  apply CallI.use1
  focus (exact fun w2 h2 => all_any l m a ca b cb w2 (hS.go h2.below h2.below.size) (hT.go h2.below h2.below.size))
  intro w2 v2 h2 hB2
  exact EndI.mk fun w9 h9 => rfl
theorem zssame_any (l m : List Zn) (a b : Option Addr) (ca cb : Nat) (w : World) (hS : Sl w.heap.size w (.slice a l.length ca) l) (hT : Sl w.heap.size w (.slice b m.length cb) m) :
    Calls Tryz.prog 44 #[.slice a l.length ca, .slice b m.length cb] w fun e w' => e = .returned (.tuple #[.bool (Zs.same l m).1, .int .i64 (Zs.same l m).2]) ∧ Below w.heap.size w w' := by
  refine fun_eq 0 w Tryz.func44 (args := [.val (.slice a l.length ca), .val (.slice b m.length cb)]) rfl rfl ?_
  unfold Zs.same
  apply CallI.use1
  focus (exact fun w2 h2 => zsin_any l m a b ca cb w2 (hS.go h2.below h2.below.size) (hT.go h2.below h2.below.size))
  intro w2 v2 h2 hB2
  generalize Cv.all_ l m = X at *
  obtain ⟨x, e⟩ := X
  refine Branch.mk (fun hc => ?_) (fun hc => ?_)
  · have h1 : e ≠ 0 := by simpa using hc
    rw [if_neg (fun h => h1 h.1)]
    exact EndI.mk fun w9 h9 => rfl
  have h1 : e = 0 := by simpa using hc
  refine Branch.mk (fun hc2 => ?_) (fun hc2 => ?_)
  · have h2 : ¬ x = true := by simpa using hc2
    rw [if_neg (fun h => h2 h.2)]
    exact EndI.mk fun w9 h9 => rfl
  have h2 : x = true := by simpa using hc2
  rw [if_pos ⟨h1, h2⟩]
  apply CallI.use1
  focus (exact fun w3 h3 => zsin_any m l b a cb ca w3 (hT.go h3.below h3.below.size) (hS.go h3.below h3.below.size))
  intro w3 v3 h3 hB3
  exact EndI.mk fun w9 h9 => rfl
end Go.Proofs.YtodpgcdandechaaGreat

/-
  The contracts of slices.Equal at zones, zset.Check, zset.Has, by the engine.
-/
namespace Go.Proofs.YtodpgcdandechaaGreat
set_option linter.unusedVariables false
set_option linter.unusedSimpArgs false
set_option maxRecDepth 100000
open Go.RowKit Go.Proofs.YtodpgcdandechaaGreat.Eng Enc

namespace Zs
/-- a set has a point. -/
def has (l : List Zn) (p : Pt) : Bool × Int :=
  if Cv.checked [l] = 0 then (if (Zo.has free p).2 = 0 then (l.any (fun z => decide ((Zo.has z p).2 = 0) && (Zo.has z p).1), 0) else (false, (Zo.has free p).2)) else (false, Cv.checked [l])
end Zs
theorem has1_any (z : Zn) (p : Pt) (hp : p.ins) (B : Nat) (w : World) (hbox : w.heap[B]? = some (.cells #[.int .i64 p.t.num, .int .i64 p.t.den, .int .i64 p.u.num, .int .i64 p.u.den] 25 (0, 0))) :
    Calls Tryz.prog 69 #[.agg #[.int .i64 z.a, .int .i64 z.b, .int .i64 z.c, .int .i64 z.d, .int .i64 z.e, .int .i64 z.f], .pointer (some ⟨B, 0, none⟩)] w fun e w' => e = .returned (.bool (decide ((Zo.has z p).2 = 0) && (Zo.has z p).1)) ∧ Below w.heap.size w w' := by
  refine fun_eq 0 w Tryz.func69 (args := [.agg [.val (.int .i64 z.a), .val (.int .i64 z.b), .val (.int .i64 z.c), .val (.int .i64 z.d), .val (.int .i64 z.e), .val (.int .i64 z.f)], .val (.pointer (some ⟨B, 0, none⟩))]) rfl rfl ?_
  refine NewI.mk fun b1 hb1 => ?_
  refine LoadA.mk ⟨[.int .i64 p.t.num, .int .i64 p.t.den, .int .i64 p.u.num, .int .i64 p.u.den], ⟨rfl, by decide, by simp, cell_nM hbox⟩, ?_⟩
  apply CallI.use
  focus (exact fun w2 h2 => zhas_any z p hp w2)
  rintro v w2 v2 h2 hB2 rfl
  generalize Zo.has z p = X at *
  obtain ⟨x, e⟩ := X
  refine Branch.mk (fun hc => ?_) (fun hc => ?_)
  · have h1 : e = 0 := by simpa using hc
    exact EndI.mk fun w9 h9 => by simp [h1]
  · have h1 : ¬ e = 0 := by simpa using hc
    exact EndI.mk fun w9 h9 => by simp [h1]
theorem zshas_any (l : List Zn) (p : Pt) (hp : p.ins) (a : Option Addr) (cap : Nat) (w : World) (hS : Sl w.heap.size w (.slice a l.length cap) l) :
    Calls Tryz.prog 18 #[.slice a l.length cap, .agg #[.int .i64 p.t.num, .int .i64 p.t.den, .int .i64 p.u.num, .int .i64 p.u.den]] w fun e w' => e = .returned (.tuple #[.bool (Zs.has l p).1, .int .i64 (Zs.has l p).2]) ∧ Below w.heap.size w w' := by
  refine fun_eq 0 w Tryz.func18 (args := [.val (.slice a l.length cap), .agg [.val (.int .i64 p.t.num), .val (.int .i64 p.t.den), .val (.int .i64 p.u.num), .val (.int .i64 p.u.den)]]) rfl rfl ?_
  refine NewI.frn fun w1 h1 => ?_
  have hbox : (w1.alloc (.cells #[.int .i64 p.t.num, .int .i64 p.t.den, .int .i64 p.u.num, .int .i64 p.u.den] 25)).heap[w1.heap.size]? = some (.cells #[.int .i64 p.t.num, .int .i64 p.t.den, .int .i64 p.u.num, .int .i64 p.u.den] 25 (0, 0)) := World.alloc_heap_new w1 _
  have hw2 : Below w.heap.size w (w1.alloc (.cells #[.int .i64 p.t.num, .int .i64 p.t.den, .int .i64 p.u.num, .int .i64 p.u.den] 25)) := h1.below.alloc h1.below.size _
  generalize w1.alloc (.cells #[.int .i64 p.t.num, .int .i64 p.t.den, .int .i64 p.u.num, .int .i64 p.u.den] 25) = w2 at *
  generalize w1.heap.size = B at *
  refine NewI.mk fun b1 hb1 => ?_
  apply CallI.use1
  focus (exact fun w3 h3 => zschecked_any [⟨a, l.length, cap⟩] [l] (by simp) _ _ w3 (shown_one (hS.go h3.below h3.below.size) rfl) (Sl.own (l := [(⟨a, l.length, cap⟩ : Svl)]) h3 0 rfl rfl rfl (Nat.le_refl _) (by simp [maxLen])))
  intro w3 v3 h3 hB3
  have g3 := at_belowM h3 (by simp)
  have hbox3 := (hB3.block B (Nat.lt_of_lt_of_le (lt_cellsM hbox) g3.size)).trans ((g3.block B (lt_cellsM hbox)).trans hbox)
  unfold Zs.has
  refine Branch.mk (fun hc => ?_) (fun hc => ?_)
  · have h0 : Cv.checked [l] ≠ 0 := by simpa using hc
    rw [if_neg h0]
    exact EndI.mk fun w9 h9 => rfl
  have h0 : Cv.checked [l] = 0 := by simpa using hc
  rw [if_pos h0]
  have htop := fun w => top_any 3 w
  rw [Zo.top3] at htop
  have hof := fun (w : World) a c h => zof_any 3 a c (Dbm.topL 3) w h
  rw [Zs.free_of] at hof
  apply CallI.use
  focus (exact fun w4 h4 => htop w4)
  rintro v w4 v4 h4 hB4 ⟨a2, c2, rfl, hO2⟩
  have g4 := at_belowM h4 (by simp)
  have hbox4 := (hB4.block B (Nat.lt_of_lt_of_le (lt_cellsM hbox3) g4.size)).trans ((g4.block B (lt_cellsM hbox3)).trans hbox3)
  refine NewI.mk fun b2 hb2 => ?_
  apply CallI.use1
  focus (exact fun w5 h5 => hof w5 a2 c2 (hO2.below (at_belowM h5 (by simp <;> omega))).sl)
  intro w5 v5 h5 hB5
  have g5 : Below v4.heap.size v4 w5 := at_belowM h5 (by simp <;> omega)
  have hbox5 := (hB5.block B (Nat.lt_of_lt_of_le (lt_cellsM hbox4) g5.size)).trans ((g5.block B (lt_cellsM hbox4)).trans hbox4)
  have hBv4 := lt_cellsM hbox4
  refine NewI.mk fun b3 hb3 => ?_
  have hb3' : v5.heap.size ≤ b3 := hb3
  have hBv5 := lt_cellsM hbox5
  refine LoadA.mk ⟨[.int .i64 p.t.num, .int .i64 p.t.den, .int .i64 p.u.num, .int .i64 p.u.den], ⟨rfl, by decide, by simp; omega, cell_nM hbox5⟩, ?_⟩
  apply CallI.use
  focus (exact fun w6 h6 => zhas_any Zs.free p hp w6)
  rintro v w6 v6 h6 hB6 rfl
  have g6 : Below v5.heap.size v5 w6 := at_belowM h6 (by simp <;> omega)
  have hbox6 := (hB6.block B (Nat.lt_of_lt_of_le hBv5 g6.size)).trans ((g6.block B hBv5).trans hbox5)
  generalize Zo.has Zs.free p = X at *
  obtain ⟨x, e⟩ := X
  refine Branch.mk (fun hc2 => ?_) (fun hc2 => ?_)
  · have h1 : e ≠ 0 := by simpa using hc2
    rw [if_neg (by exact h1)]
    exact EndI.mk fun w9 h9 => rfl
  have h1 : e = 0 := by simpa using hc2
  rw [if_pos (by exact h1)]
  have hBv6 := lt_cellsM hbox6
  apply CallI.use1
  focus (exact fun w7 h7 => containsZ_pure l (fun z => decide ((Zo.has z p).2 = 0) && (Zo.has z p).1) a cap 69 #[.pointer (some ⟨B, 0, none⟩)] w7 (hS.go h7.below h7.below.size) Tryz.call69 (fun x W hx hW => has1_any x p hp B W ((hW.block B (Nat.lt_of_lt_of_le hBv6 (at_belowM h7 (by simp <;> omega)).size)).trans (((at_belowM h7 (by simp <;> omega)).block B hBv6).trans hbox6))))
  intro w7 v7 h7 hB7
  exact EndI.mk fun w9 h9 => rfl
end Go.Proofs.YtodpgcdandechaaGreat

/-
  Plain laws of sets of zones: the points of what two zones have in common, of unions, of pairs. No program is in sight.
-/
namespace Go.Proofs.YtodpgcdandechaaGreat
set_option linter.unusedVariables false
set_option linter.unusedSimpArgs false
open Go.RowKit Go.Proofs.YtodpgcdandechaaGreat.Eng Enc
namespace Zo
open Mi Dbm
theorem mayC_min {x y : Int} (hx : mayC x = true) (hy : mayC y = true) : mayC (min x y) = true := by
  by_cases h : x ≤ y
  · rw [Int.min_eq_left h]; exact hx
  · rw [Int.min_eq_right (by omega)]; exact hy
theorem chk_lessr {n : Int} {L M : List Int} (h1 : Dbm.chk n L = 0) (h2 : Dbm.chk n M = 0) : Dbm.chk n (lessr L M) = 0 := by
  obtain ⟨a1, a2, a3, a4⟩ := chk_iff.1 h1
  obtain ⟨b1, b2, b3, b4⟩ := chk_iff.1 h2
  refine chk_iff.2 ⟨a1, a2, by rw [lessr_len]; exact a3, ?_⟩
  rw [List.any_eq_false] at a4 b4 ⊢
  intro z hz
  unfold lessr at hz
  obtain ⟨q, hq, rfl⟩ := List.mem_map.1 hz
  have hq := List.mem_range.1 hq
  have e1 := List.getElem?_eq_getElem (l := L) (i := q) hq
  have e2 := List.getElem?_eq_getElem (l := M) (i := q) (by omega)
  have k1 := a4 _ (List.getElem_mem hq)
  have k2 := b4 _ (List.getElem_mem (by omega : q < M.length))
  rw [e1, e2]
  simp only [Option.getD_some, Bool.not_eq_true', Bool.not_eq_true, Bool.not_eq_false] at k1 k2 ⊢
  exact mayC_min k1 k2
end Zo
namespace Zs
open Mi Dbm
theorem free_chk : Zo.chk free = 0 := by decide +kernel
end Zs
end Go.Proofs.YtodpgcdandechaaGreat

/-
  Plain laws of windows and spans: the points of what is in one. No program is in sight.
-/
namespace Go.Proofs.YtodpgcdandechaaGreat
set_option linter.unusedVariables false
set_option linter.unusedSimpArgs false
open Go.RowKit Go.Proofs.YtodpgcdandechaaGreat.Eng Enc
namespace Wn
open Mi Dbm
theorem less_get (z : Zn) {i j : Nat} (hi : i < 6) (hj : j < 6) (x : Int) : Zo.get (less z i x) j = if j = i then min (Zo.get z i) x else Zo.get z j := get_set z hi hj _
/-- a zone with two bounds more has just the points that keep them. -/
theorem less2_fz {z : Zn} (hz : Zo.chk z = 0) {i j : Nat} (hi : i < 6) (hj : j < 6) (hij : i ≠ j) {x y : Int} (hx : x = NO ∨ x < NO) (hy : y = NO ∨ y < NO) (t : Nat → Rat) :
    Fz (less (less z i x) j y) t ↔ Fz z t ∧ satO (dif i t) (ob x) ∧ satO (dif j t) (ob y) := by
  have hc := (Zo.clo hz).1
  rw [fz_iff, fz_iff]
  have g : ∀ k, k < 6 → Zo.get (less (less z i x) j y) k = if k = j then min (Zo.get z j) y else if k = i then min (Zo.get z i) x else Zo.get z k := fun k hk => by
    rw [less_get _ hj hk]
    by_cases h : k = j
    · rw [if_pos h, if_pos h, less_get _ hi hj, if_neg (fun e => hij e.symm)]
    · rw [if_neg h, if_neg h, less_get _ hi hk]
  have hm := fun (k : Nat) (hk : k < 6) (b : Int) hb => satO_min (dif k t) (Zo.get z k) b (lim_lt (get_lim hc hk) (by omega)) hb
  constructor
  · intro h
    have h1 := h i hi
    have h2 := h j hj
    rw [g i hi, if_neg hij, if_pos rfl] at h1
    rw [g j hj, if_pos rfl] at h2
    refine ⟨fun k hk => ?_, ((hm i hi x hx).1 h1).2, ((hm j hj y hy).1 h2).2⟩
    have h3 := h k hk
    rw [g k hk] at h3
    by_cases e1 : k = j
    · subst e1; exact ((hm k hk y hy).1 h2).1
    · rw [if_neg e1] at h3
      by_cases e2 : k = i
      · subst e2; exact ((hm k hk x hx).1 h1).1
      · rw [if_neg e2] at h3; exact h3
  · rintro ⟨h, h1, h2⟩ k hk
    rw [g k hk]
    by_cases e1 : k = j
    · subst e1; rw [if_pos rfl]; exact (hm k hk y hy).2 ⟨h k hk, h2⟩
    · rw [if_neg e1]
      by_cases e2 : k = i
      · subst e2; rw [if_pos rfl]; exact (hm k hk x hx).2 ⟨h k hk, h1⟩
      · rw [if_neg e2]; exact h k hk
theorem with2_ok {z : Zn} (hz : Zo.chk z = 0) {i j : Nat} (hi : i < 6) (hj : j < 6) (hij : i ≠ j) {x y : Int} (hx : x = NO ∨ x < NO) (hy : y = NO ∨ y < NO) :
    ((with2 z i x j y).2 = 0 → Zo.chk (with2 z i x j y).1 = 0 ∧ ∀ t, Fz (with2 z i x j y).1 t ↔ Fz z t ∧ satO (dif i t) (ob x) ∧ satO (dif j t) (ob y)) ∧
    ((with2 z i x j y).2 = 6 → ∀ t, ¬ (Fz z t ∧ satO (dif i t) (ob x) ∧ satO (dif j t) (ob y))) := by
  have hp := less2_fz hz hi hj hij hx hy
  unfold with2
  generalize less (less z i x) j y = q at hp ⊢
  unfold Zo.mat
  by_cases hq : Dbm.chk 3 (Zo.matL q) = 0
  · rw [if_pos hq]
    show ((if (0 : Int) = 0 then Zo.of 3 (Zo.matL q) else _).2 = 0 → _) ∧ ((if (0 : Int) = 0 then Zo.of 3 (Zo.matL q) else _).2 = 6 → _)
    rw [if_pos rfl]
    constructor
    · intro h
      obtain ⟨h1, h2⟩ := of_ok h
      exact ⟨h1, fun t => (h2 t).trans (hp t)⟩
    · intro h t ht
      exact of_none h t ((hp t).2 ht)
  · rw [if_neg hq]
    show ((if (8 : Int) = 0 then Zo.of 0 [] else (Zo.nought, 8)).2 = 0 → _) ∧ ((if (8 : Int) = 0 then Zo.of 0 [] else (Zo.nought, 8)).2 = 6 → _)
    rw [if_neg (by decide)]
    exact ⟨fun h => absurd h (by decide), fun h => absurd h (by decide)⟩
/-- u in a window. -/
def InW (lo hi : Int) (t : Nat → Rat) : Prop := (lo : Rat) < t 2 - t 0 ∧ t 2 - t 0 ≤ (hi : Rat)
theorem fits_iff {n : Int} : fits n = true ↔ -288230376151711744 ≤ n ∧ n ≤ 288230376151711744 := by simp [fits]
theorem window_ok {z : Zn} {lo hi : Int} (hz : Zo.chk z = 0) :
    ((window z lo hi).2 = 0 → (fits lo = true ∧ fits hi = true ∧ lo < hi) ∧ Zo.chk (window z lo hi).1 = 0 ∧ ∀ t, Fz (window z lo hi).1 t ↔ Fz z t ∧ InW lo hi t) ∧
    ((window z lo hi).2 = 6 → (fits lo = true ∧ fits hi = true ∧ lo < hi) ∧ ∀ t, ¬ (Fz z t ∧ InW lo hi t)) := by
  unfold window
  rw [if_pos hz]
  by_cases hf : fits lo = true ∧ fits hi = true ∧ lo < hi
  · rw [if_pos hf]
    obtain ⟨f1, f2, f3⟩ := hf
    have k1 := fits_iff.1 f1
    have k2 := fits_iff.1 f2
    have e1 : (Bd.made hi false).1 = hi * 2 + 1 := by
      unfold Bd.made Num.okB
      rw [if_pos (by simp; omega)]; rfl
    have e2 : (Bd.made (-lo) true).1 = -lo * 2 := by
      unfold Bd.made Num.okB
      rw [if_pos (by simp; omega)]; rfl
    have hx : hi * 2 + 1 = NO ∨ hi * 2 + 1 < NO := by unfold NO; omega
    have hy : -lo * 2 = NO ∨ -lo * 2 < NO := by unfold NO; omega
    obtain ⟨w1, w2⟩ := with2_ok hz (i := 2) (j := 3) (by decide) (by decide) (by decide) hx hy
    have hin : ∀ t, satO (dif 2 t) (ob (hi * 2 + 1)) ∧ satO (dif 3 t) (ob (-lo * 2)) ↔ InW lo hi t := fun t => by
      have o1 : ob (hi * 2 + 1) = some (hi * 2 + 1) := by unfold ob; rw [if_neg (by unfold NO; omega)]
      have o2 : ob (-lo * 2) = some (-lo * 2) := by unfold ob; rw [if_neg (by unfold NO; omega)]
      rw [o1, o2]
      unfold satO Bd.st
      simp only
      rw [if_neg (by simp <;> omega), if_pos (by simp), show (hi * 2 + 1) / 2 = hi by omega, show -lo * 2 / 2 = -lo by omega]
      show t 2 - t 0 ≤ _ ∧ t 0 - t 2 < _ ↔ _
      unfold InW
      rw [Rat.intCast_neg]
      constructor
      · rintro ⟨h1, h2⟩; exact ⟨by grind, h1⟩
      · rintro ⟨h1, h2⟩; exact ⟨h2, by grind⟩
    rw [e1, e2]
    refine ⟨fun h => ⟨⟨f1, f2, f3⟩, (w1 h).1, fun t => ((w1 h).2 t).trans (by rw [hin])⟩, fun h => ⟨⟨f1, f2, f3⟩, fun t ht => w2 h t (by rw [hin]; exact ht)⟩⟩
  · rw [if_neg hf]
    exact ⟨fun h => absurd h (by decide), fun h => absurd h (by decide)⟩
/-- what a span says of times. -/
def InS (s : Sp) (t : Nat → Rat) : Prop := (Zo.btw s).2.2 = 0 ∧ satO (dif 4 t) (ob ((Zo.btw s).2.1[2]?.getD 0)) ∧ satO (dif 5 t) (ob ((Zo.btw s).2.1[1]?.getD 0))
theorem btw_lt (s : Sp) (k : Nat) (hk : k < 4) : (Zo.btw s).2.1[k]?.getD 0 = NO ∨ (Zo.btw s).2.1[k]?.getD 0 < NO := by
  unfold Zo.btw Tg.between
  have z0 : ∀ q : Nat, ([] : List Int)[q]?.getD 0 = NO ∨ ([] : List Int)[q]?.getD 0 < NO := fun q => .inr (by simp [NO])
  split
  · split
    · split
      · unfold Dbm.close
        split
        · rename_i h0
          split
          · rename_i L hL
            have hc : Clo 2 L := close_clo (N := 2) h0 hL
            have := hc.lim (k / 2) (k % 2) (by omega) (by omega)
            rw [Nat.div_add_mod' k 2] at this
            exact lim_lt this (by omega)
          · exact z0 k
        · exact z0 k
      · exact z0 k
    · exact z0 k
  · exact z0 k
theorem within_ok {z : Zn} {s : Sp} (hz : Zo.chk z = 0) :
    ((within z s).2 = 0 → Zo.chk (within z s).1 = 0 ∧ ∀ t, Fz (within z s).1 t ↔ Fz z t ∧ InS s t) ∧ ((within z s).2 = 6 → ∀ t, ¬ (Fz z t ∧ InS s t)) := by
  unfold within InS
  rw [if_pos hz]
  have b2 := btw_lt s 2 (by decide)
  have b1 := btw_lt s 1 (by decide)
  generalize Zo.btw s = X at *
  obtain ⟨n, D, e⟩ := X
  simp only at b1 b2 ⊢
  by_cases he : e = 0
  · rw [if_pos he]
    obtain ⟨w1, w2⟩ := with2_ok hz (i := 4) (j := 5) (by decide) (by decide) (by decide) b2 b1
    exact ⟨fun h => ⟨(w1 h).1, fun t => ((w1 h).2 t).trans ⟨fun k => ⟨k.1, he, k.2⟩, fun k => ⟨k.1, k.2.2⟩⟩⟩, fun h t ht => w2 h t ⟨ht.1, ht.2.2⟩⟩
  · rw [if_neg he]
    exact ⟨fun h => absurd h he, fun h t ht => he ht.2.1⟩
end Wn
namespace Zs
open Mi Dbm
end Zs
end Go.Proofs.YtodpgcdandechaaGreat

/-
  The contracts of package region: numbers and points, by the engine.
-/
namespace Go.Proofs.YtodpgcdandechaaGreat
set_option linter.unusedVariables false
set_option linter.unusedSimpArgs false
set_option maxRecDepth 100000
open Go.RowKit Go.Proofs.YtodpgcdandechaaGreat.Eng Enc

end Go.Proofs.YtodpgcdandechaaGreat

/-
  The contracts of package region: points, by the engine.
-/
namespace Go.Proofs.YtodpgcdandechaaGreat
set_option linter.unusedVariables false
set_option linter.unusedSimpArgs false
set_option maxRecDepth 100000
open Go.RowKit Go.Proofs.YtodpgcdandechaaGreat.Eng Enc

end Go.Proofs.YtodpgcdandechaaGreat

/-
  The contracts of region.around and region.Zone, by the engine.
-/
namespace Go.Proofs.YtodpgcdandechaaGreat
set_option linter.unusedVariables false
set_option linter.unusedSimpArgs false
set_option maxRecDepth 100000
open Go.RowKit Go.Proofs.YtodpgcdandechaaGreat.Eng Enc

namespace Rg
def around (pl : Int) : Sp := if pl % 2 = 0 then ⟨pl.tdiv 2, false, pl.tdiv 2, false, false⟩ else ⟨pl.tdiv 2, true, pl.tdiv 2 + 1, true, false⟩
/-- the span of what lies between the two times. -/
def diff (n long : Int) : Sp :=
  if (n / 3 / sides long) % 2 = 1 ∧ (n / 3 % sides long) % 2 = 1 then around (n / 3 % sides long - n / 3 / sides long + 1 - n % 3) else ⟨-16, false, 16, false, false⟩
def zone (n long : Int) : Zn × Int :=
  if (askPoint n long).2 = 0 then Zo.make (around (n / 3 / sides long)) (around (n / 3 % sides long)) (diff n long) else (Zo.nought, (askPoint n long).2)
end Rg
end Go.Proofs.YtodpgcdandechaaGreat

/-
  rallentandolaw14.at and alive: the chapter's first examples.
-/
namespace Go.Proofs.YtodpgcdandechaaGreat
set_option linter.unusedVariables false
set_option linter.unusedSimpArgs false
set_option maxRecDepth 100000
open Go.RowKit Go.Proofs.YtodpgcdandechaaGreat.Eng Enc

end Go.Proofs.YtodpgcdandechaaGreat

/-
  The walk of rallentandolaw14.RegionZones, by the engine, out of the plain law's four parts (ZonesLaw, not shown here).
-/
namespace Go.Proofs.YtodpgcdandechaaGreat
set_option linter.unusedVariables false
set_option linter.unusedSimpArgs false
set_option maxRecDepth 100000
open Go.RowKit Go.Proofs.YtodpgcdandechaaGreat.Eng Enc

/-- what the plain law has to show. -/
structure ZonesLaw (n : Int) (p : Pt) (long : Int) : Prop where
  ins : (Rg.askPoint n long).1.ins
  same : (Rg.zone n long).2 = (Rg.askPoint n long).2
  own : (Rg.askPoint n long).2 = 0 → Rg.askNumber (Rg.askPoint n long).1 long = (n, 0)
  has : (Rg.askPoint n long).2 = 0 → Zo.has (Rg.zone n long).1 (Rg.askPoint n long).1 = (true, 0)
  any : (Rg.askPoint n long).2 = 0 → (Zo.has (Rg.zone n long).1 p).2 = 0 → (Zo.has (Rg.zone n long).1 p).1 = (decide ((Rg.askNumber p long).2 = 0) && decide ((Rg.askNumber p long).1 = n))

end Go.Proofs.YtodpgcdandechaaGreat

/-
  The plain law of RegionZones: its parts shown so far (ins, own).
-/
namespace Go.Proofs.YtodpgcdandechaaGreat
set_option linter.unusedVariables false
set_option linter.unusedSimpArgs false
open Go.RowKit Go.Proofs.YtodpgcdandechaaGreat.Eng Enc
namespace Rg
end Rg
end Go.Proofs.YtodpgcdandechaaGreat

/-
  The plain law of RegionZones: a point is in a region's zone just if its number is the region's (by whole parts and what is left over).
-/
namespace Go.Proofs.YtodpgcdandechaaGreat
set_option linter.unusedVariables false
set_option linter.unusedSimpArgs false
open Go.RowKit Go.Proofs.YtodpgcdandechaaGreat.Eng Enc
namespace Rg
end Rg
end Go.Proofs.YtodpgcdandechaaGreat

/-
  A region's zone in closed form: what is gone through, case by case, in the texts Zones6 and on.
-/
namespace Go.Proofs.YtodpgcdandechaaGreat
open Go.RowKit Go.Proofs.YtodpgcdandechaaGreat.Eng Enc
namespace Rg
end Rg
end Go.Proofs.YtodpgcdandechaaGreat

/-
  A region's zone by the document: what is gone through, case by case, in the texts ZonesR0 and on.
-/
namespace Go.Proofs.YtodpgcdandechaaGreat
open Go.RowKit Go.Proofs.YtodpgcdandechaaGreat.Eng Enc
namespace Rg
/-- a span's bounds, by the document. -/
def ab (s : Sp) : Int := if s.op = true then 9223372036854775807 else Bd.mk s.hi s.hs
def be (s : Sp) : Int := Bd.mk (0 - s.lo) s.ls
def raw (t u d : Sp) : Zn := ⟨ab t, be t, ab u, be u, ab d, be d⟩
end Rg
end Go.Proofs.YtodpgcdandechaaGreat

/-
  Spans and windows by the document, in the program's words. No program is in sight.
-/
namespace Go.Proofs.YtodpgcdandechaaGreat
set_option linter.unusedVariables false
set_option linter.unusedSimpArgs false
open Go.RowKit Go.Proofs.YtodpgcdandechaaGreat.Eng Enc
namespace Dbm
/-- two bounds there and back are not below nothing, where a matrix has a closing. -/
theorem cyc {N : Nat} {L C : List Int} (h0 : chk N L = 0) (h : closeL N L = some C) {i j : Nat} (hi : i < N) (hj : j < N) (hij : i ≠ j) : ole (some 1) (oadd (mx N L i j) (mx N L j i)) := by
  obtain ⟨L1, a2, a3, inv, hl, hE⟩ := close_inv h0 h
  have c1 := inv.closed i i j hi hi hj
  rw [inv.diag i hi] at c1
  have e1 : mx N L1 i j = mx N L i j := by unfold mx; rw [a3 i j hi hj, if_neg hij]
  have e2 : mx N L1 j i = mx N L j i := by unfold mx; rw [a3 j i hj hi, if_neg (fun e => hij e.symm)]
  have l1 := inv.low i j hi hj
  have l2 := inv.low j i hj hi
  rw [e1] at l1
  rw [e2] at l2
  exact ole_trans c1 (oadd_mono l1 l2)
theorem ob1 : ob 1 = some 1 := by unfold ob; rw [if_neg (by unfold NO; decide)]
theorem obN : ob NO = none := by unfold ob; rw [if_pos rfl]
theorem lim1 {m : Int} (h : 1 ≤ m) : lim m 1 := .inr (by omega)
theorem limN {m : Int} : lim m NO := .inl rfl
theorem clo2 {p q : Int} (hp : lim 864691128455135232 p) (hq : lim 864691128455135232 q) (h : ole (some 1) (oadd (ob p) (ob q))) : Clo 2 [1, p, q, 1] := by
  have h' : ole (some 1) (oadd (ob q) (ob p)) := by rw [oadd_comm]; exact h
  refine ⟨rfl, fun i hi => ?_, fun i j a hi hj ha => ?_, fun i j hi hj => ?_⟩
  · rcases (by omega : i = 0 ∨ i = 1) with rfl | rfl <;> rfl
  · rcases (by omega : i = 0 ∨ i = 1) with rfl | rfl <;> rcases (by omega : j = 0 ∨ j = 1) with rfl | rfl <;> rcases (by omega : a = 0 ∨ a = 1) with rfl | rfl <;> simp [mx, ob1, oadd_one, one_oadd, ole_refl, h, h']
  · rcases (by omega : i = 0 ∨ i = 1) with rfl | rfl <;> rcases (by omega : j = 0 ∨ j = 1) with rfl | rfl <;> first | exact lim1 (by decide) | exact hp | exact hq
theorem ole_none (a : OB) : ole a none := by cases a <;> trivial
theorem clo45 {p q : Int} (hp : lim 864691128455135232 p) (hq : lim 864691128455135232 q) (h : ole (some 1) (oadd (ob p) (ob q))) : Clo 3 [1, NO, NO, NO, 1, p, NO, q, 1] := by
  have h' : ole (some 1) (oadd (ob q) (ob p)) := by rw [oadd_comm]; exact h
  refine ⟨rfl, fun i hi => ?_, fun i j a hi hj ha => ?_, fun i j hi hj => ?_⟩
  · rcases (by omega : i = 0 ∨ i = 1 ∨ i = 2) with rfl | rfl | rfl <;> rfl
  · rcases (by omega : i = 0 ∨ i = 1 ∨ i = 2) with rfl | rfl | rfl <;> rcases (by omega : j = 0 ∨ j = 1 ∨ j = 2) with rfl | rfl | rfl <;> rcases (by omega : a = 0 ∨ a = 1 ∨ a = 2) with rfl | rfl | rfl <;> simp [mx, ob1, obN, oadd_one, one_oadd, oadd_none, none_oadd, ole_refl, ole_none, h, h']
  · rcases (by omega : i = 0 ∨ i = 1 ∨ i = 2) with rfl | rfl | rfl <;> rcases (by omega : j = 0 ∨ j = 1 ∨ j = 2) with rfl | rfl | rfl <;> first | exact lim1 (by decide) | exact hp | exact hq | exact limN
theorem clo23 {p q : Int} (hp : lim 864691128455135232 p) (hq : lim 864691128455135232 q) (h : ole (some 1) (oadd (ob p) (ob q))) : Clo 3 [1, NO, p, NO, 1, NO, q, NO, 1] := by
  have h' : ole (some 1) (oadd (ob q) (ob p)) := by rw [oadd_comm]; exact h
  refine ⟨rfl, fun i hi => ?_, fun i j a hi hj ha => ?_, fun i j hi hj => ?_⟩
  · rcases (by omega : i = 0 ∨ i = 1 ∨ i = 2) with rfl | rfl | rfl <;> rfl
  · rcases (by omega : i = 0 ∨ i = 1 ∨ i = 2) with rfl | rfl | rfl <;> rcases (by omega : j = 0 ∨ j = 1 ∨ j = 2) with rfl | rfl | rfl <;> rcases (by omega : a = 0 ∨ a = 1 ∨ a = 2) with rfl | rfl | rfl <;> simp [mx, ob1, obN, oadd_one, one_oadd, oadd_none, none_oadd, ole_refl, ole_none, h, h']
  · rcases (by omega : i = 0 ∨ i = 1 ∨ i = 2) with rfl | rfl | rfl <;> rcases (by omega : j = 0 ∨ j = 1 ∨ j = 2) with rfl | rfl | rfl <;> first | exact lim1 (by decide) | exact hp | exact hq | exact limN
end Dbm
namespace Wn
open Mi Dbm
/-- may a span be? -/
def spMay (s : Sp) : Bool := decide (-288230376151711744 ≤ s.lo) && decide (s.lo ≤ 288230376151711744) && (if s.op = true then decide (s.hi = 0) && !s.hs else decide (s.lo ≤ s.hi) && decide (s.hi ≤ 288230376151711744))
theorem mayC_of {b : Int} (h : b = NO ∨ (-288230376151711744 ≤ b / 2 ∧ b / 2 ≤ 288230376151711744)) : Dbm.mayC b = true := by
  unfold Dbm.mayC
  rcases h with h | h
  · rw [h]; decide
  · simp [h]
theorem ab_lim {s : Sp} (h : spMay s = true) : Rg.ab s = NO ∨ (-288230376151711744 ≤ Rg.ab s / 2 ∧ Rg.ab s / 2 ≤ 288230376151711744) := by
  unfold spMay at h
  unfold Rg.ab
  split
  · exact .inl rfl
  · rename_i ho
    rw [if_neg ho] at h
    simp only [Bool.and_eq_true, decide_eq_true_eq] at h
    right
    unfold Bd.mk
    split <;> omega
theorem be_lim {s : Sp} (h : spMay s = true) : -288230376151711744 ≤ Rg.be s / 2 ∧ Rg.be s / 2 ≤ 288230376151711744 := by
  unfold spMay at h
  simp only [Bool.and_eq_true, decide_eq_true_eq] at h
  unfold Rg.be Bd.mk
  split <;> omega
theorem sides_may (s : Sp) : (Tg.sides s).2.2 = spMay s ∧ (spMay s = true → Tg.sides s = (Rg.be s, Rg.ab s, true)) := by
  have hof : ∀ c b, -288230376151711744 ≤ c → c ≤ 288230376151711744 → Tg.of c b = Bd.mk c b := fun c b h1 h2 => by
    unfold Tg.of Bd.made Num.okB
    rw [if_pos (by simp; omega)]
  constructor
  · unfold Tg.sides spMay Tg.bad
    by_cases ho : s.op = true
    · rw [if_pos ho, if_pos ho]
      split
      · rename_i hb
        simp only [Bool.or_eq_true, decide_eq_true_eq] at hb
        symm
        simp only [Bool.and_eq_false_iff, decide_eq_false_iff_not]
        omega
      · rename_i hb
        simp only [Bool.or_eq_true, decide_eq_true_eq] at hb
        simp only
        rw [decide_eq_true (by omega : -288230376151711744 ≤ s.lo), decide_eq_true (by omega : s.lo ≤ 288230376151711744)]
        simp
    · rw [if_neg ho, if_neg ho]
      split
      · rename_i hb
        simp only [Bool.or_eq_true, decide_eq_true_eq] at hb
        symm
        simp only [Bool.and_eq_false_iff, decide_eq_false_iff_not]
        omega
      · rename_i hb
        simp only [Bool.or_eq_true, decide_eq_true_eq] at hb
        simp only
        rw [decide_eq_true (by omega : -288230376151711744 ≤ s.lo), decide_eq_true (by omega : s.lo ≤ 288230376151711744), decide_eq_true (by omega : s.hi ≤ 288230376151711744)]
        simp
  · intro h
    have h' := h
    unfold spMay at h
    simp only [Bool.and_eq_true, decide_eq_true_eq] at h
    have hnb : ¬ Tg.bad s = true := by
      unfold Tg.bad
      simp only [Bool.or_eq_true, decide_eq_true_eq]
      by_cases ho : s.op = true
      · rw [if_pos ho] at h; simp at h; omega
      · rw [if_neg ho] at h; simp at h; omega
    unfold Tg.sides
    rw [if_neg hnb]
    by_cases ho : s.op = true
    · rw [if_pos ho] at h ⊢
      unfold Rg.ab
      rw [if_pos ho, hof _ _ (by omega) (by omega), h.2]
      unfold Rg.be
      rw [Int.zero_sub]
    · rw [if_neg ho] at h ⊢
      simp at h
      unfold Rg.ab
      rw [if_neg ho, hof _ _ (by omega) (by omega), hof _ _ (by omega) (by omega), decide_eq_true (by omega : s.lo ≤ s.hi)]
      unfold Rg.be
      rw [Int.zero_sub]
/-- has a span a time? -/
def spOk (s : Sp) : Prop := ole (some 1) (oadd (ob (Rg.be s)) (ob (Rg.ab s)))
theorem lim_of {b : Int} (h : b = NO ∨ (-288230376151711744 ≤ b / 2 ∧ b / 2 ≤ 288230376151711744)) : lim 864691128455135232 b := by
  rcases h with h | h
  · exact .inl h
  · exact .inr (by omega)
theorem btw_may {s : Sp} (h : spMay s = true) : (spOk s ∧ Zo.btw s = (2, [1, Rg.be s, Rg.ab s, 1], 0)) ∨ (¬ spOk s ∧ Zo.btw s = (0, [], 6)) := by
  obtain ⟨_, h2⟩ := sides_may s
  have hs := h2 h
  have ha := ab_lim h
  have hb := be_lim h
  have k0 : Dbm.chk 2 (Dbm.topL 2) = 0 := by decide
  have ht : Dbm.topL 2 = [1, NO, NO, 1] := by decide
  have m1 : min NO (Rg.be s) = Rg.be s := by unfold NO; omega
  have m2 : min NO (Rg.ab s) = Rg.ab s := by rcases ha with ha | ha <;> unfold NO at * <;> omega
  have hmore : Tg.more (Dbm.topL 2) [⟨1, Rg.be s⟩, ⟨1 * 2, Rg.ab s⟩] = [1, Rg.be s, Rg.ab s, 1] := by
    rw [ht]
    simp [Tg.more, List.set, m1, m2]
  have hck : Dbm.chk 2 [1, Rg.be s, Rg.ab s, 1] = 0 := by
    refine chk_iff.2 ⟨by decide, by decide, rfl, ?_⟩
    have e1 : mayC 1 = true := by decide
    simp only [List.any_cons, List.any_nil, e1, mayC_of (.inr hb), mayC_of ha, Bool.not_true, Bool.or_false]
  have hbt : Zo.btw s = Dbm.close 2 [1, Rg.be s, Rg.ab s, 1] := by
    unfold Zo.btw Tg.between
    rw [if_pos k0, if_pos ⟨by decide, by decide⟩, hs, if_pos rfl, hmore]
  rw [hbt]
  unfold Dbm.close
  rw [if_pos hck]
  by_cases hok : spOk s
  · left
    have hc : Clo 2 [1, Rg.be s, Rg.ab s, 1] := clo2 (lim_of (.inr hb)) (lim_of ha) hok
    refine ⟨hok, ?_⟩
    show (match closeL 2 _ with | some L' => ((2 : Int), L', (0 : Int)) | none => (0, [], 6)) = _
    rw [hc.close]
  · right
    refine ⟨hok, ?_⟩
    show (match closeL 2 _ with | some L' => ((2 : Int), L', (0 : Int)) | none => (0, [], 6)) = _
    cases hC : closeL 2 [1, Rg.be s, Rg.ab s, 1] with
    | none => rfl
    | some C => exact absurd (cyc (N := 2) hck hC (i := 0) (j := 1) (by decide) (by decide) (by decide)) hok
theorem btw_bad {s : Sp} (h : spMay s = false) : Zo.btw s = (0, [], 8) := by
  have k0 : Dbm.chk 2 (Dbm.topL 2) = 0 := by decide
  unfold Zo.btw Tg.between
  rw [if_pos k0, if_pos ⟨by decide, by decide⟩, (sides_may s).1, h, if_neg (by decide)]
theorem min_NO {x : Int} (h : lim 288230376151711744 x) : min x NO = x := by
  rcases h with h | h
  · rw [h]; exact Int.min_self _
  · unfold NO; omega
theorem of_shut {L : List Int} (h0 : Dbm.chk 3 L = 0) (hC : closeL 3 L = none) : Zo.of 3 L = (Zo.nought, 6) := by
  have hcl : close 3 L = (match closeL 3 L with | some L' => (3, L', 0) | none => (0, [], 6)) := by unfold close; rw [if_pos h0]; rfl
  unfold Zo.of
  rw [if_pos h0, if_pos rfl]
  rw [hC] at hcl; rw [hcl]
  rfl
theorem ob_min {x b : Int} (hx : x = NO ∨ x < NO) (hb : b = NO ∨ b < NO) : ole (ob (min x b)) (ob b) := by
  rcases hb with hb | hb
  · rw [hb, obN]; exact ole_none _
  · have e : ob b = some b := by unfold ob; rw [if_neg (by omega)]
    have e2 : ob (min x b) = some (min x b) := by unfold ob; rw [if_neg (by omega)]
    rw [e, e2]
    show min x b ≤ b
    omega
theorem less_only {z : Zn} (hz : Zo.chk z = 0) (p q : Int) : lessr (Zo.matL z) (Zo.matL ⟨NO, NO, NO, NO, p, q⟩) = Zo.matL (less (less z 4 p) 5 q) ∧ lessr (Zo.matL z) (Zo.matL ⟨NO, NO, p, q, NO, NO⟩) = Zo.matL (less (less z 2 p) 3 q) := by
  have c := (Zo.clo hz).1
  have m : ∀ i, i < 6 → min (Zo.get z i) NO = Zo.get z i := fun i hi => min_NO (Mi.get_lim c hi)
  have m0 : min z.a NO = z.a := m 0 (by omega)
  have m1 : min z.b NO = z.b := m 1 (by omega)
  have m2 : min z.c NO = z.c := m 2 (by omega)
  have m3 : min z.d NO = z.d := m 3 (by omega)
  have m4 : min z.e NO = z.e := m 4 (by omega)
  have m5 : min z.f NO = z.f := m 5 (by omega)
  have r9 : List.range 9 = [0, 1, 2, 3, 4, 5, 6, 7, 8] := by decide
  constructor
  · unfold lessr
    show (List.range 9).map _ = _
    rw [r9]
    simp [Zo.matL, less, Zo.set, Zo.get, m0, m1, m2, m3, m4, m5]
  · unfold lessr
    show (List.range 9).map _ = _
    rw [r9]
    simp [Zo.matL, less, Zo.set, Zo.get, m0, m1, m2, m3, m4, m5]
theorem chk_only {p q : Int} (hp : p = NO ∨ (-288230376151711744 ≤ p / 2 ∧ p / 2 ≤ 288230376151711744)) (hq : q = NO ∨ (-288230376151711744 ≤ q / 2 ∧ q / 2 ≤ 288230376151711744)) : Dbm.chk 3 (Zo.matL ⟨NO, NO, NO, NO, p, q⟩) = 0 ∧ Dbm.chk 3 (Zo.matL ⟨NO, NO, p, q, NO, NO⟩) = 0 := by
  have e1 : mayC 1 = true := by decide
  have e2 : mayC NO = true := by decide
  constructor <;> refine chk_iff.2 ⟨by decide, by decide, rfl, ?_⟩ <;> simp only [Zo.matL, List.any_cons, List.any_nil, e1, e2, mayC_of hp, mayC_of hq, Bool.not_true, Bool.or_false]
/-- with two bounds more: the document's common bounds. -/
theorem with_only {z : Zn} (hz : Zo.chk z = 0) {p q : Int} (hp : p = NO ∨ (-288230376151711744 ≤ p / 2 ∧ p / 2 ≤ 288230376151711744)) (hq : q = NO ∨ (-288230376151711744 ≤ q / 2 ∧ q / 2 ≤ 288230376151711744)) :
    with2 z 4 p 5 q = Zo.of 3 (lessr (Zo.matL z) (Zo.matL ⟨NO, NO, NO, NO, p, q⟩)) ∧ with2 z 2 p 3 q = Zo.of 3 (lessr (Zo.matL z) (Zo.matL ⟨NO, NO, p, q, NO, NO⟩)) := by
  have c := (Zo.clo hz).1
  obtain ⟨h1, h2⟩ := less_only hz p q
  obtain ⟨k1, k2⟩ := chk_only hp hq
  have g1 : Dbm.chk 3 (lessr (Zo.matL z) (Zo.matL ⟨NO, NO, NO, NO, p, q⟩)) = 0 := Zo.chk_lessr c k1
  have g2 : Dbm.chk 3 (lessr (Zo.matL z) (Zo.matL ⟨NO, NO, p, q, NO, NO⟩)) = 0 := Zo.chk_lessr c k2
  rw [h1] at g1 ⊢
  rw [h2] at g2 ⊢
  constructor
  · unfold with2 Zo.mat
    rw [if_pos g1, if_pos rfl]
  · unfold with2 Zo.mat
    rw [if_pos g2, if_pos rfl]
/-- a zone in a span, by the document. -/
theorem within_doc {z : Zn} (hz : Zo.chk z = 0) {s : Sp} (hs : spMay s = true) : within z s = Zo.of 3 (lessr (Zo.matL z) (Zo.matL ⟨NO, NO, NO, NO, Rg.ab s, Rg.be s⟩)) := by
  have ha := ab_lim hs
  have hb := be_lim hs
  unfold within
  rw [if_pos hz]
  rcases btw_may hs with ⟨hok, e⟩ | ⟨hok, e⟩
  · rw [e, if_pos rfl]
    exact (with_only hz ha (.inr hb)).1
  · rw [e, if_neg (by decide)]
    have k1 := (chk_only ha (.inr hb)).1
    have g1 : Dbm.chk 3 (lessr (Zo.matL z) (Zo.matL ⟨NO, NO, NO, NO, Rg.ab s, Rg.be s⟩)) = 0 := Zo.chk_lessr (Zo.clo hz).1 k1
    cases hC : closeL 3 (lessr (Zo.matL z) (Zo.matL ⟨NO, NO, NO, NO, Rg.ab s, Rg.be s⟩)) with
    | none => rw [of_shut g1 hC]
    | some C =>
      exfalso
      have hcy := cyc (N := 3) g1 hC (i := 1) (j := 2) (by decide) (by decide) (by decide)
      rw [(less_only hz (Rg.ab s) (Rg.be s)).1] at hcy
      refine hok (ole_trans hcy ?_)
      have hx : Rg.be s = NO ∨ Rg.be s < NO := .inr (by unfold NO; omega)
      have hy : Rg.ab s = NO ∨ Rg.ab s < NO := by rcases ha with h | h; exact .inl h; exact .inr (by unfold NO; omega)
      have l4 := Mi.lim_lt (Mi.get_lim (Zo.clo hz).1 (i := 4) (by omega)) (by omega)
      have l5 := Mi.lim_lt (Mi.get_lim (Zo.clo hz).1 (i := 5) (by omega)) (by omega)
      refine oadd_mono ?_ ?_
      · exact ob_min (x := z.f) l5 hx
      · exact ob_min (x := z.e) l4 hy
theorem lim_864 {b : Int} (h : -288230376151711744 ≤ b / 2 ∧ b / 2 ≤ 288230376151711744) : lim 864691128455135232 b := .inr (by omega)
theorem of_clo {L : List Int} (h0 : Dbm.chk 3 L = 0) (hc : Clo 3 L) : (Zo.of 3 L).2 = 0 := by
  have hcl : close 3 L = (3, L, 0) := by unfold close; rw [if_pos h0]; show (match closeL 3 L with | some L' => ((3 : Int), L', (0 : Int)) | none => (0, [], 6)) = _; rw [hc.close]
  unfold Zo.of
  rw [if_pos h0, if_pos rfl, hcl, if_pos rfl]
  unfold Zo.told
  rw [if_pos h0]
/-- the zone of all pairs, in a span, or in a window, has no error but that there is none. -/
theorem free_within {s : Sp} (hs : spMay s = true) : (within Zs.free s).2 = 0 ∨ (within Zs.free s).2 = 6 := by
  have ha := ab_lim hs
  have hb := be_lim hs
  have k1 := (chk_only ha (.inr hb)).1
  have g1 : Dbm.chk 3 (lessr (Zo.matL Zs.free) (Zo.matL ⟨NO, NO, NO, NO, Rg.ab s, Rg.be s⟩)) = 0 := Zo.chk_lessr (Zo.clo Zs.free_chk).1 k1
  rw [within_doc Zs.free_chk hs]
  cases hC : closeL 3 (lessr (Zo.matL Zs.free) (Zo.matL ⟨NO, NO, NO, NO, Rg.ab s, Rg.be s⟩)) with
  | none => right; rw [of_shut g1 hC]
  | some C =>
    left
    have hcy := cyc (N := 3) g1 hC (i := 1) (j := 2) (by decide) (by decide) (by decide)
    have m1 : min NO (Rg.be s) = Rg.be s := by unfold NO; omega
    have m2 : min NO (Rg.ab s) = Rg.ab s := by rcases ha with ha | ha <;> unfold NO at * <;> omega
    have hL : lessr (Zo.matL Zs.free) (Zo.matL ⟨NO, NO, NO, NO, Rg.ab s, Rg.be s⟩) = [1, NO, NO, NO, 1, Rg.be s, NO, Rg.ab s, 1] := by
      rw [(less_only Zs.free_chk _ _).1]
      show [1, NO, NO, NO, 1, min NO (Rg.be s), NO, min NO (Rg.ab s), 1] = _
      rw [m1, m2]
    rw [hL] at hcy g1 ⊢
    refine of_clo g1 (clo45 (lim_864 hb) (lim_of ha) hcy)
theorem free_window {lo hi : Int} (h : fits lo = true ∧ fits hi = true ∧ lo < hi) : (window Zs.free lo hi).2 = 0 := by
  obtain ⟨h1, h2, h3⟩ := h
  have k1 := fits_iff.1 h1
  have k2 := fits_iff.1 h2
  have e1 : (Bd.made hi false).1 = hi * 2 + 1 := by
    unfold Bd.made Num.okB
    rw [if_pos (by simp; omega)]; rfl
  have e2 : (Bd.made (-lo) true).1 = -lo * 2 := by
    unfold Bd.made Num.okB
    rw [if_pos (by simp; omega)]; rfl
  unfold window
  rw [if_pos Zs.free_chk, if_pos ⟨h1, h2, h3⟩, e1, e2]
  have b1 : -288230376151711744 ≤ (hi * 2 + 1) / 2 ∧ (hi * 2 + 1) / 2 ≤ 288230376151711744 := by omega
  have b2 : -288230376151711744 ≤ (-lo * 2) / 2 ∧ (-lo * 2) / 2 ≤ 288230376151711744 := by omega
  rw [(with_only Zs.free_chk (.inr b1) (.inr b2)).2]
  have g1 : Dbm.chk 3 (lessr (Zo.matL Zs.free) (Zo.matL ⟨NO, NO, hi * 2 + 1, -lo * 2, NO, NO⟩)) = 0 := Zo.chk_lessr (Zo.clo Zs.free_chk).1 (chk_only (.inr b1) (.inr b2)).2
  have m1 : min NO (hi * 2 + 1) = hi * 2 + 1 := by unfold NO; omega
  have m2 : min NO (-lo * 2) = -lo * 2 := by unfold NO; omega
  have hL : lessr (Zo.matL Zs.free) (Zo.matL ⟨NO, NO, hi * 2 + 1, -lo * 2, NO, NO⟩) = [1, NO, -lo * 2, NO, 1, NO, hi * 2 + 1, NO, 1] := by
    rw [(less_only Zs.free_chk _ _).2]
    show [1, NO, min NO (-lo * 2), NO, 1, NO, min NO (hi * 2 + 1), NO, 1] = _
    rw [m1, m2]
  rw [hL] at g1 ⊢
  refine of_clo g1 (clo23 (lim_864 b2) (lim_864 b1) ?_)
  have o1 : ob (hi * 2 + 1) = some (hi * 2 + 1) := by unfold ob; rw [if_neg (by unfold NO; omega)]
  have o2 : ob (-lo * 2) = some (-lo * 2) := by unfold ob; rw [if_neg (by unfold NO; omega)]
  rw [o1, o2]
  show 1 ≤ bsum (-lo * 2) (hi * 2 + 1)
  unfold bsum
  have : (-lo * 2) % 2 = 0 := by omega
  rw [this]
  omega
end Wn
end Go.Proofs.YtodpgcdandechaaGreat

/-
  The document's answer of layer 3, by the engine: Low, Part, common, alone, May.
-/
namespace Go.Proofs.YtodpgcdandechaaGreat
set_option linter.unusedVariables false
set_option linter.unusedSimpArgs false
set_option maxRecDepth 100000
open Go.RowKit Go.Proofs.YtodpgcdandechaaGreat.Eng Enc

theorem rlow03_any (n d : Int) (hd : 1 ≤ d) (hn : inK .i64 n) (w : World) :
    Calls Tryz.prog 187 #[.int .i64 n, .int .i64 d] w fun e w' => e = .returned (.int .i64 (n / d)) ∧ Below w.heap.size w w' := by
  refine fun_eq 0 w Tryz.func187 (args := [.val (.int .i64 n), .val (.int .i64 d)]) rfl rfl ?_
  obtain ⟨k1, k2⟩ := Fr.floor_eq (n := n) hd
  have k3 : inK .i64 (n.tdiv d) ∧ (n.tmod d < 0 → inK .i64 (n.tdiv d - 1)) := by
    have hq := Fr.ediv_in hd hn
    refine ⟨?_, fun h => by rw [(k1 h).1]; exact hq⟩
    by_cases h : n.tmod d < 0
    · have e := (k1 h).1
      have h0 : n < 0 := by
        rcases Int.lt_or_le n 0 with h | h'
        · exact h
        · have := Int.tmod_nonneg d h'; omega
      have : n / d < 0 := Int.ediv_neg_of_neg_of_pos h0 (by omega)
      simp only [inK] at hq ⊢; omega
    · rw [(k2 h).1]; exact hq
  refine Need.mk ⟨by omega, k3.1⟩ ?_
  refine Need.mk (by omega) ?_
  refine Branch.mk (fun hb => ?_) (fun hb => ?_)
  · obtain ⟨e1, e2⟩ := k1 (by simpa using hb)
    refine Need.mk (k3.2 (by simpa using hb)) ?_
    exact EndI.mk fun w1 h1 => by rw [e1]
  · obtain ⟨e1, e2⟩ := k2 (by simpa using hb)
    exact EndI.mk fun w1 h1 => by rw [e1]
theorem rpart03_any (n d : Int) (hd : 1 ≤ d) (hd2 : inK .i64 d) (w : World) :
    Calls Tryz.prog 188 #[.int .i64 n, .int .i64 d] w fun e w' => e = .returned (.int .i64 (n % d)) ∧ Below w.heap.size w w' := by
  refine fun_eq 0 w Tryz.func188 (args := [.val (.int .i64 n), .val (.int .i64 d)]) rfl rfl ?_
  obtain ⟨k1, k2⟩ := Fr.floor_eq (n := n) hd
  have k4 := Int.emod_nonneg n (by omega : d ≠ 0)
  have k5 := Int.emod_lt_of_pos n (by omega : 0 < d)
  refine Need.mk (by omega) ?_
  refine Branch.mk (fun hb => ?_) (fun hb => ?_)
  · obtain ⟨e1, e2⟩ := k1 (by simpa using hb)
    refine Need.mk ?_ ?_
    · simp only [inK] at hd2 ⊢; omega
    exact EndI.mk fun w1 h1 => by rw [e2]
  · obtain ⟨e1, e2⟩ := k2 (by simpa using hb)
    exact EndI.mk fun w1 h1 => by rw [e2]
theorem rcommon03_any (a b : Nat) (ha : a < 9223372036854775808) (hb : b < 9223372036854775808) (w : World) :
    Calls Tryz.prog 238 #[.int .i64 (a : Nat), .int .i64 (b : Nat)] w fun e w' => e = .returned (.int .i64 (Nat.gcd a b : Nat)) ∧ Below w.heap.size w w' := by
  refine fun_eq 0 w Tryz.func238 (args := [.val (.int .i64 (a : Nat)), .val (.int .i64 (b : Nat))]) rfl rfl ?_
  refine LoopI.invC (α := (Nat × Nat) × World) (fun y => [(0, .val (.int .i64 y.1.1)), (1, .val (.int .i64 y.1.2))]) (fun y => y.2) (fun y => y.1.1 < 9223372036854775808 ∧ y.1.2 < 9223372036854775808 ∧ Nat.gcd y.1.1 y.1.2 = Nat.gcd a b) (fun y => y.1.2) ?_ ?_
  · intro w1 h1
    exact ⟨((a, b), w1), Cov.mk (by repeat' (first | exact trivial | refine And.intro rfl ?_)) rfl rfl rfl rfl rfl, rfl, ha, hb, rfl⟩
  rintro ⟨⟨x, y⟩, W⟩ ⟨hx, hy, hg⟩
  refine Branch.mk (fun hc => ?_) (fun hc => ?_)
  · have hy0 : 0 < y := by
      have : ¬ y = 0 := by simpa using hc
      omega
    have em : ((x : Int)).tmod y = ((x % y : Nat) : Int) := rfl
    have hm : x % y < y := Nat.mod_lt _ hy0
    refine DrawI.go (.tk 0 (.tk 1 (.tk 2 (.tk 3 (.tk 4 (.tk 5 .done)))))) (by kernel_rfl) fun w1 h1 => ?_
    refine Need.mk ?_ ?_
    · show (y : Int) ≠ 0
      omega
    refine EndI.mk fun w2 h2 => ⟨((y, x % y), w2), Cov.mk (by repeat' (first | exact trivial | refine And.intro rfl ?_)) rfl rfl rfl rfl rfl, rfl, ⟨hy, ?_, ?_⟩, hm⟩
    · exact Nat.lt_trans hm hy
    · refine Eq.trans ?_ hg
      show Nat.gcd y (x % y) = Nat.gcd x y
      rw [Nat.gcd_comm x y, Nat.gcd_comm y (x % y)]; exact (Nat.gcd_rec y x).symm
  · refine EndI.mk fun w1 h1 => ?_
    have hy0 : y = 0 := by simpa using hc
    subst hy0
    rw [← hg]
    simp
/-- the numbers of a fraction have no common divisor but one. -/
def Fr.alone (n d : Int) : Bool := decide (((Nat.gcd (n % d).toNat d.toNat : Nat) : Int) = 1)
theorem ralone_any (n d : Int) (hd : 1 ≤ d) (hd2 : inK .i64 d) (w : World) :
    Calls Tryz.prog 186 #[.agg #[.int .i64 n, .int .i64 d]] w fun e w' => e = .returned (.bool (Fr.alone n d)) ∧ Below w.heap.size w w' := by
  refine fun_eq 0 w Tryz.func186 (args := [.agg [.val (.int .i64 n), .val (.int .i64 d)]]) rfl rfl ?_
  have k4 := Int.emod_nonneg n (by omega : d ≠ 0)
  have k5 := Int.emod_lt_of_pos n (by omega : 0 < d)
  have hc : ∀ w, Calls Tryz.prog 238 #[.int .i64 (n % d), .int .i64 d] w fun e w' => e = .returned (.int .i64 (Nat.gcd (n % d).toNat d.toNat : Nat)) ∧ Below w.heap.size w w' := fun w => by
    simp only [inK] at hd2
    have h := rcommon03_any (n % d).toNat d.toNat (by omega) (by omega) w
    rwa [Int.toNat_of_nonneg k4, Int.toNat_of_nonneg (by omega)] at h
  refine NewI.mk fun b1 hb1 => ?_
  refine DrawI.go (.tk 0 (.tk 1 (.tk 2 (.tk 3 (.tk 5 (.tk 6 (.ev 4 (.ev 7 (.tk 8 (.tk 9 .done)))))))))) (by kernel_rfl) fun w1 h1 => ?_
  apply CallI.use1
  focus (exact fun w2 h2 => rpart03_any n d hd hd2 w2)
  intro w2 v2 h2 hB2
  apply CallI.use1
  focus (exact fun w3 h3 => hc w3)
  intro w3 v3 h3 hB3
  exact EndI.mk fun w9 h9 => rfl
theorem Fr.alone_gcd {n d : Int} (hd : 1 ≤ d) : Fr.alone n d = decide (Nat.gcd n.natAbs d.natAbs = 1) := by
  unfold Fr.alone
  have e : Nat.gcd (n % d).toNat d.toNat = Nat.gcd n.natAbs d.natAbs := by
    have h3 : Int.gcd n d = Int.gcd (n % d) d := by
      conv => lhs; rw [← Int.emod_add_mul_ediv n d, Int.mul_comm d, Int.gcd_add_mul_right_left]
    have h4 := Int.emod_nonneg n (by omega : d ≠ 0)
    have h5 : Nat.gcd n.natAbs d.natAbs = Nat.gcd (n % d).natAbs d.natAbs := h3
    rw [h5, show (n % d).natAbs = (n % d).toNat by omega, show d.natAbs = d.toNat by omega]
  rw [e, decide_eq_decide]
  omega
theorem rmay03_any (x : Rt) (hx : x.ins) (w : World) :
    Calls Tryz.prog 112 #[.agg #[.int .i64 x.num, .int .i64 x.den]] w fun e w' => e = .returned (.bool x.ok) ∧ Below w.heap.size w w' := by
  obtain ⟨n, d⟩ := x
  obtain ⟨hn, hd⟩ := hx
  simp only at hn hd
  unfold Rt.ok Fr.okB Fr.inB
  simp only
  refine fun_eq 0 w Tryz.func112 (args := [.agg [.val (.int .i64 n), .val (.int .i64 d)]]) rfl rfl ?_
  refine NewI.mk fun b1 hb1 => ?_
  refine Branch.mk (fun z1 => ?_) (fun z1 => ?_)
  · have h1 : d < 1 := of_decide_eq_true z1
    refine EndI.mk fun w9 h9 => ?_
    rw [decide_eq_false (by omega : ¬ 1 ≤ d)]; rfl
  have h1 : 1 ≤ d := by have := of_decide_eq_false z1; omega
  refine Branch.mk (fun z2 => ?_) (fun z2 => ?_)
  · have h2 : 1048576 < d := of_decide_eq_true z2
    refine EndI.mk fun w9 h9 => ?_
    rw [decide_eq_false (by omega : ¬ d ≤ 1048576)]; simp
  have h2 : d ≤ 1048576 := by have := of_decide_eq_false z2; omega
  have k4 := Int.emod_nonneg n (by omega : d ≠ 0)
  have k5 := Int.emod_lt_of_pos n (by omega : 0 < d)
  rw [decide_eq_true h1, decide_eq_true h2]
  apply CallI.use1
  focus (exact fun w3 h3 => ralone_any n d h1 hd w3)
  intro w3 v3 h3 hB3
  rw [Fr.alone_gcd h1]
  refine Branch.mk (fun z3 => ?_) (fun z3 => ?_)
  · have h3 : decide (n.natAbs.gcd d.natAbs = 1) = false := by simpa using z3
    refine EndI.mk fun w9 h9 => ?_
    rw [h3]; simp
  have h3 : decide (n.natAbs.gcd d.natAbs = 1) = true := by simpa using z3
  rw [h3]
  clear z1 z2 z3 h3
  apply CallI.use1
  focus (exact fun w4 h4 => rlow03_any n d h1 hn w4)
  intro w4 v4 h4 hB4
  refine Branch.mk (fun z4 => ?_) (fun z4 => ?_)
  · have h4 : -2305843009213693952 ≤ n / d := of_decide_eq_true z4
    rw [decide_eq_true h4]
    refine Branch.mk (fun z5 => ?_) (fun z5 => ?_)
    · have h5 : n / d < 2305843009213693952 := of_decide_eq_true z5
      refine EndI.mk fun w9 h9 => ?_
      rw [decide_eq_true h5]; rfl
    have h5 : ¬ n / d < 2305843009213693952 := of_decide_eq_false z5
    rw [decide_eq_false h5]
    refine Branch.mk (fun z6 => ?_) (fun z6 => ?_)
    · rw [z6]
      apply CallI.use1
      focus (exact fun w5 h5 => rpart03_any n d h1 hd w5)
      intro w5 v5 h5 hB5
      exact EndI.mk fun w9 h9 => by simp
    · rw [z6]
      exact EndI.mk fun w9 h9 => rfl
  · have h4 : ¬ -2305843009213693952 ≤ n / d := of_decide_eq_false z4
    refine EndI.mk fun w9 h9 => ?_
    rw [decide_eq_false h4]; rfl
end Go.Proofs.YtodpgcdandechaaGreat

/-
  What the document's answer of layer 14 reckons, in the program's words: parts, places, numbers, times.
-/
namespace Go.Proofs.YtodpgcdandechaaGreat
set_option linter.unusedVariables false
set_option linter.unusedSimpArgs false
open Go.RowKit Go.Proofs.YtodpgcdandechaaGreat.Eng Enc
namespace Rg
end Rg
end Go.Proofs.YtodpgcdandechaaGreat

/-
  The document's answer of layer 14: numbers and points, by the engine.
-/
namespace Go.Proofs.YtodpgcdandechaaGreat
set_option linter.unusedVariables false
set_option linter.unusedSimpArgs false
set_option maxRecDepth 100000
open Go.RowKit Go.Proofs.YtodpgcdandechaaGreat.Eng Enc

theorem rmaypoint_any (p : Pt) (hp : p.ins) (w : World) :
    Calls Tryz.prog 53 #[.agg #[.int .i64 p.t.num, .int .i64 p.t.den, .int .i64 p.u.num, .int .i64 p.u.den]] w fun e w' => e = .returned (.bool (p.t.ok && p.u.ok)) ∧ Below w.heap.size w w' := by
  refine fun_eq 0 w Tryz.func53 (args := [.agg [.val (.int .i64 p.t.num), .val (.int .i64 p.t.den), .val (.int .i64 p.u.num), .val (.int .i64 p.u.den)]]) rfl rfl ?_
  refine NewI.mk fun b1 hb1 => ?_
  (first
    | (refine CallI.to1 (rmay03_any p.t hp.1) fun w2 => ?_)
    | (refine Branch.yes rfl ?_)
    | (refine Branch.no rfl ?_)
    | (refine Branch.mk (fun hb => ?_) (fun hb => ?_))
    | (refine NewI.mk fun nb hnb => ?_)
    | (refine Need.mk (by show _ ∧ _; omega) ?_)
    | (refine Need.mk (by omega) ?_)
    | (refine Need.mk ?_ ?_)
    | (refine EndI.mk fun w1 h1 => ?_))
  refine Branch.mk (fun hc => ?_) (fun hc => ?_)
  · (first
    | (refine CallI.to1 (rmay03_any p.u hp.2) fun w2 => ?_)
    | (refine Branch.yes rfl ?_)
    | (refine Branch.no rfl ?_)
    | (refine Branch.mk (fun hb => ?_) (fun hb => ?_))
    | (refine NewI.mk fun nb hnb => ?_)
    | (refine Need.mk (by show _ ∧ _; omega) ?_)
    | (refine Need.mk (by omega) ?_)
    | (refine Need.mk ?_ ?_)
    | (refine EndI.mk fun w1 h1 => ?_))
    exact EndI.mk fun w3 h3 => by rw [hc]; rfl
  · exact EndI.mk fun w3 h3 => by rw [hc]; rfl
end Go.Proofs.YtodpgcdandechaaGreat

/-
  A region's zone by the document: the cases of some places.
-/
namespace Go.Proofs.YtodpgcdandechaaGreat
set_option maxRecDepth 100000
namespace Rg
end Rg
end Go.Proofs.YtodpgcdandechaaGreat

/-
  A region's zone by the document: the cases of some places.
-/
namespace Go.Proofs.YtodpgcdandechaaGreat
set_option maxRecDepth 100000
namespace Rg
end Rg
end Go.Proofs.YtodpgcdandechaaGreat

/-
  A region's zone by the document: the cases of some places.
-/
namespace Go.Proofs.YtodpgcdandechaaGreat
set_option maxRecDepth 100000
namespace Rg
end Rg
end Go.Proofs.YtodpgcdandechaaGreat

/-
  A region's zone by the document: the cases of some places.
-/
namespace Go.Proofs.YtodpgcdandechaaGreat
set_option maxRecDepth 100000
namespace Rg
end Rg
end Go.Proofs.YtodpgcdandechaaGreat

/-
  A region's zone by the document, of all places.
-/
namespace Go.Proofs.YtodpgcdandechaaGreat
set_option linter.unusedVariables false
namespace Rg
end Rg
end Go.Proofs.YtodpgcdandechaaGreat

/-
  A region's zone in closed form: the cases of some places.
-/
namespace Go.Proofs.YtodpgcdandechaaGreat
set_option maxRecDepth 100000
namespace Rg
end Rg
end Go.Proofs.YtodpgcdandechaaGreat

/-
  A region's zone in closed form: the cases of some places.
-/
namespace Go.Proofs.YtodpgcdandechaaGreat
set_option maxRecDepth 100000
namespace Rg
end Rg
end Go.Proofs.YtodpgcdandechaaGreat

/-
  A region's zone in closed form: the cases of some places.
-/
namespace Go.Proofs.YtodpgcdandechaaGreat
set_option maxRecDepth 100000
namespace Rg
end Rg
end Go.Proofs.YtodpgcdandechaaGreat

/-
  A region's zone in closed form: the cases of some places.
-/
namespace Go.Proofs.YtodpgcdandechaaGreat
set_option maxRecDepth 100000
namespace Rg
end Rg
end Go.Proofs.YtodpgcdandechaaGreat

/-
  A region's zone in closed form: the cases of some places.
-/
namespace Go.Proofs.YtodpgcdandechaaGreat
set_option maxRecDepth 100000
namespace Rg
end Rg
end Go.Proofs.YtodpgcdandechaaGreat

/-
  A region's zone in closed form: the cases of some places.
-/
namespace Go.Proofs.YtodpgcdandechaaGreat
set_option maxRecDepth 100000
namespace Rg
end Rg
end Go.Proofs.YtodpgcdandechaaGreat

/-
  A region's zone in closed form: the cases of some places.
-/
namespace Go.Proofs.YtodpgcdandechaaGreat
set_option maxRecDepth 100000
namespace Rg
end Rg
end Go.Proofs.YtodpgcdandechaaGreat

/-
  A region's zone in closed form: the cases of some places.
-/
namespace Go.Proofs.YtodpgcdandechaaGreat
set_option maxRecDepth 100000
namespace Rg
end Rg
end Go.Proofs.YtodpgcdandechaaGreat

/-
  A region's zone in closed form: the cases of some places.
-/
namespace Go.Proofs.YtodpgcdandechaaGreat
set_option maxRecDepth 100000
namespace Rg
end Rg
end Go.Proofs.YtodpgcdandechaaGreat

/-
  A region's zone in closed form: the cases of some places.
-/
namespace Go.Proofs.YtodpgcdandechaaGreat
set_option maxRecDepth 100000
namespace Rg
end Rg
end Go.Proofs.YtodpgcdandechaaGreat

/-
  A region's zone in closed form: the cases of some places.
-/
namespace Go.Proofs.YtodpgcdandechaaGreat
set_option maxRecDepth 100000
namespace Rg
end Rg
end Go.Proofs.YtodpgcdandechaaGreat

/-
  A region's zone in closed form, of all places.
-/
namespace Go.Proofs.YtodpgcdandechaaGreat
set_option linter.unusedVariables false
namespace Rg
end Rg
end Go.Proofs.YtodpgcdandechaaGreat

/-
  The plain law of RegionZones, all of it.
-/
namespace Go.Proofs.YtodpgcdandechaaGreat
set_option linter.unusedVariables false
open Go.RowKit Go.Proofs.YtodpgcdandechaaGreat.Eng Enc
namespace Rg
end Rg
end Go.Proofs.YtodpgcdandechaaGreat

/-
  The document's own closing: the least simple way between two clocks; it is the closing of XPlainDbm.
-/
namespace Go.Proofs.YtodpgcdandechaaGreat
set_option linter.unusedVariables false
set_option linter.unusedSimpArgs false
namespace Dbm
/-- is a clock among some (bits)? -/
def inS (S k : Nat) : Bool := decide (S / 2 ^ k % 2 = 1)
def pc (S : Nat) : Nat := (if inS S 0 then 1 else 0) + (if inS S 1 then 1 else 0) + (if inS S 2 then 1 else 0) + (if inS S 3 then 1 else 0)
theorem inS_less {S k a : Nat} (hk : inS S k = true) (hS : S < 16) (hk4 : k < 4) (ha : a < 4) : (inS (S - 2 ^ k) a = true ↔ inS S a = true ∧ a ≠ k) ∧ pc (S - 2 ^ k) + 1 = pc S := by
  have key : ∀ S : Fin 16, ∀ k a : Fin 4, inS S.1 k.1 = true → (inS (S.1 - 2 ^ k.1) a.1 = true ↔ inS S.1 a.1 = true ∧ a.1 ≠ k.1) ∧ pc (S.1 - 2 ^ k.1) + 1 = pc S.1 := by decide +kernel
  exact key ⟨S, hS⟩ ⟨k, hk4⟩ ⟨a, ha⟩ hk
theorem inS_zero {S k : Nat} (hS : S < 16) (hp : pc S = 0) (hk : k < 4) : inS S k = false := by
  have key : ∀ S : Fin 16, ∀ k : Fin 4, pc S.1 = 0 → inS S.1 k.1 = false := by decide +kernel
  exact key ⟨S, hS⟩ ⟨k, hk⟩ hp
def cand (N : Nat) (L : List Int) (i : Nat) (rc : Nat → Int) (k : Nat) : Int := (Bd.add (L[i * N + k]?.getD 0) (rc k)).1
def pstep (sk : Nat → Bool) (cd : Nat → Int) (best : Int) (k : Nat) : Int := if sk k = true then best else if cd k < best then cd k else best
def skip (i j S k : Nat) : Bool := !(inS S k) || decide (k = i) || decide (k = j)
/-- the least sum of bounds by clocks among some, no clock twice; as deep as there are clocks. -/
def pth (N : Nat) (L : List Int) : Nat → Nat → Nat → Nat → Int
  | 0, i, j, _ => L[i * N + j]?.getD 0
  | f + 1, i, j, S => (List.range N).foldl (pstep (skip i j S) (cand N L i fun k => pth N L f k j (S - 2 ^ k))) (L[i * N + j]?.getD 0)
theorem fold_min {sk : Nat → Bool} {cd : Nat → Int} {G : Int → Prop} : ∀ (l : List Nat) (b : Int), G b → (∀ k, k ∈ l → sk k = false → G (cd k)) →
    G (l.foldl (pstep sk cd) b) ∧ l.foldl (pstep sk cd) b ≤ b ∧ ∀ k, k ∈ l → sk k = false → l.foldl (pstep sk cd) b ≤ cd k
  | [], b, hb, _ => ⟨hb, Int.le_refl _, by simp⟩
  | k :: l, b, hb, hc => by
    rw [List.foldl_cons]
    have hs : G (pstep sk cd b k) ∧ pstep sk cd b k ≤ b ∧ (sk k = false → pstep sk cd b k ≤ cd k) := by
      unfold pstep
      by_cases h1 : sk k = true
      · rw [if_pos h1]; exact ⟨hb, Int.le_refl _, fun h => by rw [h1] at h; cases h⟩
      · rw [if_neg h1]
        have h1' : sk k = false := by simpa using h1
        by_cases h2 : cd k < b
        · rw [if_pos h2]; exact ⟨hc k (by simp) h1', by omega, fun _ => Int.le_refl _⟩
        · rw [if_neg h2]; exact ⟨hb, Int.le_refl _, fun _ => by omega⟩
    obtain ⟨k1, k2, k3⟩ := fold_min l (pstep sk cd b k) hs.1 (fun a ha => hc a (by simp [ha]))
    refine ⟨k1, by omega, fun a ha hsa => ?_⟩
    rcases List.mem_cons.1 ha with rfl | ha
    · have := hs.2.2 hsa; omega
    · exact k3 a ha hsa
theorem le_ole {m : Int} (hm : m ≤ 2305843009213693952) {u v : Int} (hu : lim m u) (hv : lim m v) (h : u ≤ v) : ole (ob u) (ob v) :=
  not_olt.1 fun h2 => by have := (lt_iff hm hv hu).2 h2; omega
structure POk (N : Nat) (L : List Int) (i j S f : Nat) (v : Int) : Prop where
  lim : Dbm.lim 1152921504606846976 v
  wit : ∀ u, ob v = some u → ∃ mid : List Nat, mid.Nodup ∧ i ∉ mid ∧ j ∉ mid ∧ (∀ a, a ∈ mid → a < N ∧ inS S a = true) ∧ way (mx N L) (i :: (mid ++ [j])) = some u
  low : ∀ mid : List Nat, mid.Nodup → i ∉ mid → j ∉ mid → (∀ a, a ∈ mid → a < N ∧ inS S a = true) → mid.length ≤ f → ole (ob v) (way (mx N L) (i :: (mid ++ [j])))
section
variable {N : Nat} {L : List Int}
theorem mx_lim (h0 : chk N L = 0) : ∀ i j v, i < N → j < N → mx N L i j = some v → -288230376151711744 ≤ v / 2 ∧ v / 2 ≤ 288230376151711744 := fun i j v hi hj hv => by
  obtain ⟨c1, c2, c3, c4⟩ := chk_iff.1 h0
  have hL : L.length = N * N := by exact_mod_cast c3
  obtain ⟨e1, e2⟩ := mx_some hv
  have := chk_lim h0 (i * N + j) (by rw [hL]; exact place_lt hi hj)
  rw [e1] at this
  exact this.resolve_left e2
theorem way_lim3 (h0 : chk N L = 0) {i j : Nat} (hi : i < N) (hj : j < N) {mid : List Nat} (hn : mid.Nodup) (him : i ∉ mid) (hm : ∀ a, a ∈ mid → a < N) {u : Int} (hu : way (mx N L) (i :: (mid ++ [j])) = some u) : -1152921504606846976 ≤ u / 2 ∧ u / 2 ≤ 1152921504606846976 := by
  obtain ⟨c1, c2, c3, c4⟩ := chk_iff.1 h0
  have hlt : ∀ a ∈ i :: (mid ++ [j]), a < N := by
    intro a ha
    simp only [List.mem_cons, List.mem_append, List.not_mem_nil, or_false] at ha
    rcases ha with rfl | ha | rfl
    · exact hi
    · exact hm a ha
    · exact hj
  have hw := way_lim (by omega) (mx_lim h0) _ u hlt hu
  have hl := nodup_len N (i :: mid) (List.nodup_cons.2 ⟨him, hn⟩) (fun a ha => by rcases List.mem_cons.1 ha with rfl | ha; exact hi; exact hm a ha)
  have hl' : ((i :: (mid ++ [j])).length - 1 : Nat) ≤ 4 := by simp at hl ⊢; omega
  generalize ((i :: (mid ++ [j])).length - 1 : Nat) = x at hw hl'
  omega
theorem ob_lim {v m : Int} (h : ∀ u, ob v = some u → -m ≤ u / 2 ∧ u / 2 ≤ m) : lim m v := by
  by_cases hv : v = NO
  · exact .inl hv
  · exact .inr (h v (by unfold ob; rw [if_neg hv]))
theorem pth_ok (h0 : chk N L = 0) : ∀ (f i j S : Nat), i < N → j < N → S < 16 → inS S i = false → POk N L i j S f (pth N L f i j S)
  | 0, i, j, S, hi, hj, hS, hiS => by
    have hw : ∀ u, ob (pth N L 0 i j S) = some u → way (mx N L) (i :: ([] ++ [j])) = some u := fun u hu => by rw [List.nil_append, way_two]; exact hu
    refine ⟨ob_lim fun u hu => way_lim3 h0 hi hj (by simp) (by simp) (by simp) (hw u hu), fun u hu => ⟨[], by simp, by simp, by simp, by simp, hw u hu⟩, fun mid _ _ _ _ hl => ?_⟩
    have : mid = [] := List.eq_nil_of_length_eq_zero (by omega)
    subst this
    rw [List.nil_append, way_two]
    exact ole_refl _
  | f + 1, i, j, S, hi, hj, hS, hiS => by
    obtain ⟨c1, c2, c3, c4⟩ := chk_iff.1 h0
    have hN4 : N ≤ 4 := by omega
    have hL : L.length = N * N := by exact_mod_cast c3
    let G : Int → Prop := fun v => ∀ u, ob v = some u → ∃ mid : List Nat, mid.Nodup ∧ i ∉ mid ∧ j ∉ mid ∧ (∀ a, a ∈ mid → a < N ∧ inS S a = true) ∧ way (mx N L) (i :: (mid ++ [j])) = some u
    have Glim : ∀ v, G v → lim 1152921504606846976 v := fun v hv => ob_lim fun u hu => by
      obtain ⟨mid, m1, m2, m3, m4, m5⟩ := hv u hu
      exact way_lim3 h0 hi hj m1 m2 (fun a ha => (m4 a ha).1) m5
    have hsk : ∀ k, k < N → skip i j S k = false → inS S k = true ∧ k ≠ i ∧ k ≠ j := fun k hk h => by
      unfold skip at h
      simpa [and_assoc] using h
    have rc : ∀ k, k < N → skip i j S k = false → POk N L k j (S - 2 ^ k) f (pth N L f k j (S - 2 ^ k)) := fun k hk h => by
      obtain ⟨h1, h2, h3⟩ := hsk k hk h
      have hl := inS_less (a := k) h1 hS (by omega) (by omega)
      refine pth_ok h0 f k j (S - 2 ^ k) hk hj (Nat.lt_of_le_of_lt (Nat.sub_le _ _) hS) ?_
      cases hh : inS (S - 2 ^ k) k with
      | false => rfl
      | true => exact absurd rfl ((hl.1.1 hh).2)
    have cdE : ∀ k, k < N → skip i j S k = false → ob (cand N L i (fun k => pth N L f k j (S - 2 ^ k)) k) = oadd (mx N L i k) (ob (pth N L f k j (S - 2 ^ k))) := fun k hk h => by
      have l1 : lim 1152921504606846976 (L[i * N + k]?.getD 0) := lim_mono (chk_lim h0 (i * N + k) (by rw [hL]; exact place_lt hi hk)) (by omega)
      exact (add_eq l1 (rc k hk h).lim).1
    have cdG : ∀ k, k ∈ List.range N → skip i j S k = false → G (cand N L i (fun k => pth N L f k j (S - 2 ^ k)) k) := fun k hk h u hu => by
      have hk := List.mem_range.1 hk
      obtain ⟨h1, h2, h3⟩ := hsk k hk h
      rw [cdE k hk h] at hu
      cases he : mx N L i k with
      | none => rw [he] at hu; cases hu
      | some x =>
        cases hp : ob (pth N L f k j (S - 2 ^ k)) with
        | none => rw [he, hp] at hu; cases hu
        | some y =>
          obtain ⟨mid, m1, m2, m3, m4, m5⟩ := (rc k hk h).wit y hp
          have hl := fun a (ha : a < 4) => (inS_less (a := a) h1 hS (by omega) ha).1
          have hin : ∀ a, a ∈ mid → a < N ∧ inS S a = true ∧ a ≠ k := fun a ha => ⟨(m4 a ha).1, (hl a (by have := (m4 a ha).1; omega)).1 (m4 a ha).2⟩
          refine ⟨k :: mid, List.nodup_cons.2 ⟨m2, m1⟩, ?_, ?_, ?_, ?_⟩
          · intro hm
            rcases List.mem_cons.1 hm with rfl | hm
            · exact h2 rfl
            · have := (hin i hm).2.1; rw [hiS] at this; cases this
          · intro hm
            rcases List.mem_cons.1 hm with rfl | hm
            · exact h3 rfl
            · exact m3 hm
          · intro a ha
            rcases List.mem_cons.1 ha with rfl | ha
            · exact ⟨hk, h1⟩
            · exact ⟨(hin a ha).1, (hin a ha).2.1⟩
          · show oadd (mx N L i k) (way (mx N L) (k :: (mid ++ [j]))) = some u
            rw [m5, he]
            rw [he, hp] at hu
            exact hu
    have b0 : G (L[i * N + j]?.getD 0) := fun u hu => ⟨[], by simp, by simp, by simp, by simp, by rw [List.nil_append, way_two]; exact hu⟩
    obtain ⟨k1, k2, k3⟩ := fold_min (sk := skip i j S) (cd := cand N L i fun k => pth N L f k j (S - 2 ^ k)) (G := G) (List.range N) _ b0 cdG
    refine ⟨Glim _ k1, k1, fun mid m1 m2 m3 m4 hl => ?_⟩
    cases mid with
    | nil =>
      rw [List.nil_append, way_two]
      exact le_ole (by omega) (Glim _ k1) (Glim _ b0) k2
    | cons k mid =>
      have hkN := (m4 k (by simp)).1
      have hkS := (m4 k (by simp)).2
      have hki : k ≠ i := fun e => m2 (by simp [e])
      have hkj : k ≠ j := fun e => m3 (by simp [e])
      have hs : skip i j S k = false := by unfold skip; simp [hkS, hki, hkj]
      have h1 := k3 k (List.mem_range.2 hkN) hs
      have h2 := le_ole (m := 1152921504606846976) (by omega) (Glim _ k1) (Glim _ (cdG k (List.mem_range.2 hkN) hs)) h1
      rw [cdE k hkN hs] at h2
      refine ole_trans h2 ?_
      show ole _ (oadd (mx N L i k) (way (mx N L) (k :: (mid ++ [j]))))
      have hnd := List.nodup_cons.1 m1
      refine oadd_mono (ole_refl _) ((rc k hkN hs).low mid hnd.2 hnd.1 (fun h => m3 (by simp [h])) (fun a ha => ?_) (by simp at hl; omega))
      have ha4 := m4 a (by simp [ha])
      exact ⟨ha4.1, (inS_less hkS hS (by omega) (by omega)).1.2 ⟨ha4.2, fun e => hnd.1 (e ▸ ha)⟩⟩
end
end Dbm
end Go.Proofs.YtodpgcdandechaaGreat

/-
  The document's own closing is the closing of XPlainDbm.
-/
namespace Go.Proofs.YtodpgcdandechaaGreat
set_option linter.unusedVariables false
set_option linter.unusedSimpArgs false
namespace Dbm
def full (N i : Nat) : Nat := 2 ^ N - 1 - 2 ^ i
theorem full_ok {N i : Nat} (hN : N ≤ 4) (hi : i < N) : full N i < 16 ∧ inS (full N i) i = false ∧ pc (full N i) ≤ N ∧ ∀ a, a < N → a ≠ i → inS (full N i) a = true := by
  have key : ∀ N : Fin 5, ∀ i a : Fin 4, i.1 < N.1 → full N.1 i.1 < 16 ∧ inS (full N.1 i.1) i.1 = false ∧ pc (full N.1 i.1) ≤ N.1 ∧ (a.1 < N.1 → a.1 ≠ i.1 → inS (full N.1 i.1) a.1 = true) := by decide +kernel
  have k := fun a ha => key ⟨N, by omega⟩ ⟨i, by omega⟩ ⟨a, ha⟩ hi
  have k0 := k 0 (by omega)
  exact ⟨k0.1, k0.2.1, k0.2.2.1, fun a ha => (k a (by omega)).2.2.2 ha⟩
def closedR (N : Nat) (L : List Int) : Option (List Int) :=
  if (List.range N).all (fun i => decide (1 ≤ pth N L N i i (full N i))) = true then some ((List.range (N * N)).map fun p => if p / N = p % N then 1 else pth N L N (p / N) (p % N) (full N (p / N))) else none
/-- no clock behind itself. -/
def dis : List Nat → Prop
  | a :: b :: t => a ≠ b ∧ dis (b :: t)
  | _ => True
theorem dis_way {N : Nat} {L L1 : List Int} (h : ∀ i j, i < N → j < N → i ≠ j → L1[i * N + j]?.getD 0 = L[i * N + j]?.getD 0) : ∀ (p : List Nat), dis p → (∀ a, a ∈ p → a < N) → way (mx N L1) p = way (mx N L) p
  | [], _, _ => rfl
  | [_], _, _ => rfl
  | a :: b :: t, hd, hp => by
    have h1 : mx N L1 a b = mx N L a b := by unfold mx; rw [h a b (hp a (by simp)) (hp b (by simp)) hd.1]
    simp only [way, h1, dis_way h (b :: t) hd.2 (fun c hc => hp c (List.mem_cons_of_mem a hc))]
theorem dis_simple : ∀ (mid : List Nat) (i j : Nat), mid.Nodup → i ∉ mid → j ∉ mid → (i ≠ j ∨ mid ≠ []) → dis (i :: (mid ++ [j]))
  | [], i, j, _, _, _, h => ⟨h.resolve_right (fun h => h rfl), trivial⟩
  | k :: mid, i, j, hn, hi, hj, _ => by
    have hnd := List.nodup_cons.1 hn
    exact ⟨fun e => hi (by simp [e]), dis_simple mid k j hnd.2 hnd.1 (fun h => hj (by simp [h])) (.inl fun e => hj (by simp [e]))⟩
/-- there and back again is no less than 0, where no simple way round is. -/
theorem cyc_ok {N n : Nat} {E M : Mx} (inv : Inv N n E M) (hn : n < N) (H : ∀ i mid, i < N → mid.Nodup → i ∉ mid → (∀ a, a ∈ mid → a < N) → ole (some 1) (way E (i :: (mid ++ [i])))) :
    ∀ (m : Nat) (p q : List Nat) (i : Nat), p.length + q.length ≤ m → (i :: (p ++ [n])).Nodup → (n :: (q ++ [i])).Nodup → (∀ a, a ∈ p → a < n) → (∀ a, a ∈ q → a < n) → i < N → ole (some 1) (oadd (way E (i :: (p ++ [n]))) (way E (n :: (q ++ [i]))))
  | m, p, q, i, hm, hp, hq, hpn, hqn, hi => by
    have hp' := List.nodup_cons.1 hp
    have hq' := List.nodup_cons.1 hq
    have hpa := List.nodup_append.1 hp'.2
    have hqa := List.nodup_append.1 hq'.2
    have hip : i ∉ p := fun h => hp'.1 (List.mem_append.2 (.inl h))
    have hin : i ≠ n := fun h => hp'.1 (List.mem_append.2 (.inr (by simp [h])))
    have hnq : n ∉ q := fun h => hq'.1 (List.mem_append.2 (.inl h))
    have hnp : n ∉ p := fun h => hpa.2.2 n h n (by simp) rfl
    have hiq : i ∉ q := fun h => hqa.2.2 i h i (by simp) rfl
    by_cases hd : ∃ v, v ∈ p ∧ v ∈ q
    · obtain ⟨v, hv1, hv2⟩ := hd
      obtain ⟨p1, p2, rfl⟩ := List.append_of_mem hv1
      obtain ⟨q1, q2, rfl⟩ := List.append_of_mem hv2
      have hvn : v < n := hpn v hv1
      have e1 : way E (i :: ((p1 ++ v :: p2) ++ [n])) = oadd (way E (i :: (p1 ++ [v]))) (way E (v :: (p2 ++ [n]))) := by
        have := way_split E (i :: p1) v (p2 ++ [n])
        simpa using this
      have e2 : way E (n :: ((q1 ++ v :: q2) ++ [i])) = oadd (way E (n :: (q1 ++ [v]))) (way E (v :: (q2 ++ [i]))) := by
        have := way_split E (n :: q1) v (q2 ++ [i])
        simpa using this
      have e3 : way E (i :: ((p1 ++ v :: q2) ++ [i])) = oadd (way E (i :: (p1 ++ [v]))) (way E (v :: (q2 ++ [i]))) := by
        have := way_split E (i :: p1) v (q2 ++ [i])
        simpa using this
      have h1 : ole (some 1) (way E (i :: ((p1 ++ v :: q2) ++ [i]))) := by
        have := inv.le_way (by omega) (p1 ++ v :: q2) i i hi hi (fun a ha => by
          rcases List.mem_append.1 ha with h | h
          · exact hpn a (List.mem_append.2 (.inl h))
          · rcases List.mem_cons.1 h with rfl | h
            · exact hvn
            · exact hqn a (List.mem_append.2 (.inr (List.mem_cons_of_mem _ h))))
        rwa [inv.diag i hi] at this
      have hm' : p2.length + q1.length < p1.length + (p2.length + 1) + (q1.length + (q2.length + 1)) := by omega
      have h2 : ole (some 1) (oadd (way E (v :: (p2 ++ [n]))) (way E (n :: (q1 ++ [v])))) := by
        match m, hm with
        | 0, hm => simp at hm
        | m + 1, hm =>
          refine cyc_ok inv hn H m p2 q1 v (by simp at hm; omega) ?_ ?_ (fun a ha => hpn a (by simp [ha])) (fun a ha => hqn a (by simp [ha])) (by omega)
          · refine hp'.2.sublist ?_
            have : (p1 ++ v :: p2) ++ [n] = p1 ++ (v :: (p2 ++ [n])) := by simp
            rw [this]; exact List.sublist_append_right _ _
          · refine hq.sublist ?_
            have : (q1 ++ v :: q2) ++ [i] = (q1 ++ [v]) ++ (q2 ++ [i]) := by simp
            rw [this]; exact List.Sublist.cons_cons n (List.sublist_append_left _ _)
      rw [e1, e2]
      generalize way E (i :: (p1 ++ [v])) = A at *
      generalize way E (v :: (p2 ++ [n])) = B at *
      generalize way E (n :: (q1 ++ [v])) = C at *
      generalize way E (v :: (q2 ++ [i])) = D at *
      have e4 : oadd (oadd A B) (oadd C D) = oadd (oadd A D) (oadd B C) := by
        rw [oadd_assoc, oadd_comm C D, ← oadd_assoc B D C, oadd_comm B D, oadd_assoc D B C, ← oadd_assoc A D]
      rw [e4, ← e3]
      have := oadd_mono h1 h2
      rwa [oadd_one] at this
    · have h1 := H i (p ++ n :: q) hi (List.nodup_append.2 ⟨hpa.1, List.nodup_cons.2 ⟨hnq, hqa.1⟩, fun a ha b hb e => by
          subst e
          rcases List.mem_cons.1 hb with rfl | hb
          · exact hnp ha
          · exact hd ⟨a, ha, hb⟩⟩) (fun h => by
          rcases List.mem_append.1 h with h | h
          · exact hip h
          · rcases List.mem_cons.1 h with h | h
            · exact hin h
            · exact hiq h) (fun a ha => by
          rcases List.mem_append.1 ha with h | h
          · have := hpn a h; omega
          · rcases List.mem_cons.1 h with rfl | h
            · exact hn
            · have := hqn a h; omega)
      have e := way_split E (i :: p) n (q ++ [i])
      have e' : way E (i :: ((p ++ n :: q) ++ [i])) = oadd (way E (i :: (p ++ [n]))) (way E (n :: (q ++ [i]))) := by simpa using e
      rwa [e'] at h1
theorem there_back {N n : Nat} {E M : Mx} (inv : Inv N n E M) (hn : n < N) (H : ∀ i mid, i < N → mid.Nodup → i ∉ mid → (∀ a, a ∈ mid → a < N) → ole (some 1) (way E (i :: (mid ++ [i])))) (i : Nat) (hi : i < N) : ole (some 1) (oadd (M i n) (M n i)) := by
  by_cases hin : i = n
  · subst hin; rw [inv.diag i hi, oadd_one]; exact ole_refl _
  cases h1 : M i n with
  | none => trivial
  | some u =>
    cases h2 : M n i with
    | none => trivial
    | some v =>
      obtain ⟨p, p1, p2, p3⟩ := inv.wit i n hi hn hin u h1
      obtain ⟨q, q1, q2, q3⟩ := inv.wit n i hn hi (fun e => hin e.symm) v h2
      have := cyc_ok inv hn H (p.length + q.length) p q i (Nat.le_refl _) p1 q1 p2 q2 hi
      rwa [p3, q3] at this
end Dbm
end Go.Proofs.YtodpgcdandechaaGreat

/-
  The document's own closing is the closing of XPlainDbm: both ways.
-/
namespace Go.Proofs.YtodpgcdandechaaGreat
set_option linter.unusedVariables false
set_option linter.unusedSimpArgs false
namespace Dbm
section
variable {N : Nat} {L : List Int}
theorem pth_full (h0 : chk N L = 0) {i j : Nat} (hi : i < N) (hj : j < N) : POk N L i j (full N i) N (pth N L N i j (full N i)) := by
  obtain ⟨c1, c2, c3, c4⟩ := chk_iff.1 h0
  obtain ⟨f1, f2, _, _⟩ := full_ok (N := N) (i := i) (by omega) hi
  exact pth_ok h0 N i j (full N i) hi hj f1 f2
theorem low_full (h0 : chk N L = 0) {i j : Nat} (hi : i < N) (hj : j < N) {mid : List Nat} (hn : mid.Nodup) (him : i ∉ mid) (hjm : j ∉ mid) (hm : ∀ a, a ∈ mid → a < N) : ole (ob (pth N L N i j (full N i))) (way (mx N L) (i :: (mid ++ [j]))) := by
  obtain ⟨c1, c2, c3, c4⟩ := chk_iff.1 h0
  obtain ⟨_, _, _, f4⟩ := full_ok (N := N) (i := i) (by omega) hi
  exact (pth_full h0 hi hj).low mid hn him hjm (fun a ha => ⟨hm a ha, f4 a (hm a ha) (fun e => him (e ▸ ha))⟩) (nodup_len N mid hn hm)
theorem ole_one {v : Int} (h : 1 ≤ v) : ole (some 1) (ob v) := by
  unfold ob; split
  · trivial
  · exact h
theorem one_of_ole {v : Int} (h : ole (some 1) (ob v)) : 1 ≤ v := by
  unfold ob at h
  split at h
  · rename_i e; rw [e]; decide
  · exact h
theorem diag_some (hL : L.length = N * N) (hd : ∀ i, i < N → 1 ≤ L[i * N + i]?.getD 0) : ∀ n, n ≤ N → ∃ Ln, (List.range n).foldlM (diag1 N) L = some Ln := by
  intro n
  induction n with
  | zero => intro _; exact ⟨L, rfl⟩
  | succ n ih =>
    intro hn
    obtain ⟨Ln, hLn⟩ := ih (by omega)
    obtain ⟨a1, a2, a3⟩ := diag_spec hL n Ln (by omega) hLn
    refine ⟨Ln.set (n * N + n) 1, ?_⟩
    have h1 : Ln[n * N + n]?.getD 0 = L[n * N + n]?.getD 0 := by rw [a3 n n (by omega) (by omega), if_neg (by omega)]
    have h2 := hd n (by omega)
    rw [List.range_succ, List.foldlM_append, hLn]
    have h3 : diag1 N Ln n = some (Ln.set (n * N + n) 1) := by unfold diag1; rw [if_neg (by omega)]
    simp [h3]
theorem stage_some {L1 : List Int} (hN4 : N ≤ 4) (a1 : L1.length = N * N) (hd1 : ∀ i, i < N → mx N L1 i i = some 1) (hE : ∀ i j v, i < N → j < N → mx N L1 i j = some v → -288230376151711744 ≤ v / 2 ∧ v / 2 ≤ 288230376151711744)
    (H : ∀ i mid, i < N → mid.Nodup → i ∉ mid → (∀ a, a ∈ mid → a < N) → ole (some 1) (way (mx N L1) (i :: (mid ++ [i])))) : ∀ n, n ≤ N → ∃ Cn, (List.range n).foldlM (stage N) L1 = some Cn := by
  intro n
  induction n with
  | zero => intro _; exact ⟨L1, rfl⟩
  | succ n ih =>
    intro hn
    obtain ⟨Cn, hCn⟩ := ih (by omega)
    obtain ⟨b1, b2⟩ := fold_inv hN4 a1 hd1 hE n Cn (by omega) hCn
    have hq := inv_lim b2 (by omega) hN4 hE
    have hq' : ∀ q, q < N * N → lim 1152921504606846976 (Cn[q]?.getD 0) := fun q h => lim_mono (hq q h) (by omega)
    have hkk := (mx_some (b2.diag n (by omega))).1
    have hok : diagOk N (thrL N n Cn) = true := by
      unfold diagOk
      rw [List.all_eq_true]
      intro i hi
      have hi := List.mem_range.1 hi
      have ht := thrL_mx (k := n) (by omega) b1 hkk hq' hi hi
      have h1 : thr n (mx N Cn) i i = some 1 := by
        rcases thr_cases n (mx N Cn) i i with e | ⟨_, e⟩
        · rw [e]; exact b2.diag i hi
        · exfalso
          rw [b2.diag i hi] at e
          exact olt_irrefl e (there_back b2 (by omega) H i hi)
      rw [h1] at ht
      rw [(mx_some ht).1]; decide
    refine ⟨thrL N n Cn, ?_⟩
    rw [List.range_succ, List.foldlM_append, hCn]
    have h3 : stage N Cn n = some (thrL N n Cn) := by unfold stage; rw [if_pos hok]
    simp [h3]
theorem closedR_eq (h0 : chk N L = 0) : closedR N L = closeL N L := by
  obtain ⟨c1, c2, c3, c4⟩ := chk_iff.1 h0
  have hN4 : N ≤ 4 := by omega
  have hL : L.length = N * N := by exact_mod_cast c3
  cases hC : closeL N L with
  | some C =>
    obtain ⟨L1, a2, a3, inv, hl, hE⟩ := close_inv h0 hC
    have hoff : ∀ i j, i < N → j < N → i ≠ j → L1[i * N + j]?.getD 0 = L[i * N + j]?.getD 0 := fun i j hi hj h => by rw [a3 i j hi hj, if_neg h]
    have hw : ∀ i j mid, i < N → j < N → mid.Nodup → i ∉ mid → j ∉ mid → (∀ a, a ∈ mid → a < N) → (i ≠ j ∨ mid ≠ []) → way (mx N L1) (i :: (mid ++ [j])) = way (mx N L) (i :: (mid ++ [j])) := fun i j mid hi hj hn him hjm hm h =>
      dis_way hoff _ (dis_simple mid i j hn him hjm h) (fun a ha => by
        simp only [List.mem_cons, List.mem_append, List.not_mem_nil, or_false] at ha
        rcases ha with rfl | ha | rfl
        · exact hi
        · exact hm a ha
        · exact hj)
    have hne : ∀ i j, i < N → j < N → i ≠ j → mx N C i j = ob (pth N L N i j (full N i)) := fun i j hi hj hij => by
      have hp := pth_full h0 hi hj
      refine ole_antisymm ?_ ?_
      · cases hv : ob (pth N L N i j (full N i)) with
        | none => cases mx N C i j <;> trivial
        | some u =>
          obtain ⟨mid, m1, m2, m3, m4, m5⟩ := hp.wit u hv
          rw [← m5, ← hw i j mid hi hj m1 m2 m3 (fun a ha => (m4 a ha).1) (.inl hij)]
          exact inv.le_way (Nat.le_refl _) mid i j hi hj (fun a ha => (m4 a ha).1)
      · cases hv : mx N C i j with
        | none => cases ob (pth N L N i j (full N i)) <;> trivial
        | some u =>
          obtain ⟨mid, m1, m2, m3⟩ := inv.wit i j hi hj hij u hv
          have n1 := List.nodup_cons.1 m1
          have n2 := List.nodup_append.1 n1.2
          have him : i ∉ mid := fun h => n1.1 (List.mem_append.2 (.inl h))
          have hjm : j ∉ mid := fun h => n2.2.2 j h j (by simp) rfl
          rw [← m3, hw i j mid hi hj n2.1 him hjm m2 (.inl hij)]
          exact low_full h0 hi hj n2.1 him hjm m2
    have hdg : ∀ i, i < N → 1 ≤ pth N L N i i (full N i) := fun i hi => by
      have hp := pth_full h0 hi hi
      apply one_of_ole
      cases hv : ob (pth N L N i i (full N i)) with
      | none => trivial
      | some u =>
        obtain ⟨mid, m1, m2, m3, m4, m5⟩ := hp.wit u hv
        cases mid with
        | nil =>
          rw [List.nil_append, way_two] at m5
          have := a2 i hi
          rw [(mx_some m5).1] at this
          exact this
        | cons k mid =>
          rw [← m5, ← hw i i (k :: mid) hi hi m1 m2 m3 (fun a ha => (m4 a ha).1) (.inr (by simp))]
          have := inv.le_way (Nat.le_refl _) (k :: mid) i i hi hi (fun a ha => (m4 a ha).1)
          rwa [inv.diag i hi] at this
    unfold closedR
    rw [if_pos (by rw [List.all_eq_true]; intro i hi; simpa using hdg i (List.mem_range.1 hi))]
    congr 1
    apply List.ext_getElem
    · simp [hl]
    · intro q hq1 hq2
      have hq : q < N * N := by rw [← hl]; exact hq2
      have hdi := div_lt hq
      have hmo := mod_lt hq
      simp only [List.getElem_map, List.getElem_range]
      have hCq : C[q]?.getD 0 = C[q] := by rw [List.getElem?_eq_getElem hq2]; rfl
      by_cases e : q / N = q % N
      · rw [if_pos e]
        have := (mx_some (inv.diag (q / N) hdi)).1
        rw [show q / N * N + q / N = q by have := div_mod (N := N) (p := q); omega, hCq] at this
        exact this.symm
      · rw [if_neg e]
        have := hne (q / N) (q % N) hdi hmo e
        unfold mx at this
        rw [div_mod, hCq] at this
        exact (ob_inj this).symm
  | none =>
    unfold closedR
    rw [if_neg]
    intro hall
    rw [List.all_eq_true] at hall
    have hdg : ∀ i, i < N → 1 ≤ pth N L N i i (full N i) := fun i hi => by simpa using hall i (List.mem_range.2 hi)
    have H0 : ∀ i mid, i < N → mid.Nodup → i ∉ mid → (∀ a, a ∈ mid → a < N) → ole (some 1) (way (mx N L) (i :: (mid ++ [i]))) := fun i mid hi hn him hm =>
      ole_trans (ole_one (hdg i hi)) (low_full h0 hi hi hn him him hm)
    have hd : ∀ i, i < N → 1 ≤ L[i * N + i]?.getD 0 := fun i hi => by
      have := H0 i [] hi (by simp) (by simp) (by simp)
      rw [List.nil_append, way_two] at this
      exact one_of_ole this
    obtain ⟨L1, hL1⟩ := diag_some hL hd N (Nat.le_refl _)
    obtain ⟨a1, a2, a3⟩ := diag_spec hL N L1 (Nat.le_refl _) hL1
    have a3' : ∀ i j, i < N → j < N → L1[i * N + j]?.getD 0 = if i = j then 1 else L[i * N + j]?.getD 0 := fun i j hi hj => by
      rw [a3 i j hi hj]
      by_cases e : i = j
      · rw [if_pos ⟨e, hi⟩, if_pos e]
      · rw [if_neg (fun h => e h.1), if_neg e]
    have hd1 : ∀ i, i < N → mx N L1 i i = some 1 := fun i hi => by unfold mx; rw [a3' i i hi hi, if_pos rfl]; rfl
    have hE : ∀ i j v, i < N → j < N → mx N L1 i j = some v → -288230376151711744 ≤ v / 2 ∧ v / 2 ≤ 288230376151711744 := fun i j v hi hj hv => by
      obtain ⟨e1, e2⟩ := mx_some hv
      rw [a3' i j hi hj] at e1
      split at e1
      · subst e1; decide
      · have := chk_lim h0 (i * N + j) (by rw [hL]; exact place_lt hi hj)
        rw [e1] at this
        exact this.resolve_left e2
    have hoff : ∀ i j, i < N → j < N → i ≠ j → L1[i * N + j]?.getD 0 = L[i * N + j]?.getD 0 := fun i j hi hj h => by rw [a3' i j hi hj, if_neg h]
    have H1 : ∀ i mid, i < N → mid.Nodup → i ∉ mid → (∀ a, a ∈ mid → a < N) → ole (some 1) (way (mx N L1) (i :: (mid ++ [i]))) := fun i mid hi hn him hm => by
      cases mid with
      | nil => rw [List.nil_append, way_two, hd1 i hi]; exact ole_refl _
      | cons k mid =>
        rw [dis_way hoff _ (dis_simple (k :: mid) i i hn him him (.inr (by simp))) (fun a ha => by
          simp only [List.mem_cons, List.mem_append, List.not_mem_nil, or_false] at ha
          rcases ha with rfl | (rfl | ha) | rfl
          · exact hi
          · exact hm a (by simp)
          · exact hm a (by simp [ha])
          · exact hi)]
        exact H0 i (k :: mid) hi hn him hm
    obtain ⟨Cn, hCn⟩ := stage_some hN4 a1 hd1 hE H1 N (Nat.le_refl _)
    unfold closeL at hC
    rw [hL1, Option.bind_some, hCn] at hC
    cases hC
end
end Dbm
end Go.Proofs.YtodpgcdandechaaGreat

/-
  The contract of rallentandoref01.May at every number.
-/
namespace Go.Proofs.YtodpgcdandechaaGreat
set_option linter.unusedVariables false
open Go.RowKit

theorem may_any (a : Int) (w : World) :
    Calls Tryz.prog 260 #[.int .i64 a] w fun e w' => e = .returned (.bool (Num.okB a)) ∧ w = w' := by
  by_cases h1 : -2305843009213693952 ≤ a
  · by_cases h2 : a ≤ 2305843009213693952
    · have hr := Lib.hid (Num.okB_iff.2 ⟨h1, h2⟩)
      go_enter Tryz.func260, Tryz.ntmps260
      go_wp2
      go_ret
      exact ⟨by rw [hr.out]; rfl, rfl⟩
    · have hr := Lib.hid (Num.okB_no.2 (.inr (Int.not_le.1 h2)))
      go_enter Tryz.func260, Tryz.ntmps260
      go_wp2
      go_ret
      exact ⟨by rw [hr.out]; rfl, rfl⟩
  · have hr := Lib.hid (Num.okB_no.2 (.inl (Int.not_le.1 h1)))
    go_enter Tryz.func260, Tryz.ntmps260
    go_wp2
    go_ret
    exact ⟨by rw [hr.out]; rfl, rfl⟩

end Go.Proofs.YtodpgcdandechaaGreat

/-
  The contracts of the reference of chapter 2 (rallentandoref02), at every bound that is an int64, and every number.
-/
namespace Go.Proofs.YtodpgcdandechaaGreat
set_option linter.unusedVariables false
open Go.RowKit

theorem tmod2_even {b : Int} (h : b % 2 = 0) : b.tmod 2 = 0 := Int.tmod_eq_zero_of_dvd (Int.dvd_of_emod_eq_zero h)
theorem tmod2_odd {b : Int} (h : ¬ b % 2 = 0) : (b.tmod 2 == 0) = false := by
  simp only [beq_eq_false_iff_ne, ne_eq]
  intro e
  exact h (Int.emod_eq_zero_of_dvd (Int.dvd_of_tmod_eq_zero e))
theorem tdiv2_even {b : Int} (h : b % 2 = 0) : b.tdiv 2 = b / 2 := by
  obtain ⟨k, rfl⟩ := Int.dvd_of_emod_eq_zero h
  rw [Int.mul_tdiv_cancel_left _ (by decide), Int.mul_ediv_cancel_left _ (by decide)]

theorem rnumber_any (b : Int) (hlo : -9223372036854775808 ≤ b) (hhi : b ≤ 9223372036854775807) (w : World) :
    Calls Tryz.prog 203 #[.int .i64 b] w fun e w' => e = .returned (.int .i64 (b / 2)) ∧ w = w' := by
  by_cases h : b % 2 = 0
  · have h1 := tmod2_even h
    have h2 := Lib.hid (tdiv2_even h)
    clear h
    go_enter Tryz.func203, Tryz.ntmps203
    go_wp2
    go_ret
    exact ⟨ret_int h2.out, rfl⟩
  · have h1 := tmod2_odd h
    have h3 : (b.tmod 2 != 0) = true := by simp only [bne, h1]; rfl
    have h2 := Lib.hid (show (b - 1).tdiv 2 = b / 2 by rw [tdiv2_even (by omega)]; omega)
    have h4 : -9223372036854775808 ≤ b - 1 := by omega
    clear h
    go_enter Tryz.func203, Tryz.ntmps203
    go_wp2
    go_ret
    exact ⟨ret_int h2.out, rfl⟩

theorem rstrict_any (b : Int) (w : World) :
    Calls Tryz.prog 250 #[.int .i64 b] w fun e w' => e = .returned (.bool (Bd.st b)) ∧ w = w' := by
  by_cases h : b % 2 = 0
  · have h1 := tmod2_even h
    have hr := Lib.hid (show Bd.st b = true by simp [Bd.st, h])
    clear h
    go_enter Tryz.func250, Tryz.ntmps250
    go_wp2
    go_ret
    exact ⟨by rw [hr.out]; rfl, rfl⟩
  · have h1 := tmod2_odd h
    have hr := Lib.hid (show Bd.st b = false by simp [Bd.st, h])
    clear h
    go_enter Tryz.func250, Tryz.ntmps250
    go_wp2
    go_ret
    exact ⟨by rw [hr.out]; rfl, rfl⟩

theorem rmade_any (c : Int) (s : Bool) (h1 : -4611686018427387904 ≤ c) (h2 : c ≤ 4611686018427387903) (w : World) :
    Calls Tryz.prog 182 #[.int .i64 c, .bool s] w fun e w' => e = .returned (.int .i64 (Bd.mk c s)) ∧ w = w' := by
  cases s
  all_goals
    go_enter Tryz.func182, Tryz.ntmps182
    go_wp2
    go_ret
    exact ⟨ret_int (by simp [Bd.mk]; omega), rfl⟩

/-- Sum: the sum, and whether it may be, of two bounds that may be. -/
def Bd.sum (a b : Int) : Int × Bool :=
  if a = 9223372036854775807 ∨ b = 9223372036854775807 then (9223372036854775807, true) else if Num.okB (a / 2 + b / 2) then (Bd.mk (a / 2 + b / 2) (Bd.st a || Bd.st b), true) else (0, false)

theorem rbsum_any (a b : Int) (ha : Bd.may a = true) (hb : Bd.may b = true) (alo : -9223372036854775808 ≤ a) (ahi : a ≤ 9223372036854775807) (blo : -9223372036854775808 ≤ b) (bhi : b ≤ 9223372036854775807) (w : World) :
    Calls Tryz.prog 239 #[.int .i64 a, .int .i64 b] w fun e w' => e = .returned (.tuple #[.int .i64 (Bd.sum a b).1, .bool (Bd.sum a b).2]) ∧ w = w' := by
  by_cases na : a = 9223372036854775807
  · have hr := Lib.hid (show Bd.sum a b = (9223372036854775807, true) by simp [Bd.sum, na])
    subst na
    clear ha hb
    go_enter Tryz.func239, Tryz.ntmps239
    go_wp2
    go_ret2
    exact ⟨ibtup hr.out rfl rfl, rfl⟩
  · have na1 : (a == 9223372036854775807) = false := by simpa using na
    by_cases nb : b = 9223372036854775807
    · have hr := Lib.hid (show Bd.sum a b = (9223372036854775807, true) by simp [Bd.sum, nb])
      subst nb
      clear ha hb na
      go_enter Tryz.func239, Tryz.ntmps239
      go_wp2
      go_ret2
      exact ⟨ibtup hr.out rfl rfl, rfl⟩
    · have nb1 : (b == 9223372036854775807) = false := by simpa using nb
      obtain ⟨a1, a2⟩ := Num.okB_iff.1 (Bd.okB_of_may ha na)
      obtain ⟨b1, b2⟩ := Num.okB_iff.1 (Bd.okB_of_may hb nb)
      cases hs : Num.okB (a / 2 + b / 2) with
      | false =>
        have hr := Lib.hid (show Bd.sum a b = (0, false) by simp [Bd.sum, na, nb, hs])
        clear ha hb na nb
        go_enter Tryz.func239, Tryz.ntmps239
        go_wp2_with (first
          | (go_at_call 203; refine (rnumber_any _ (by assumption) (by assumption) _).mono ?_; rintro e w' ⟨rfl, rfl⟩)
          | (go_at_call 260; refine (may_any _ _).mono ?_; rintro e w' ⟨rfl, rfl⟩))
        go_ret2
        exact ⟨ibtup hr.out rfl rfl, rfl⟩
      | true =>
        have hr := Lib.hid (show Bd.sum a b = (Bd.mk (a / 2 + b / 2) (Bd.st a || Bd.st b), true) by simp [Bd.sum, na, nb, hs])
        obtain ⟨s1, s2⟩ := Num.okB_iff.1 hs
        clear ha hb na nb
        cases hst : Bd.st a
        all_goals
          go_enter Tryz.func239, Tryz.ntmps239
          go_wp2_with (first
            | (go_at_call 203; refine (rnumber_any _ (by assumption) (by assumption) _).mono ?_; rintro e w' ⟨rfl, rfl⟩)
            | (go_at_call 250; refine (rstrict_any _ _).mono ?_; rintro e w' ⟨rfl, rfl⟩)
            | (go_at_call 182; refine (rmade_any _ _ (by omega) (by omega) _).mono ?_; rintro e w' ⟨rfl, rfl⟩)
            | (go_at_call 260; refine (may_any _ _).mono ?_; rintro e w' ⟨rfl, rfl⟩))
          go_ret2
          exact ⟨ibtup hr.out rfl (by rw [hst]; rfl), rfl⟩

theorem Bd.add_sum {a b : Int} (ha : Bd.may a = true) (hb : Bd.may b = true) : Bd.add a b = if (Bd.sum a b).2 then ((Bd.sum a b).1, 0) else (0, 10) := by
  by_cases h : a = 9223372036854775807 ∨ b = 9223372036854775807
  · simp [Bd.add, Bd.sum, ha, hb, h]
  · cases hs : Num.okB (a / 2 + b / 2) <;> simp [Bd.add, Bd.sum, ha, hb, h, Bd.made, hs]

end Go.Proofs.YtodpgcdandechaaGreat

/-
  The document's answer of layer 4, by the engine: May, path, Closed.
-/
namespace Go.Proofs.YtodpgcdandechaaGreat
set_option linter.unusedVariables false
set_option linter.unusedSimpArgs false
set_option maxRecDepth 100000
open Go.RowKit Go.Proofs.YtodpgcdandechaaGreat.Eng Enc

namespace Dbm
def int64 (b : Int) : Prop := -9223372036854775808 ≤ b ∧ b ≤ 9223372036854775807
end Dbm
theorem atB {w0 : Base} {hp : List LB} {r L : List Nat} {w w1 : World} (h : At w0 hp r L w w1) (hL : ∀ b, b ∈ L → w.heap.size ≤ b) : Below w.heap.size w w1 :=
  ⟨h.below.os.trans h.base.os.symm, h.below.tape.trans h.base.tape.symm, h.below.output.trans h.base.output.symm, h.size, fun k hk => h.step k hk fun hm => by have := hL k hm; omega⟩
theorem rmay04_any (n : Int) (L : List Int) (hn : Dbm.int64 n) (hL : ∀ b, b ∈ L → Dbm.int64 b) (a : Option Addr) (cap : Nat) (w : World) (hS : Sl w.heap.size w (.slice a L.length cap) L) :
    Calls Tryz.prog 133 #[.agg #[.int .i64 n, .slice a L.length cap]] w fun e w' => e = .returned (.bool (decide (Dbm.chk n L = 0))) ∧ Below w.heap.size w w' := by
  refine fun_eq 0 w Tryz.func133 (args := [.agg [.val (.int .i64 n), .val (.slice a L.length cap)]]) rfl rfl ?_
  obtain ⟨_, _, hfe, hcap1, hcap2, _⟩ := hS.form
  injection hfe with _ _ hfe
  subst hfe
  unfold maxLen at hcap2
  refine NewI.mk fun b1 hb1 => ?_
  have no : ¬ (1 ≤ n ∧ n ≤ 4 ∧ (L.length : Int) = n * n ∧ L.any (fun b => !(Dbm.mayC b)) = false) → decide (Dbm.chk n L = 0) = false := fun h => decide_eq_false (fun e => h (Dbm.chk_iff.1 e))
  refine Branch.mk (fun z1 => ?_) (fun z1 => ?_)
  · have h1 : n < 1 := of_decide_eq_true z1
    rw [no (by omega)]
    exact EndI.mk fun w9 h9 => rfl
  have h1 : ¬ n < 1 := of_decide_eq_false z1
  refine Branch.mk (fun z2 => ?_) (fun z2 => ?_)
  · have h2 : 4 < n := of_decide_eq_true z2
    rw [no (by omega)]
    exact EndI.mk fun w9 h9 => rfl
  have h2 : ¬ 4 < n := of_decide_eq_false z2
  have hnn : 0 ≤ n * n ∧ n * n ≤ 16 := by
    have : n = 1 ∨ n = 2 ∨ n = 3 ∨ n = 4 := by omega
    rcases this with rfl | rfl | rfl | rfl <;> decide
  refine Need.mk (by simp only [inK]; omega) ?_
  refine Branch.mk (fun z3 => ?_) (fun z3 => ?_)
  · have h3 : (L.length : Int) ≠ n * n := of_decide_eq_true z3
    rw [no (fun h => h3 h.2.2.1)]
    exact EndI.mk fun w9 h9 => rfl
  have h3 : (L.length : Int) = n * n := by have := of_decide_eq_false z3; omega
  refine LoopI.invC (α := Nat × World) (fun y => [(3, .val (.int .i64 y.1))]) (fun y => y.2) (fun y => y.1 ≤ L.length ∧ Below w.heap.size w y.2 ∧ ∀ b, b ∈ L.take y.1 → Dbm.mayC b = true) (fun y => L.length - y.1) ?_ ?_
  · intro w1 h1
    exact ⟨(0, w1), Cov.mk (by repeat' (first | exact trivial | refine And.intro rfl ?_)) rfl rfl rfl rfl rfl, rfl, Nat.zero_le _, h1.below, by simp⟩
  rintro ⟨k, V⟩ ⟨hk, hV, hall⟩
  simp only at hk hV hall
  refine Branch.mk (fun z4 => ?_) (fun z4 => ?_)
  · have hlt : k < L.length := by have := of_decide_eq_true z4; simp only at this; omega
    have hx := List.getElem?_eq_getElem (l := L) (i := k) hlt
    generalize L[k] = x at hx
    have hxi := hL x (List.mem_of_getElem? hx)
    have hSV := hS.go hV hV.size
    refine hSV.idx hx fun ad had => ?_
    refine hSV.ld1 hx had (Below.refl _ _) (by simp) ?_
    have bad : Dbm.mayC x = false → decide (Dbm.chk n L = 0) = false := fun h => no (fun h4 => by
      have := List.any_eq_false.1 h4.2.2.2 x (List.mem_of_getElem? hx)
      simp [h] at this)
    have good : Dbm.mayC x = true → ∀ b, b ∈ L.take (k + 1) → Dbm.mayC b = true := fun h b hb => by
      rw [List.take_add_one, hx] at hb
      rcases List.mem_append.1 hb with hb | hb
      · exact hall b hb
      · rw [List.mem_singleton.1 hb]; exact h
    refine Branch.mk (fun z5 => ?_) (fun z5 => ?_)
    · have hne : x ≠ 9223372036854775807 := of_decide_eq_true z5
      have hmC : Dbm.mayC x = (decide (-288230376151711744 ≤ x / 2) && decide (x / 2 ≤ 288230376151711744)) := by unfold Dbm.mayC; simp [hne]
      refine CallI.to0 (fun w => rnumber_any x hxi.1 hxi.2 w) fun w2 => ?_
      refine Branch.mk (fun z6 => ?_) (fun z6 => ?_)
      · have h6 : x / 2 < -288230376151711744 := of_decide_eq_true z6
        rw [bad (by rw [hmC]; simp; omega)]
        exact EndI.mk fun w9 h9 => rfl
      have h6 : ¬ x / 2 < -288230376151711744 := of_decide_eq_false z6
      refine CallI.to0 (fun w => rnumber_any x hxi.1 hxi.2 w) fun w3 => ?_
      refine Branch.mk (fun z7 => ?_) (fun z7 => ?_)
      · have h7 : 288230376151711744 < x / 2 := of_decide_eq_true z7
        rw [bad (by rw [hmC]; simp; omega)]
        exact EndI.mk fun w9 h9 => rfl
      have h7 : ¬ 288230376151711744 < x / 2 := of_decide_eq_false z7
      refine Need.mk (by simp only [inK]; omega) (EndI.mk fun w9 h9 => ⟨(k + 1, w9), Cov.mk (by repeat' (first | exact trivial | refine And.intro rfl ?_)) rfl rfl rfl rfl rfl, rfl, ⟨hlt, h9.below, good (by rw [hmC]; simp; omega)⟩, by simp only; omega⟩)
    · have heq : x = 9223372036854775807 := by have := of_decide_eq_false z5; simpa using this
      refine Need.mk (by simp only [inK]; omega) (EndI.mk fun w9 h9 => ⟨(k + 1, w9), Cov.mk (by repeat' (first | exact trivial | refine And.intro rfl ?_)) rfl rfl rfl rfl rfl, rfl, ⟨hlt, h9.below, good (by rw [heq]; decide)⟩, by simp only; omega⟩)
  · have hge : k = L.length := by have := of_decide_eq_false z4; simp only at this; omega
    subst hge
    rw [List.take_length] at hall
    have hc : Dbm.chk n L = 0 := Dbm.chk_iff.2 ⟨by omega, by omega, h3, by rw [List.any_eq_false]; intro b hb; simp [hall b hb]⟩
    refine EndI.mk fun w9 h9 => ?_
    rw [decide_eq_true hc]
section
variable {N : Nat} {L : List Int}
theorem lim_int64 {v : Int} (h : Dbm.lim 1152921504606846976 v) : Dbm.int64 v ∧ Bd.may v = true := by
  rcases h with h | h
  · rw [h]; exact ⟨by unfold Dbm.NO Dbm.int64; omega, by decide⟩
  · exact ⟨by unfold Dbm.int64; omega, Bd.may_of (Num.okB_iff.2 (by omega))⟩
/-- Sum is the program's sum where bounds are far enough below what may be. -/
theorem sum_add {u v : Int} (hu : Dbm.lim 1152921504606846976 u) (hv : Dbm.lim 1152921504606846976 v) : Bd.sum u v = ((Bd.add u v).1, true) := by
  have h := Bd.add_sum (lim_int64 hu).2 (lim_int64 hv).2
  have h2 : (Bd.sum u v).2 = true := by
    unfold Bd.sum
    split
    · rfl
    · rename_i hn
      have hu' := hu.resolve_left (fun e => hn (.inl e))
      have hv' := hv.resolve_left (fun e => hn (.inr e))
      rw [if_pos (Num.okB_iff.2 (by omega))]
  rw [h, if_pos h2]
  exact Prod.ext rfl h2
theorem pathStep_any (h0 : Dbm.chk N L = 0) (a : Option Addr) (cap : Nat) (i j S : Nat) (hi : i < N) (hj : j < N) (hS16 : S < 16) (p : Nat → Int) (hp : ∀ k, k < N → Dbm.skip i j S k = false → Dbm.lim 1152921504606846976 (p k)) (w : World) (hS : Sl w.heap.size w (.slice a L.length cap) L)
    (hcall : ∀ k, k < N → Dbm.skip i j S k = false → ∀ w1, Sl w1.heap.size w1 (.slice a L.length cap) L → Calls Tryz.prog 191 #[.agg #[.int .i64 N, .slice a L.length cap], .int .i64 k, .int .i64 j, .int .i64 (S - 2 ^ k : Nat)] w1 fun e w' => e = .returned (.int .i64 (p k)) ∧ Below w1.heap.size w1 w') :
    Calls Tryz.prog 191 #[.agg #[.int .i64 N, .slice a L.length cap], .int .i64 i, .int .i64 j, .int .i64 S] w fun e w' => e = .returned (.int .i64 ((List.range N).foldl (Dbm.pstep (Dbm.skip i j S) (Dbm.cand N L i p)) (L[i * N + j]?.getD 0))) ∧ Below w.heap.size w w' := by
  obtain ⟨c1, c2, c3, c4⟩ := Dbm.chk_iff.1 h0
  have hN4 : N ≤ 4 := by omega
  have hLN : L.length = N * N := by exact_mod_cast c3
  have hNN : N * N ≤ 16 := Nat.mul_le_mul hN4 hN4
  refine fun_eq 0 w Tryz.func191 (args := [.agg [.val (.int .i64 N), .val (.slice a L.length cap)], .val (.int .i64 i), .val (.int .i64 j), .val (.int .i64 S)]) rfl rfl ?_
  have hpl := fun k (hk : k < N) => Dbm.place_lt (N := N) (i := i) (j := k) hi hk
  have hget := fun k (hk : k < N) => show L[i * N + k]? = some (L[i * N + k]?.getD 0) by rw [List.getElem?_eq_getElem (by rw [hLN]; exact hpl k hk)]; rfl
  have hiN : ((i : Int) * (N : Int)) = ((i * N : Nat) : Int) := (Int.natCast_mul i N).symm
  have hiN16 : i * N < 16 := by have := hpl j hj; omega
  refine NewI.mk fun b1 hb1 => ?_
  refine Need.mk (by rw [hiN]; simp only [inK]; omega) ?_
  have hpj := hpl j hj
  refine Need.mk (by rw [hiN]; simp only [inK]; omega) ?_
  refine hS.idx (k := i * N + j) (hget j hj) fun ad had => ?_
  refine hS.ld1 (k := i * N + j) (hget j hj) had (Below.refl _ _) (by simp) ?_
  refine LoopI.invC (α := (Nat × Int) × World) (fun y => [(10, .val (.int .i64 y.1.1)), (9, .val (.int .i64 y.1.2))]) (fun y => y.2) (fun y => y.1.1 ≤ N ∧ Below w.heap.size w y.2 ∧ y.1.2 = (List.range y.1.1).foldl (Dbm.pstep (Dbm.skip i j S) (Dbm.cand N L i p)) (L[i * N + j]?.getD 0)) (fun y => N - y.1.1) ?_ ?_
  · intro w1 h1
    exact ⟨((0, L[i * N + j]?.getD 0), w1), Cov.mk (by repeat' (first | exact trivial | refine And.intro rfl ?_)) rfl rfl rfl rfl rfl, rfl, Nat.zero_le _, h1.below, rfl⟩
  rintro ⟨⟨k, best⟩, V⟩ ⟨hk, hV, hbest⟩
  simp only at hk hV hbest
  refine Branch.mk (fun z1 => ?_) (fun z1 => ?_)
  · have hlt : k < N := by have := of_decide_eq_true z1; simp only at this; omega
    have hnext : (List.range (k + 1)).foldl (Dbm.pstep (Dbm.skip i j S) (Dbm.cand N L i p)) (L[i * N + j]?.getD 0) = Dbm.pstep (Dbm.skip i j S) (Dbm.cand N L i p) best k := by
      rw [List.range_succ, List.foldl_append, ← hbest]; rfl
    have hbit : bits .and .i64 ((S : Int) / 2 ^ ((k : Int).toNat)) 1 = ((S / 2 ^ k % 2 : Nat) : Int) := by
      rw [i64_and1, Int.toNat_natCast]; norm_cast
    have hsame : Dbm.skip i j S k = true → (List.range (k + 1)).foldl (Dbm.pstep (Dbm.skip i j S) (Dbm.cand N L i p)) (L[i * N + j]?.getD 0) = best := fun h => by rw [hnext]; unfold Dbm.pstep; rw [if_pos h]
    refine Need.mk (by simp only [Int.toNat_natCast, IntKind.bits]; omega) ?_
    conv => whnf
    rw [hbit]
    refine Branch.mk (fun z2 => ?_) (fun z2 => ?_)
    · have h2 : Dbm.inS S k = false := by have := of_decide_eq_true z2; unfold Dbm.inS; simp; omega
      refine Need.mk (by simp only [inK]; omega) (EndI.mk fun w9 h9 => ⟨((k + 1, best), w9), Cov.mk (by repeat' (first | exact trivial | refine And.intro rfl ?_)) rfl rfl rfl rfl rfl, rfl, ⟨hlt, h9.below, (hsame (by simp [Dbm.skip, h2])).symm⟩, by simp only; omega⟩)
    have h2 : Dbm.inS S k = true := by have := of_decide_eq_false z2; unfold Dbm.inS; simp; omega
    refine Branch.mk (fun z3 => ?_) (fun z3 => ?_)
    · have h3 : k = i := by have := of_decide_eq_true z3; simp only at this; omega
      refine Need.mk (by simp only [inK]; omega) (EndI.mk fun w9 h9 => ⟨((k + 1, best), w9), Cov.mk (by repeat' (first | exact trivial | refine And.intro rfl ?_)) rfl rfl rfl rfl rfl, rfl, ⟨hlt, h9.below, (hsame (by simp [Dbm.skip, h3])).symm⟩, by simp only; omega⟩)
    have h3 : k ≠ i := by have := of_decide_eq_false z3; simp only at this; omega
    refine Branch.mk (fun z4 => ?_) (fun z4 => ?_)
    · have h4 : k = j := by have := of_decide_eq_true z4; simp only at this; omega
      refine Need.mk (by simp only [inK]; omega) (EndI.mk fun w9 h9 => ⟨((k + 1, best), w9), Cov.mk (by repeat' (first | exact trivial | refine And.intro rfl ?_)) rfl rfl rfl rfl rfl, rfl, ⟨hlt, h9.below, (hsame (by simp [Dbm.skip, h4])).symm⟩, by simp only; omega⟩)
    have h4 : k ≠ j := by have := of_decide_eq_false z4; simp only at this; omega
    have hsk : Dbm.skip i j S k = false := by simp [Dbm.skip, h2, h3, h4]
    have hSk : 2 ^ k ≤ S ∧ 2 ^ k ≤ 8 := by
      have key : ∀ S : Fin 16, ∀ k : Fin 4, Dbm.inS S.1 k.1 = true → 2 ^ k.1 ≤ S.1 ∧ 2 ^ k.1 ≤ 8 := by decide +kernel
      exact key ⟨S, hS16⟩ ⟨k, by omega⟩ h2
    have hpow : (2 : Int) ^ ((k : Int).toNat) = ((2 ^ k : Nat) : Int) := by rw [Int.toNat_natCast]; norm_cast
    have hc := hcall k hlt hsk
    generalize hP : 2 ^ k = P at hSk hpow hc
    have hsub : (S : Int) - 1 * (P : Int) = ((S - P : Nat) : Int) := by omega
    refine DrawI.go (.tk 0 (.tk 1 (.tk 2 (.tk 3 (.tk 4 (.tk 5 (.tk 6 (.tk 7 (.tk 8 (.tk 9 (.tk 10 (.tk 11 (.tk 12 (.tk 13 (.tk 14 (.tk 15 (.tk 16 (.ev 17 (.ev 18 (.tk 19 (.tk 20 (.tk 21 (.tk 22 (.tk 23 .done)))))))))))))))))))))))) (by kernel_rfl) fun w2 h2' => ?_
    have hpk := hpl k hlt
    have hw2 : Below w.heap.size w w2 := hV.trans (h2'.go.mono hV.size)
    have hS2 := hS.go hw2 hw2.size
    refine Need.mk (by rw [hiN]; simp only [inK]; omega) ?_
    refine Need.mk (by rw [hiN]; simp only [inK]; omega) ?_
    refine hS2.idx (k := i * N + k) (hget k hlt) fun ad2 had2 => ?_
    refine hS2.ld1 (k := i * N + k) (hget k hlt) had2 (Below.refl _ _) (by simp) ?_
    refine Need.mk (by rw [hpow]; simp only [Int.toNat_natCast, IntKind.bits, inK]; omega) ?_
    conv => whnf
    rw [hpow]
    refine Need.mk (by rw [hsub]; simp only [inK]; omega) ?_
    conv => whnf
    rw [hsub]
    apply CallI.use1
    focus (exact fun w3 h3 => hc w3 (hS.go h3.below h3.below.size))
    intro w3 v3 h3' hB3
    have hlu : Dbm.lim 1152921504606846976 (L[i * N + k]?.getD 0) := Dbm.lim_mono (Dbm.chk_lim h0 (i * N + k) (by rw [hLN]; exact hpk)) (by omega)
    have hlp := hp k hlt hsk
    have hsum := fun w => rbsum_any (L[i * N + k]?.getD 0) (p k) (lim_int64 hlu).2 (lim_int64 hlp).2 (lim_int64 hlu).1.1 (lim_int64 hlu).1.2 (lim_int64 hlp).1.1 (lim_int64 hlp).1.2 w
    rw [sum_add hlu hlp] at hsum
    refine CallI.to0 (fun w => hsum w) fun w4 => ?_
    refine Branch.yes rfl ?_
    refine Branch.mk (fun z5 => ?_) (fun z5 => ?_)
    · have h5 : Dbm.cand N L i p k < best := of_decide_eq_true z5
      refine Need.mk (by simp only [inK]; omega) (EndI.mk fun w9 h9 => ⟨((k + 1, Dbm.cand N L i p k), w9), Cov.mk (by repeat' (first | exact trivial | refine And.intro rfl ?_)) rfl rfl rfl rfl rfl, rfl, ⟨hlt, h9.below, ?_⟩, by simp only; omega⟩)
      simp only
      rw [hnext]; unfold Dbm.pstep; rw [if_neg (by simp [hsk]), if_pos h5]
    · have h5 : ¬ Dbm.cand N L i p k < best := of_decide_eq_false z5
      refine Need.mk (by simp only [inK]; omega) (EndI.mk fun w9 h9 => ⟨((k + 1, best), w9), Cov.mk (by repeat' (first | exact trivial | refine And.intro rfl ?_)) rfl rfl rfl rfl rfl, rfl, ⟨hlt, h9.below, ?_⟩, by simp only; omega⟩)
      simp only
      rw [hnext]; unfold Dbm.pstep; rw [if_neg (by simp [hsk]), if_neg h5]
  · have hge : k = N := by have := of_decide_eq_false z1; simp only at this; omega
    subst hge
    refine EndI.mk fun w9 h9 => ?_
    rw [hbest]
theorem path_any (h0 : Dbm.chk N L = 0) (a : Option Addr) (cap : Nat) : ∀ (f i j S : Nat), i < N → j < N → S < 16 → Dbm.inS S i = false → Dbm.pc S ≤ f → ∀ w, Sl w.heap.size w (.slice a L.length cap) L →
    Calls Tryz.prog 191 #[.agg #[.int .i64 N, .slice a L.length cap], .int .i64 i, .int .i64 j, .int .i64 S] w fun e w' => e = .returned (.int .i64 (Dbm.pth N L f i j S)) ∧ Below w.heap.size w w'
  | 0, i, j, S, hi, hj, hS, hiS, hf, w, hSl => by
    obtain ⟨c1, c2, c3, c4⟩ := Dbm.chk_iff.1 h0
    have hsk : ∀ k, k < N → Dbm.skip i j S k = true := fun k hk => by
      have := Dbm.inS_zero hS (by omega) (show k < 4 by omega)
      simp [Dbm.skip, this]
    have hno : ∀ k, k < N → Dbm.skip i j S k = false → False := fun k hk h => by rw [hsk k hk] at h; cases h
    have hfold : ∀ n, n ≤ N → (List.range n).foldl (Dbm.pstep (Dbm.skip i j S) (Dbm.cand N L i fun _ => 0)) (L[i * N + j]?.getD 0) = L[i * N + j]?.getD 0 := by
      intro n
      induction n with
      | zero => intro _; rfl
      | succ n ih =>
        intro hn
        rw [List.range_succ, List.foldl_append, ih (by omega)]
        show Dbm.pstep _ _ _ n = _
        unfold Dbm.pstep; rw [if_pos (hsk n (by omega))]
    have h := pathStep_any h0 a cap i j S hi hj hS (fun _ => 0) (fun k hk h => (hno k hk h).elim) w hSl (fun k hk h => (hno k hk h).elim)
    rw [hfold N (Nat.le_refl _)] at h
    exact h
  | f + 1, i, j, S, hi, hj, hS, hiS, hf, w, hSl => by
    obtain ⟨c1, c2, c3, c4⟩ := Dbm.chk_iff.1 h0
    have hin : ∀ k, k < N → Dbm.skip i j S k = false → Dbm.inS S k = true ∧ Dbm.inS (S - 2 ^ k) k = false ∧ Dbm.pc (S - 2 ^ k) ≤ f := fun k hk h => by
      have h1 : Dbm.inS S k = true := by unfold Dbm.skip at h; simp at h; exact h.1.1
      have h2 := Dbm.inS_less (a := k) h1 hS (by omega) (by omega)
      refine ⟨h1, ?_, by omega⟩
      cases hh : Dbm.inS (S - 2 ^ k) k with
      | false => rfl
      | true => exact absurd rfl ((h2.1.1 hh).2)
    exact pathStep_any h0 a cap i j S hi hj hS (fun k => Dbm.pth N L f k j (S - 2 ^ k)) (fun k hk h => (Dbm.pth_ok h0 f k j (S - 2 ^ k) hk hj (Nat.lt_of_le_of_lt (Nat.sub_le _ _) hS) (hin k hk h).2.1).lim) w hSl
      (fun k hk h w1 hS1 => path_any h0 a cap f k j (S - 2 ^ k) hk hj (Nat.lt_of_le_of_lt (Nat.sub_le _ _) hS) (hin k hk h).2.1 (hin k hk h).2.2 w1 hS1)
end
end Go.Proofs.YtodpgcdandechaaGreat

/-
  The document's answer of layer 4, by the engine: Closed.
-/
namespace Go.Proofs.YtodpgcdandechaaGreat
set_option linter.unusedVariables false
set_option linter.unusedSimpArgs false
set_option maxRecDepth 100000
open Go.RowKit Go.Proofs.YtodpgcdandechaaGreat.Eng Enc

namespace Dbm
def ent (N : Nat) (L : List Int) (q : Nat) : Int := if q / N = q % N then 1 else pth N L N (q / N) (q % N) (full N (q / N))
def ents (N : Nat) (L : List Int) (p : Nat) : List Int := (List.range p).map (ent N L)
theorem ents_len (N : Nat) (L : List Int) (p : Nat) : (ents N L p).length = p := by simp [ents]
theorem ents_succ (N : Nat) (L : List Int) (p : Nat) : ents N L (p + 1) = ents N L p ++ [ent N L p] := by simp [ents, List.range_succ]
/-- what the document's closing answers: clocks, bounds, whether there is one. -/
def rc (N : Nat) (L : List Int) : Int × List Int × Bool := match closeL N L with | some C => (N, C, true) | none => (0, [], false)
theorem rc_no {N : Nat} {L : List Int} (h0 : chk N L = 0) {i : Nat} (hi : i < N) (h : pth N L N i i (full N i) < 1) : rc N L = (0, [], false) := by
  have : closedR N L = none := by
    unfold closedR
    rw [if_neg]
    intro hall
    have := (List.all_eq_true.1 hall) i (List.mem_range.2 hi)
    simp at this; omega
  unfold rc; rw [← closedR_eq h0, this]
theorem rc_yes {N : Nat} {L : List Int} (h0 : chk N L = 0) (h : ∀ i, i < N → 1 ≤ pth N L N i i (full N i)) : rc N L = ((N : Int), ents N L (N * N), true) := by
  have : closedR N L = some (ents N L (N * N)) := by
    unfold closedR
    rw [if_pos (by rw [List.all_eq_true]; intro i hi; simpa using h i (List.mem_range.1 hi))]
    rfl
  unfold rc; rw [← closedR_eq h0, this]
theorem full_bits {N i : Nat} (hN : N ≤ 4) (hi : i < N) : bits .andNot .i64 (1 * 2 ^ ((N : Int).toNat) - 1) (1 * 2 ^ ((i : Int).toNat)) = ((full N i : Nat) : Int) ∧ full N i ≤ 15 := by
  have key : ∀ N : Fin 5, ∀ i : Fin 4, i.1 < N.1 → bits .andNot .i64 (1 * 2 ^ (((N.1 : Nat) : Int).toNat) - 1) (1 * 2 ^ (((i.1 : Nat) : Int).toNat)) = ((full N.1 i.1 : Nat) : Int) ∧ full N.1 i.1 ≤ 15 := by decide +kernel
  exact key ⟨N, by omega⟩ ⟨i, by omega⟩ hi
theorem shl_one {N : Nat} (hN : N ≤ 4) : (1 : Int) * 2 ^ ((N : Int).toNat) ≤ 16 ∧ 1 ≤ (1 : Int) * 2 ^ ((N : Int).toNat) := by
  have key : ∀ N : Fin 5, (1 : Int) * 2 ^ (((N.1 : Nat) : Int).toNat) ≤ 16 ∧ 1 ≤ (1 : Int) * 2 ^ (((N.1 : Nat) : Int).toNat) := by decide +kernel
  exact key ⟨N, by omega⟩
end Dbm
section
variable {N : Nat} {L : List Int}
theorem rclosed_any (h0 : Dbm.chk N L = 0) (a : Option Addr) (cap : Nat) (w : World) (hS : Sl w.heap.size w (.slice a L.length cap) L) :
    Calls Tryz.prog 122 #[.agg #[.int .i64 N, .slice a L.length cap]] w (Ret w fun v w' => ∃ a' c', v = .tuple #[.agg #[.int .i64 (Dbm.rc N L).1, .slice a' (Dbm.rc N L).2.1.length c'], .bool (Dbm.rc N L).2.2] ∧ Own 37 w.heap.size w' (.slice a' (Dbm.rc N L).2.1.length c') (Dbm.rc N L).2.1) := by
  obtain ⟨c1, c2, c3, c4⟩ := Dbm.chk_iff.1 h0
  have hN4 : N ≤ 4 := by omega
  have hLN : L.length = N * N := by exact_mod_cast c3
  have hNN : N * N ≤ 16 := Nat.mul_le_mul hN4 hN4
  refine fun_ret 0 w Tryz.func122 (args := [.agg [.val (.int .i64 N), .val (.slice a L.length cap)]]) rfl rfl ?_
  refine NewI.mk fun b1 hb1 => ?_
  refine NewI.mk fun b2 hb2 => ?_
  refine NewI.mk fun b3 hb3 => ?_
  obtain ⟨X, hX1, hX2, hX3, hXw, hXm⟩ : ∃ X, b1 < X ∧ b2 < X ∧ b3 < X ∧ w.heap.size ≤ X ∧ ∀ n, b1 < n → b2 < n → b3 < n → w.heap.size ≤ n → X ≤ n := ⟨max (max (max b1 b2) b3 + 1) w.heap.size, by omega, by omega, by omega, by omega, fun n h1 h2 h3 h4 => by omega⟩
  refine LoopI.inv (α := Nat × World × Value) (fun y => [(5, .val (.int .i64 y.1))]) (fun y => [⟨[.val (.int .i64 N), .val (.slice a L.length cap)], 101⟩, ⟨[.val (.int .i64 0), .val (.slice none 0 0)], 101⟩, ⟨[.val (.int .i64 N), .val y.2.2], 101⟩]) (fun y => y.2.1)
    (fun y => y.1 ≤ N ∧ Below w.heap.size w y.2.1 ∧ X ≤ y.2.1.heap.size ∧ Own 37 X y.2.1 y.2.2 (Dbm.ents N L (y.1 * N)) ∧ ∀ i, i < y.1 → 1 ≤ Dbm.pth N L N i i (Dbm.full N i)) (fun y => N - y.1) ?_ ?_
  · intro w1 h1
    exact ⟨(0, w1, .slice none 0 0), Cov.mk (by repeat' (first | exact trivial | refine And.intro rfl ?_)) rfl rfl rfl rfl rfl, rfl, Nat.zero_le _, h1.below, hXm _ (h1.lt b1 (by simp)) (h1.lt b2 (by simp)) (h1.lt b3 (by simp)) h1.below.size, by simp only [Nat.zero_mul]; exact Own.nil, fun i hi => by simp at hi⟩
  rintro ⟨i, V, sv⟩ ⟨hi, hV, hXV, hO, hd⟩
  simp only at hi hV hXV hO hd
  refine Branch.mk (fun z1 => ?_) (fun z1 => ?_)
  · have hiN : i < N := by have := of_decide_eq_true z1; simp only at this; omega
    refine LoopI.inv (α := Nat × World × Value) (fun y => [(6, .val (.int .i64 y.1))]) (fun y => [⟨[.val (.int .i64 N), .val (.slice a L.length cap)], 101⟩, ⟨[.val (.int .i64 0), .val (.slice none 0 0)], 101⟩, ⟨[.val (.int .i64 N), .val y.2.2], 101⟩]) (fun y => y.2.1)
      (fun y => y.1 ≤ N ∧ Below w.heap.size w y.2.1 ∧ X ≤ y.2.1.heap.size ∧ Own 37 X y.2.1 y.2.2 (Dbm.ents N L (i * N + y.1)) ∧ (i < y.1 → 1 ≤ Dbm.pth N L N i i (Dbm.full N i))) (fun y => N - y.1) ?_ ?_
    · intro w1 h1
      exact ⟨(0, w1, sv), Cov.mk (by repeat' (first | exact trivial | refine And.intro rfl ?_)) rfl rfl rfl rfl rfl, rfl, Nat.zero_le _, h1.below, Nat.le_trans hXV h1.size, hO.at h1 (by simp), fun h => by simp at h⟩
    rintro ⟨j, U, tv⟩ ⟨hj, hU, hXU, hO2, hd2⟩
    simp only at hj hU hXU hO2 hd2
    refine Branch.mk (fun z2 => ?_) (fun z2 => ?_)
    · have hjN : j < N := by have := of_decide_eq_true z2; simp only at this; omega
      obtain ⟨fb, fb15⟩ := Dbm.full_bits hN4 hiN
      obtain ⟨f1, f2, f3, _⟩ := Dbm.full_ok (N := N) (i := i) hN4 hiN
      have sN := Dbm.shl_one hN4
      have si := Dbm.shl_one (N := i) (by omega)
      refine DrawI.go (.tk 0 (.tk 1 (.tk 2 (.tk 3 (.tk 4 (.tk 5 (.tk 6 (.tk 7 .done)))))))) (by kernel_rfl) fun w2 h2 => ?_
      refine Need.mk ⟨by omega, by simp only [Int.toNat_natCast, IntKind.bits]; omega, by simp only [inK]; omega⟩ ?_
      refine Need.mk (by simp only [inK]; omega) ?_
      refine Need.mk ⟨by simp only; omega, by simp only [Int.toNat_natCast, IntKind.bits]; omega, by simp only [inK]; omega⟩ ?_
      conv => whnf
      rw [fb]
      apply CallI.use1
      focus (exact fun w3 h3 => path_any h0 a cap N i j (Dbm.full N i) hiN hjN f1 f2 f3 w3 (hS.go h3.below h3.below.size))
      intro w3 v3 h3 hB3
      have hv3 : Below w.heap.size w v3 := h3.below.trans (hB3.mono h3.below.size)
      have hO3 := (hO2.below ((atB h2 (by simp)))).below (atB h3 (by simp)) |>.below hB3
      have hXv3 : X ≤ v3.heap.size := Nat.le_trans hXU (Nat.le_trans h2.size (Nat.le_trans h3.size hB3.size))
      have hq1 : (i * N + j) / N = i := Dbm.place_div hjN
      have hq2 : (i * N + j) % N = j := Dbm.place_mod hjN
      have hpl : i * N + j < N * N := Dbm.place_lt hiN hjN
      have hb1 : b1 < v3.heap.size := by omega
      refine Branch.mk (fun z3 => ?_) (fun z3 => ?_)
      · have hij : i = j := by have := of_decide_eq_true z3; simp only at this; omega
        refine Branch.mk (fun z4 => ?_) (fun z4 => ?_)
        · have hlt1 := of_decide_eq_true z4
          rw [Dbm.rc_no h0 hiN (by rw [← hij] at hlt1; exact hlt1)]
          exact EndI.mk fun w9 h9 => ⟨_, _, rfl, Own.nil⟩
        have hge1 : 1 ≤ Dbm.pth N L N i i (Dbm.full N i) := by have := of_decide_eq_false z4; rw [← hij] at this; omega
        have hent : Dbm.ent N L (i * N + j) = 1 := by unfold Dbm.ent; rw [hq1, hq2, if_pos hij]
        have hes : Dbm.ents N L (i * N + (j + 1)) = Dbm.ents N L (i * N + j) ++ [1] := by rw [← Nat.add_assoc, Dbm.ents_succ, hent]
        refine NewI.mk fun b5 hb5 => ?_
        have hb5' : v3.heap.size ≤ b5 := hb5
        have hr : ∀ g, tv.ownBlock = some g → w.heap.size ≤ g ∧ g ∉ [b1, b2, b3, b5] := fun g hg => by
          have := hO3.lt g hg
          refine ⟨Nat.le_trans hXw this.1, fun hm => ?_⟩
          simp only [List.mem_cons, List.not_mem_nil, or_false] at hm
          omega
        refine GenN.app (α := Int) elB (Dbm.ents N L (i * N + j)) [(1 : Int)] X (fun w5 h5 => hO3.below h5.go) (fun w5 h5 => src_own h5 3 rfl rfl rfl rfl) (by rw [Dbm.ents_len]; unfold maxLen; simp; omega) (by rw [Dbm.ents_len]; simp; omega) (fun w5 h5 => Nat.le_trans hXv3 h5.size)
          (fun w5 w6 h5 hg => keep_grown h5 hg hr) fun sv' w5 w6 h5 hg hO' => ?_
        obtain ⟨a', c', rfl⟩ := hO'.form
        rw [← hes] at hO' ⊢
        have hX6 : X ≤ w6.heap.size := Nat.le_trans hXv3 (Nat.le_trans h5.size hg.size)
        refine Need.mk (by simp only [inK]; omega) (EndI.mk fun w7 h7 => ⟨(j + 1, w7, .slice a' (Dbm.ents N L (i * N + (j + 1))).length c'), Cov.mk (by repeat' (first | exact trivial | refine And.intro rfl ?_)) rfl rfl rfl rfl rfl, rfl, ⟨hjN, h7.below, Nat.le_trans hX6 h7.size, ?_, fun h => hge1⟩, by simp only; omega⟩)
        exact hO'.at h7 (by intro b hb; simp at hb; subst hb; exact hX3)
      · have hij : i ≠ j := by have := of_decide_eq_false z3; simp only at this; omega
        have hent : Dbm.ent N L (i * N + j) = Dbm.pth N L N i j (Dbm.full N i) := by unfold Dbm.ent; rw [hq1, hq2, if_neg hij]
        have hes : Dbm.ents N L (i * N + (j + 1)) = Dbm.ents N L (i * N + j) ++ [Dbm.pth N L N i j (Dbm.full N i)] := by rw [← Nat.add_assoc, Dbm.ents_succ, hent]
        refine NewI.mk fun b5 hb5 => ?_
        have hb5' : v3.heap.size ≤ b5 := hb5
        have hr : ∀ g, tv.ownBlock = some g → w.heap.size ≤ g ∧ g ∉ [b1, b2, b3, b5] := fun g hg => by
          have := hO3.lt g hg
          refine ⟨Nat.le_trans hXw this.1, fun hm => ?_⟩
          simp only [List.mem_cons, List.not_mem_nil, or_false] at hm
          omega
        refine GenN.app (α := Int) elB (Dbm.ents N L (i * N + j)) [Dbm.pth N L N i j (Dbm.full N i)] X (fun w5 h5 => hO3.below h5.go) (fun w5 h5 => src_own h5 3 rfl rfl rfl rfl) (by rw [Dbm.ents_len]; unfold maxLen; simp; omega) (by rw [Dbm.ents_len]; simp; omega) (fun w5 h5 => Nat.le_trans hXv3 h5.size)
          (fun w5 w6 h5 hg => keep_grown h5 hg hr) fun sv' w5 w6 h5 hg hO' => ?_
        obtain ⟨a', c', rfl⟩ := hO'.form
        rw [← hes] at hO' ⊢
        have hX6 : X ≤ w6.heap.size := Nat.le_trans hXv3 (Nat.le_trans h5.size hg.size)
        refine Need.mk (by simp only [inK]; omega) (EndI.mk fun w7 h7 => ⟨(j + 1, w7, .slice a' (Dbm.ents N L (i * N + (j + 1))).length c'), Cov.mk (by repeat' (first | exact trivial | refine And.intro rfl ?_)) rfl rfl rfl rfl rfl, rfl, ⟨hjN, h7.below, Nat.le_trans hX6 h7.size, ?_, fun h => hd2 (by simp only at h; omega)⟩, by simp only; omega⟩)
        exact hO'.at h7 (by intro b hb; simp at hb; subst hb; exact hX3)
    · have hge : j = N := by have := of_decide_eq_false z2; simp only at this; omega
      subst hge
      have hnx : i * j + j = (i + 1) * j := by rw [Nat.add_mul, Nat.one_mul]
      refine Need.mk (by simp only [inK]; omega) (EndI.mk fun w9 h9 => ⟨(i + 1, w9, tv), Cov.mk (by repeat' (first | exact trivial | refine And.intro rfl ?_)) rfl rfl rfl rfl rfl, rfl, ⟨hiN, h9.below, Nat.le_trans hXU h9.size, ?_, fun k hk => ?_⟩, by simp only; omega⟩)
      · simp only; rw [← hnx]; exact hO2.at h9 (by simp)
      · by_cases hki : k = i
        · subst hki; exact hd2 hiN
        · exact hd k (by simp only at hk; omega)
  · have hge : i = N := by have := of_decide_eq_false z1; simp only at this; omega
    subst hge
    rw [Dbm.rc_yes h0 hd]
    obtain ⟨a', c', rfl⟩ := hO.form
    refine EndI.mk fun w9 h9 => ⟨a', c', rfl, ?_⟩
    exact (hO.at h9 (by intro b hb; simp at hb; subst hb; exact hX2)).lower hXw
end
end Go.Proofs.YtodpgcdandechaaGreat

/-
  The document's answer of layer 5, by the engine: the lesser bounds of two matrices, what they have in common.
-/
namespace Go.Proofs.YtodpgcdandechaaGreat
set_option linter.unusedVariables false
set_option linter.unusedSimpArgs false
set_option maxRecDepth 100000
open Go.RowKit Go.Proofs.YtodpgcdandechaaGreat.Eng Enc

/-- a load of a row of numbers that is none of the blocks that are written. -/
theorem ld1_row {n : Nat} {W w : World} {L : List Nat} {a : Option Addr} {ad : Addr} {m cap : Nat} {l : List Int} (h : Sl n W (.slice a m cap) l) {k : Nat} {x : Int} (hk : l[k]? = some x) (had : a = some ad) (hB : Below n W w) (hL : ∀ b, b ∈ L → n ≤ b) {K : Value → Prop} (hK : K (.int .i64 x)) :
    LoadI w L (ad.add ((k : Int).toNat * 1)) K := by
  subst had
  obtain ⟨h1, h2⟩ := h.cell hk hB
  have h3 := h2 0 (.int .i64 x) rfl
  have e0 : ∀ q : Addr, q.add 0 = q := fun q => by simp [Addr.add]
  rw [e0] at h3
  refine ⟨⟨_, ⟨h3, fun e => ?_⟩, hK⟩⟩
  have hb : (ad.add ((k : Int).toNat * 1)).block = ad.block := by unfold Addr.add; split <;> rfl
  rw [hb] at e
  have := hL _ e; omega
theorem rtwin_any (n : Int) (a : Option Addr) (cap : Nat) (L : List Int) (hlen : L.length ≤ 1000000) (w : World) (hS : Sl w.heap.size w (.slice a L.length cap) L) :
    Calls Tryz.prog 257 #[.agg #[.int .i64 n, .slice a L.length cap]] w (Ret w fun v w' => ∃ a' c', v = .agg #[.int .i64 n, .slice a' L.length c'] ∧ Own TB w.heap.size w' (.slice a' L.length c') L) := by
  refine fun_ret 0 w Tryz.func257 (args := [.agg [.val (.int .i64 n), .val (.slice a L.length cap)]]) rfl rfl ?_
  refine NewI.mk fun b1 hb1 => ?_
  refine NewI.mk fun b2 hb2 => ?_
  refine DrawI.wr (.tk 0 (.tk 1 (.tk 2 (.tk 3 (.ev 4 (.tk 5 (.ev 6 .done))))))) [1] [] (by kernel_rfl) rfl (by simp) fun w1 h1 => ?_
  have hlb : ∀ b, b ∈ [b1, b2] → b < w1.heap.size := fun b hb => h1.lt b hb
  refine GenN.app (α := Int) elB [] L w1.heap.size (fun w5 h5 => Own.nil) (fun w5 h5 => (hS.go h5.below h5.below.size).src) (by unfold maxLen; simp; omega) (by simp; omega) (fun w5 h5 => h5.size) (fun w5 w6 h5 hg => kpD_grown h5 hg (fun k hk => by cases hk)) fun v1 w5 w6 h5 hg hO1 => ?_
  rw [List.nil_append] at hO1
  obtain ⟨a1, c1, rfl⟩ := hO1.form
  refine EndI.mk fun w9 h9 => ⟨a1, c1, rfl, ?_⟩
  exact (hO1.at h9 (by intro b hb; rw [List.mem_singleton.1 hb]; exact hlb b2 (by simp))).lower h1.below.size
theorem rlesser_any (n m : Int) (a b : Option Addr) (cap cb : Nat) (L M : List Int) (hpos : 0 < L.length) (hlen : L.length ≤ 1000000) (hLM : L.length ≤ M.length) (w : World) (hS : Sl w.heap.size w (.slice a L.length cap) L) (hT : Sl w.heap.size w (.slice b M.length cb) M) :
    Calls Tryz.prog 233 #[.agg #[.int .i64 n, .slice a L.length cap], .agg #[.int .i64 m, .slice b M.length cb]] w (Ret w fun v w' => ∃ a' c', v = .agg #[.int .i64 n, .slice a' (Dbm.lessr L M).length c'] ∧ Sl w'.heap.size w' (.slice a' (Dbm.lessr L M).length c') (Dbm.lessr L M)) := by
  refine fun_ret 0 w Tryz.func233 (args := [.agg [.val (.int .i64 n), .val (.slice a L.length cap)], .agg [.val (.int .i64 m), .val (.slice b M.length cb)]]) rfl rfl ?_
  refine NewI.mk fun b1 hb1 => ?_
  refine NewI.mk fun b2 hb2 => ?_
  refine NewI.mk fun b3 hb3 => ?_
  apply CallI.use
  focus (exact fun w3 h3 => rtwin_any n a cap L hlen w3 (hS.go h3.below h3.below.size))
  rintro v w3 w4 h3 hB4 ⟨a', cap', rfl, hO⟩
  have hgb : ∀ b, b ∈ [b1, b2, b3] → b < w3.heap.size := fun b hb => h3.lt b hb
  have hwb : w.heap.size ≤ w3.heap.size := h3.below.size
  refine NewI.mk fun b4 hb4 => ?_
  have hb4' : w4.heap.size ≤ b4 := hb4
  obtain ⟨g, rfl, hg, hr⟩ := hO.row hpos
  obtain ⟨_, ⟨h0, _⟩ | ⟨g', c', cur', e0, _, hgc, hlc, hm, hs, _⟩⟩ := id hO
  · cases h0
  injection e0 with e0 e1 e2
  injection e0 with e0; injection e0 with e0; subst e0; subst e2
  have hglt := hr.lt
  have hgr : ∀ b, b ∈ [b1, b2, b3, b4] → b ≠ g := fun b hb e => by
    simp only [List.mem_cons, List.not_mem_nil, or_false] at hb
    have h1 := hgb b1 (by simp)
    have h2 := hgb b2 (by simp)
    have h3 := hgb b3 (by simp)
    omega
  have hgw : w.heap.size ≤ g := Nat.le_trans hwb hg
  have hw4 : Below w.heap.size w w4 := h3.below.trans (hB4.mono hwb)
  refine LoopI.invC (α := Nat × World) (fun y => [(6, .val (.int .i64 y.1))]) (fun y => y.2) (fun y => y.1 ≤ L.length ∧ Below w.heap.size w y.2 ∧ RowAt TB y.2 g (Dbm.lessTo L M y.1)) (fun y => L.length - y.1) ?_ ?_
  · intro w5 h5
    exact ⟨(0, w5), Cov.mk (by repeat' (first | exact trivial | refine And.intro rfl ?_)) rfl rfl rfl rfl rfl, rfl, Nat.zero_le _, h5.below, by simp only [Dbm.lessTo_zero]; exact hr.at h5 (fun hm => by simp at hm; exact hgr b4 (by simp) hm.symm)⟩
  rintro ⟨k, V⟩ ⟨hk, hV, hR⟩
  simp only at hk hV hR
  have hll := Dbm.lessTo_len L M k
  refine Branch.mk (fun z1 => ?_) (fun z1 => ?_)
  · have hlt : k < L.length := by have := of_decide_eq_true z1; simp only at this; omega
    have hy := List.getElem?_eq_getElem (l := M) (i := k) (by omega)
    generalize hyv : M[k]'(by omega) = y at hy
    have hM : M[k]?.getD 0 = y := by rw [hy]; rfl
    have hTV := hT.go hV hV.size
    refine DrawI.go (.tk 0 (.tk 1 (.tk 2 (.tk 3 (.tk 4 (.tk 5 (.tk 6 (.tk 7 (.tk 8 (.tk 9 (.tk 10 .done))))))))))) (by kernel_rfl) fun w5 h5 => ?_
    have r5 := hR.at h5 (by simp)
    have hT5 := hTV.go h5.go h5.size
    refine hT5.idx hy fun ad had => ?_
    refine hT5.ld1 hy had (Below.refl _ _) (by simp) ?_
    refine IdxI.mk ⟨_, ⟨rfl, by simp only; omega, by simp only; omega⟩, ?_⟩
    have ead : (⟨g, 0, none⟩ : Addr).add ((k : Int).toNat * 1) = ⟨g, k, none⟩ := by simp [addr_addL]
    refine LoadI.mk ⟨_, ⟨by rw [show ((⟨g, 0, none⟩ : Addr).add ((((k, V).1 : Nat) : Int).toNat * 1)) = ⟨g, k, none⟩ from ead]; exact r5.cell (j := k) (by omega), by simp⟩, ?_⟩
    rw [Dbm.lessTo_get L M hlt]
    refine Branch.mk (fun z2 => ?_) (fun z2 => ?_)
    · have hlt2 : y < L[k]?.getD 0 := of_decide_eq_true z2
      refine DrawI.wr (.tk 0 (.tk 1 (.tk 2 (.tk 3 (.tk 4 (.tk 5 (.tk 6 (.tk 7 (.tk 8 (.ev 9 .done)))))))))) [] [g] (by kernel_rfl) rfl (fun b hb h => hgr b hb (by simpa using h)) fun w6 h6 => ?_
      have r6 := r5.at h6 (by simp)
      have hT6 := hT5.go h6.go h6.size
      refine hT6.idx hy fun ad2 had2 => ?_
      refine ld1_row hT hy had2 h6.below (fun b hb => by rw [List.mem_singleton.1 hb]; exact hgw) ?_
      refine IdxI.mk ⟨_, ⟨rfl, by simp only; omega, by simp only; omega⟩, ?_⟩
      refine StoreI.mk fun w7 h7 => ?_
      have r7 := r6.at h7 (by simp)
      rw [show ((⟨g, 0, none⟩ : Addr).add ((((k, V).1 : Nat) : Int).toNat * 1)) = ⟨g, k, none⟩ from ead]
      refine ⟨⟨⟨_, r7.cell (j := k) (by omega)⟩, r7.frozen _⟩, Zo.kpD_set hgw hgr (by simp [locs]), ?_⟩
      refine Need.mk (by simp only [inK]; omega) (EndI.mk fun w9 h9 => ⟨(k + 1, w9), Cov.mk (by repeat' (first | exact trivial | refine And.intro rfl ?_)) rfl rfl rfl rfl rfl, rfl, ⟨hlt, h9.below, ?_⟩, by simp only; omega⟩)
      show RowAt TB w9 g (Dbm.lessTo L M (k + 1))
      rw [Dbm.lessTo_succ L M hlt, hM, show min (L[k]?.getD 0) y = y by omega]
      exact (r7.set (by omega) _).at h9 (by simp)
    · have hge2 : ¬ y < L[k]?.getD 0 := of_decide_eq_false z2
      refine Need.mk (by simp only [inK]; omega) (EndI.mk fun w9 h9 => ⟨(k + 1, w9), Cov.mk (by repeat' (first | exact trivial | refine And.intro rfl ?_)) rfl rfl rfl rfl rfl, rfl, ⟨hlt, h9.below, ?_⟩, by simp only; omega⟩)
      show RowAt TB w9 g (Dbm.lessTo L M (k + 1))
      have e1 : Dbm.lessTo L M (k + 1) = Dbm.lessTo L M k := by
        rw [Dbm.lessTo_succ L M hlt, hM, show min (L[k]?.getD 0) y = L[k]?.getD 0 by omega]
        apply List.ext_getElem?
        intro i
        by_cases e : i = k
        · subst e
          have h1 : (Dbm.lessTo L M i)[i]? = some ((Dbm.lessTo L M i)[i]?.getD 0) := by rw [List.getElem?_eq_getElem (by omega)]; rfl
          rw [List.getElem?_set_self (by omega), h1, Dbm.lessTo_get L M hlt]
        · rw [List.getElem?_set_ne (fun h => e h.symm)]
      rw [e1]
      exact r5.at h9 (by simp)
  · have hge : k = L.length := by have := of_decide_eq_false z1; simp only at this; omega
    subst hge
    rw [Dbm.lessTo_all] at hR
    have hlr := Dbm.lessr_len L M
    refine EndI.mk fun w9 h9 => ⟨_, cap', by rw [hlr], ?_⟩
    exact Fresh.sl (e := TB) (base := w.heap.size) (.inr ⟨g, cap', rfl, by omega, hm, hgw, hR.at h9 (fun hm => hgr b3 (by simp) (List.mem_singleton.1 hm).symm)⟩)
/-- what two matrices have in common: the closing of the lesser bounds. -/
theorem rcommon_any (N : Nat) (m : Int) (a b : Option Addr) (cap cb : Nat) (L M : List Int) (h0 : Dbm.chk N (Dbm.lessr L M) = 0) (hLM : L.length ≤ M.length) (w : World) (hS : Sl w.heap.size w (.slice a L.length cap) L) (hT : Sl w.heap.size w (.slice b M.length cb) M) :
    Calls Tryz.prog 178 #[.agg #[.int .i64 N, .slice a L.length cap], .agg #[.int .i64 m, .slice b M.length cb]] w (Ret w fun v w' => ∃ a' c', v = .tuple #[.agg #[.int .i64 (Dbm.rc N (Dbm.lessr L M)).1, .slice a' (Dbm.rc N (Dbm.lessr L M)).2.1.length c'], .bool (Dbm.rc N (Dbm.lessr L M)).2.2] ∧ Own TB w.heap.size w' (.slice a' (Dbm.rc N (Dbm.lessr L M)).2.1.length c') (Dbm.rc N (Dbm.lessr L M)).2.1) := by
  obtain ⟨c1, c2, c3, c4⟩ := Dbm.chk_iff.1 h0
  have hlr := Dbm.lessr_len L M
  have hN : N = 1 ∨ N = 2 ∨ N = 3 ∨ N = 4 := by omega
  have hLpos : 0 < L.length ∧ L.length ≤ 16 := by rcases hN with rfl | rfl | rfl | rfl <;> simp at c3 <;> omega
  refine fun_ret 0 w Tryz.func178 (args := [.agg [.val (.int .i64 N), .val (.slice a L.length cap)], .agg [.val (.int .i64 m), .val (.slice b M.length cb)]]) rfl rfl ?_
  refine NewI.mk fun b1 hb1 => ?_
  refine NewI.mk fun b2 hb2 => ?_
  refine NewI.mk fun b3 hb3 => ?_
  apply CallI.use
  focus (exact fun w1 h1 => rlesser_any N m a b cap cb L M hLpos.1 (by omega) hLM w1 (hS.go h1.below h1.below.size) (hT.go h1.below h1.below.size))
  rintro v w1 v1 h1 hB1 ⟨a1, c1', rfl, hS1⟩
  apply CallI.use
  focus (exact fun w2 h2 => rclosed_any h0 a1 c1' w2 (hS1.go (atB h2 (by simp)) h2.size))
  rintro v w2 v2 h2 hB2 ⟨a2, c2', rfl, hO2⟩
  refine EndI.mk fun w9 h9 => ⟨a2, c2', rfl, ?_⟩
  exact (hO2.at h9 (fun b hb => by rw [List.mem_singleton.1 hb]; exact h2.lt b3 (by simp))).lower h2.below.size
end Go.Proofs.YtodpgcdandechaaGreat

/-
  The contract of the document's comparison of matrices (rallentandoref04.Same), by the engine.
-/
namespace Go.Proofs.YtodpgcdandechaaGreat
set_option linter.unusedVariables false
set_option linter.unusedSimpArgs false
set_option maxRecDepth 100000
open Go.RowKit Go.Proofs.YtodpgcdandechaaGreat.Eng Enc

def sameB (m n : Int) (L M : List Int) : Bool := decide (m = n) && decide (L = M)
theorem same04_any (m n : Int) (L M : List Int) (a b : Option Addr) (ca cb : Nat) (w : World) (hA : Sl w.heap.size w (.slice a L.length ca) L) (hB : Sl w.heap.size w (.slice b M.length cb) M) :
    Calls Tryz.prog 134 #[.agg #[.int .i64 m, .slice a L.length ca], .agg #[.int .i64 n, .slice b M.length cb]] w fun e w' => e = .returned (.bool (sameB m n L M)) ∧ Below w.heap.size w w' := by
  obtain ⟨_, _, ea, hca, hma, _⟩ := hA.form
  injection ea with e1 e2 e3
  subst e1; subst e3
  unfold maxLen at hma
  refine fun_eq 0 w Tryz.func134 (args := [.agg [.val (.int .i64 m), .val (.slice a L.length ca)], .agg [.val (.int .i64 n), .val (.slice b M.length cb)]]) rfl rfl ?_
  refine NewI.mk fun b1 hb1 => ?_
  refine NewI.mk fun b2 hb2 => ?_
  refine Branch.mk (fun hc => ?_) (fun hc => ?_)
  · refine EndI.mk fun w1 h1 => ?_
    have : m ≠ n := by simpa using hc
    simp [sameB, this]
  have hmn : m = n := by simpa using hc
  refine Branch.mk (fun hc => ?_) (fun hc => ?_)
  · refine EndI.mk fun w1 h1 => ?_
    have h1 : (L.length : Int) ≠ M.length := by simpa using hc
    have : L ≠ M := fun e => h1 (by rw [e])
    simp [sameB, this]
  have hlm : L.length = M.length := by have : (L.length : Int) = M.length := by simpa using hc
                                       omega
  refine LoopI.invC (α := Nat × World) (fun y => [(5, .val (.int .i64 y.1))]) (fun y => y.2) (fun y => y.1 ≤ L.length ∧ Below w.heap.size w y.2 ∧ ∀ j, j < y.1 → L[j]? = M[j]?) (fun y => L.length - y.1) ?_ ?_
  · intro w1 h1
    exact ⟨(0, w1), Cov.mk (by repeat' (first | exact trivial | refine And.intro rfl ?_)) rfl rfl rfl rfl rfl, rfl, Nat.zero_le _, h1.below, fun j hj => by omega⟩
  rintro ⟨k, W⟩ ⟨hk, hW, hall⟩
  refine Branch.mk (fun hb => ?_) (fun hb => ?_)
  · have hlt : k < L.length := by simpa using hb
    have hkm : k < M.length := by omega
    refine DrawI.go (.tk 0 (.tk 1 (.tk 2 (.tk 3 (.tk 4 (.tk 5 (.tk 6 (.tk 7 (.tk 8 (.tk 9 (.tk 10 .done))))))))))) (by kernel_rfl) fun w2 h2 => ?_
    refine hA.idx (List.getElem?_eq_getElem hlt) fun ad had => ?_
    refine hA.ld1 (List.getElem?_eq_getElem hlt) had h2.below (by simp) ?_
    refine hB.idx (List.getElem?_eq_getElem hkm) fun bd hbd => ?_
    refine hB.ld1 (List.getElem?_eq_getElem hkm) hbd h2.below (by simp) ?_
    refine Branch.mk (fun hc => ?_) (fun hc => ?_)
    · refine EndI.mk fun w3 h3 => ?_
      have h1 : L[k] ≠ M[k] := by simpa using hc
      have : L ≠ M := fun e => by subst e; exact h1 rfl
      simp [sameB, this]
    · have h1 : L[k] = M[k] := by simpa using hc
      refine Need.mk (by show _ ∧ _; omega) (EndI.mk fun w3 h3 => ⟨(k + 1, w3), Cov.mk (by repeat' (first | exact trivial | refine And.intro rfl ?_)) rfl rfl rfl rfl rfl, rfl, ⟨hlt, h3.below, fun j hj => ?_⟩, by simp only; omega⟩)
      by_cases hjk : j = k
      · subst hjk; rw [List.getElem?_eq_getElem hlt, List.getElem?_eq_getElem hkm, h1]
      · exact hall j (by omega)
  · have hge : k = L.length := by have : ¬ k < L.length := by simpa using hb
                                  omega
    refine EndI.mk fun w3 h3 => ?_
    have : L = M := by
      apply List.ext_getElem?
      intro j
      rcases Nat.lt_or_ge j L.length with h | h
      · exact hall j (by omega)
      · rw [List.getElem?_eq_none h, List.getElem?_eq_none (by omega)]
    simp [sameB, this, hmn]
end Go.Proofs.YtodpgcdandechaaGreat

/-
  The document's answer of layer 8, by the engine: Full, Short, May, Cmp.
-/
namespace Go.Proofs.YtodpgcdandechaaGreat
set_option linter.unusedVariables false
set_option linter.unusedSimpArgs false
set_option maxRecDepth 100000
open Go.RowKit Go.Proofs.YtodpgcdandechaaGreat.Eng Enc

theorem rfull_any (z : Zn) (w : World) :
    Calls Tryz.prog 123 #[.agg #[.int .i64 z.a, .int .i64 z.b, .int .i64 z.c, .int .i64 z.d, .int .i64 z.e, .int .i64 z.f]] w (Ret w fun v w' => ∃ a' c', v = .agg #[.int .i64 3, .slice a' (Zo.matL z).length c'] ∧ Sl w'.heap.size w' (.slice a' (Zo.matL z).length c') (Zo.matL z)) := by
  refine fun_ret 0 w Tryz.func123 (args := [.agg [.val (.int .i64 z.a), .val (.int .i64 z.b), .val (.int .i64 z.c), .val (.int .i64 z.d), .val (.int .i64 z.e), .val (.int .i64 z.f)]]) rfl rfl ?_
  refine NewI.mk fun b1 hb1 => ?_
  refine NewI.mk fun b2 hb2 => ?_
  refine Need.mk (by decide) ?_
  refine Need.mk (by decide) ?_
  refine Need.mk (by decide) ?_
  refine Need.mk (by decide) ?_
  refine Need.mk (by decide) ?_
  refine Need.mk (by decide) ?_
  refine NewI.mk fun b3 hb3 => ?_
  exact EndI.mk fun w9 h9 => ⟨_, _, rfl, Sl.own (l := Zo.matL z) h9 2 rfl rfl rfl (Nat.le_refl _) (by simp [maxLen, Zo.matL])⟩
theorem rshort_any (n : Int) (a : Option Addr) (cap : Nat) (L : List Int) (hL : L.length = 9) (w : World) (hS : Sl w.heap.size w (.slice a L.length cap) L) :
    Calls Tryz.prog 190 #[.agg #[.int .i64 n, .slice a L.length cap]] w fun e w' => e = .returned (.agg #[.int .i64 (Zo.ofL L).a, .int .i64 (Zo.ofL L).b, .int .i64 (Zo.ofL L).c, .int .i64 (Zo.ofL L).d, .int .i64 (Zo.ofL L).e, .int .i64 (Zo.ofL L).f]) ∧ Below w.heap.size w w' := by
  refine fun_eq 0 w Tryz.func190 (args := [.agg [.val (.int .i64 n), .val (.slice a L.length cap)]]) rfl rfl ?_
  have g : ∀ k, k < 9 → L[k]? = some (L[k]?.getD 0) := fun k hk => by rw [List.getElem?_eq_getElem (by omega)]; rfl
  refine NewI.mk fun b1 hb1 => ?_
  refine NewI.mk fun b2 hb2 => ?_
  refine DrawI.wr (.tk 0 (.tk 1 (.tk 2 (.tk 3 (.tk 4 (.tk 5 (.tk 6 (.tk 7 (.tk 8 (.tk 9 (.tk 10 (.tk 11 (.tk 12 (.tk 13 (.tk 14 (.tk 15 (.tk 16 (.tk 17 (.tk 18 (.ev 19 .done)))))))))))))))))))) [1] [] (by kernel_rfl) rfl (by simp) fun w1 h1 => ?_
  have hlb2 : b2 < w1.heap.size := h1.lt b2 (by simp)
  have hw1 : w.heap.size ≤ b2 := hb2
  have hB1 := h1.below
  refine (hS.go hB1 hB1.size).idx (k := 3) (g 3 (by omega)) fun ad3 had3 => ?_
  refine ld1_row hS (k := 3) (g 3 (by omega)) had3 hB1 (fun b hb => by simp [locs] at hb; omega) ?_
  refine (hS.go hB1 hB1.size).idx (k := 1) (g 1 (by omega)) fun ad1 had1 => ?_
  refine ld1_row hS (k := 1) (g 1 (by omega)) had1 hB1 (fun b hb => by simp [locs] at hb; omega) ?_
  refine (hS.go hB1 hB1.size).idx (k := 6) (g 6 (by omega)) fun ad6 had6 => ?_
  refine ld1_row hS (k := 6) (g 6 (by omega)) had6 hB1 (fun b hb => by simp [locs] at hb; omega) ?_
  refine (hS.go hB1 hB1.size).idx (k := 2) (g 2 (by omega)) fun ad2 had2 => ?_
  refine ld1_row hS (k := 2) (g 2 (by omega)) had2 hB1 (fun b hb => by simp [locs] at hb; omega) ?_
  refine (hS.go hB1 hB1.size).idx (k := 7) (g 7 (by omega)) fun ad7 had7 => ?_
  refine ld1_row hS (k := 7) (g 7 (by omega)) had7 hB1 (fun b hb => by simp [locs] at hb; omega) ?_
  refine (hS.go hB1 hB1.size).idx (k := 5) (g 5 (by omega)) fun ad5 had5 => ?_
  refine ld1_row hS (k := 5) (g 5 (by omega)) had5 hB1 (fun b hb => by simp [locs] at hb; omega) ?_
  exact EndI.mk fun w9 h9 => rfl
namespace Zo
def i64 (z : Zn) : Prop := ∀ b, b ∈ matL z → Dbm.int64 b
theorem close_rc {L : List Int} (h0 : Dbm.chk 3 L = 0) : (Dbm.close 3 L = (3, L, 0) ∧ Dbm.rc 3 L = (3, L, true)) ∨ Dbm.close 3 L ≠ (3, L, 0) ∧ ((Dbm.rc 3 L).2.2 = false ∨ (Dbm.rc 3 L).2.1 ≠ L) := by
  have hcl : Dbm.close 3 L = (match Dbm.closeL 3 L with | some L' => (3, L', 0) | none => (0, [], 6)) := by unfold Dbm.close; rw [if_pos h0]; rfl
  unfold Dbm.rc
  cases hC : Dbm.closeL 3 L with
  | none =>
    rw [hC] at hcl
    right
    rw [hcl]
    exact ⟨by simp, .inl rfl⟩
  | some C =>
    rw [hC] at hcl
    rw [hcl]
    by_cases e : C = L
    · subst e; left; exact ⟨rfl, rfl⟩
    · right; exact ⟨fun h => e (by simpa using h), .inr e⟩
theorem chk_rc (z : Zn) : (Dbm.chk 3 (matL z) = 0 ∧ chk z = 0 ∧ Dbm.rc 3 (matL z) = (3, matL z, true)) ∨ chk z ≠ 0 ∧ (Dbm.chk 3 (matL z) ≠ 0 ∨ Dbm.chk 3 (matL z) = 0 ∧ ((Dbm.rc 3 (matL z)).2.2 = false ∨ (Dbm.rc 3 (matL z)).2.1 ≠ matL z)) := by
  have hk : chk z = 0 ↔ Dbm.close 3 (matL z) = (3, matL z, 0) := chk_eq
  generalize matL z = L at hk ⊢
  by_cases h0 : Dbm.chk 3 L = 0
  · rcases close_rc h0 with ⟨h1, h2⟩ | ⟨h1, h2⟩
    · exact .inl ⟨h0, hk.2 h1, h2⟩
    · exact .inr ⟨fun h => h1 (hk.1 h), .inr ⟨h0, h2⟩⟩
  · right
    refine ⟨fun h => ?_, .inl h0⟩
    have := hk.1 h
    unfold Dbm.close at this
    rw [if_neg h0] at this
    simp at this
end Zo
theorem rzmay_any (z : Zn) (hz : Zo.i64 z) (w : World) :
    Calls Tryz.prog 70 #[.agg #[.int .i64 z.a, .int .i64 z.b, .int .i64 z.c, .int .i64 z.d, .int .i64 z.e, .int .i64 z.f]] w fun e w' => e = .returned (.bool (decide (Zo.chk z = 0))) ∧ Below w.heap.size w w' := by
  refine fun_eq 0 w Tryz.func70 (args := [.agg [.val (.int .i64 z.a), .val (.int .i64 z.b), .val (.int .i64 z.c), .val (.int .i64 z.d), .val (.int .i64 z.e), .val (.int .i64 z.f)]]) rfl rfl ?_
  refine NewI.mk fun b1 hb1 => ?_
  apply CallI.use
  focus (exact fun w1 h1 => rfull_any z w1)
  rintro v w1 v1 h1 hB1 ⟨a1, c1, rfl, hS1⟩
  refine NewI.mk fun b2 hb2 => ?_
  have hb2' : v1.heap.size ≤ b2 := hb2
  apply CallI.use1
  focus (exact fun w2 h2 => rmay04_any 3 (Zo.matL z) ⟨by omega, by omega⟩ hz a1 c1 w2 (hS1.go (atB h2 (by simp; omega)) h2.size))
  intro w2 v2 h2 hB2
  have hS2 := (hS1.go (atB h2 (by simp; omega)) h2.size).go hB2 hB2.size
  rcases Zo.chk_rc z with ⟨h0, hc, hr⟩ | ⟨hc, hor⟩
  · rw [h0, hc]
    have hrc := fun w h => rclosed_any (N := 3) (L := Zo.matL z) h0 a1 c1 w h
    rw [hr] at hrc
    refine Branch.no rfl ?_
    apply CallI.use
    focus (exact fun w3 h3 => hrc w3 (hS2.go (atB h3 (by simp)) h3.size))
    rintro v w3 v3 h3 hB3 ⟨a3, c3, rfl, hO3⟩
    have hS3 := (hS2.go (atB h3 (by simp)) h3.size).go hB3 hB3.size
    refine NewI.mk fun b3 hb3 => ?_
    have hb3' : v3.heap.size ≤ b3 := hb3
    refine Branch.yes rfl ?_
    apply CallI.use1
    focus (exact fun w4 h4 => same04_any 3 3 (Zo.matL z) (Zo.matL z) a3 a1 c3 c1 w4 (hO3.below (atB h4 (by simp; omega))).sl (hS3.go (atB h4 (by simp; omega)) h4.size))
    intro w4 v4 h4 hB4
    refine EndI.mk fun w9 h9 => ?_
    simp [sameB]
  · rw [decide_eq_false hc]
    rcases hor with h0 | ⟨h0, hor⟩
    · rw [decide_eq_false h0]
      refine Branch.yes rfl ?_
      exact EndI.mk fun w9 h9 => rfl
    · rw [decide_eq_true h0]
      have hrc := fun w h => rclosed_any (N := 3) (L := Zo.matL z) h0 a1 c1 w h
      generalize Dbm.rc 3 (Zo.matL z) = R at hrc hor
      obtain ⟨n3, C, is⟩ := R
      simp only at hrc hor
      refine Branch.no rfl ?_
      apply CallI.use
      focus (exact fun w3 h3 => hrc w3 (hS2.go (atB h3 (by simp)) h3.size))
      rintro v w3 v3 h3 hB3 ⟨a3, c3, rfl, hO3⟩
      have hS3 := (hS2.go (atB h3 (by simp)) h3.size).go hB3 hB3.size
      refine NewI.mk fun b3 hb3 => ?_
      have hb3' : v3.heap.size ≤ b3 := hb3
      refine Branch.mk (fun z1 => ?_) (fun z1 => ?_)
      · have hne : C ≠ Zo.matL z := hor.resolve_left (fun h => by rw [h] at z1; cases z1)
        apply CallI.use1
        focus (exact fun w4 h4 => same04_any n3 3 C (Zo.matL z) a3 a1 c3 c1 w4 (hO3.below (atB h4 (by simp; omega))).sl (hS3.go (atB h4 (by simp; omega)) h4.size))
        intro w4 v4 h4 hB4
        refine EndI.mk fun w9 h9 => ?_
        simp [sameB, hne]
      · exact EndI.mk fun w9 h9 => rfl
end Go.Proofs.YtodpgcdandechaaGreat

/-
  rallentandoref02.Other: not a bound.
-/
namespace Go.Proofs.YtodpgcdandechaaGreat
set_option linter.unusedVariables false
open Go.RowKit

theorem rother02_any (b : Int) (h1 : -4611686018427387903 ≤ b / 2) (h2 : b / 2 ≤ 4611686018427387903) (w : World) :
    Calls Tryz.prog 298 #[.int .i64 b] w fun e w' => e = .returned (.int .i64 (Bd.mk (-(b / 2)) (!(Bd.st b)))) ∧ w = w' := by
  go_enter Tryz.func298, Tryz.ntmps298
  go_wp2_with (first
    | (go_at_call 203; refine (rnumber_any _ (by omega) (by omega) _).mono ?_; rintro e w' ⟨rfl, rfl⟩)
    | (go_at_call 250; refine (rstrict_any _ _).mono ?_; rintro e w' ⟨rfl, rfl⟩)
    | (go_at_call 182; refine (rmade_any _ _ (by omega) (by omega) _).mono ?_; rintro e w' ⟨rfl, rfl⟩))
  go_ret
  exact ⟨rfl, rfl⟩

end Go.Proofs.YtodpgcdandechaaGreat

/-
  The document's answer of layer 11, by the engine: With, Less, Rest.
-/
namespace Go.Proofs.YtodpgcdandechaaGreat
set_option linter.unusedVariables false
set_option linter.unusedSimpArgs false
set_option maxRecDepth 100000
open Go.RowKit Go.Proofs.YtodpgcdandechaaGreat.Eng Enc

namespace Mi
open Dbm
def none6 : Zn := ⟨NO, NO, NO, NO, NO, NO⟩
theorem min_no {x : Int} (h : lim 288230376151711744 x) : min x NO = x := by
  rcases h with h | h
  · rw [h]; exact Int.min_self _
  · unfold NO; omega
theorem lessr_cut {z : Zn} (hz : chk 3 (Zo.matL z) = 0) {i : Nat} (hi : i < 6) (b : Int) : lessr (Zo.matL z) (Zo.matL (Zo.set none6 i b)) = Zo.matL (cut z i b) := by
  have m0 : min z.a NO = z.a := min_no (get_lim hz (show 0 < 6 by decide))
  have m1 : min z.b NO = z.b := min_no (get_lim hz (show 1 < 6 by decide))
  have m2 : min z.c NO = z.c := min_no (get_lim hz (show 2 < 6 by decide))
  have m3 : min z.d NO = z.d := min_no (get_lim hz (show 3 < 6 by decide))
  have m4 : min z.e NO = z.e := min_no (get_lim hz (show 4 < 6 by decide))
  have m5 : min z.f NO = z.f := min_no (get_lim hz (show 5 < 6 by decide))
  rcases six hi with rfl | rfl | rfl | rfl | rfl | rfl
  all_goals
    simp [lessr, Zo.matL, Zo.set, none6, cut, Zo.get, List.range, List.range.loop]
    simp [m0, m1, m2, m3, m4, m5]
theorem mayC_min {x b : Int} (hx : mayC x = true) (hb : mayC b = true) : mayC (min x b) = true := by
  rcases Int.le_total x b with h | h
  · rw [Int.min_eq_left h]; exact hx
  · rw [Int.min_eq_right h]; exact hb
theorem chk_cut {z : Zn} (hz : chk 3 (Zo.matL z) = 0) {i : Nat} (hi : i < 6) {b : Int} (hb : mayC b = true) : chk 3 (Zo.matL (cut z i b)) = 0 := by
  obtain ⟨_, _, _, c4⟩ := chk_iff.1 hz
  have hm : ∀ x, x ∈ Zo.matL z → mayC x = true := fun x hx => by have := List.any_eq_false.1 c4 x hx; simpa using this
  have o1 : mayC 1 = true := by decide
  have ha := hm z.a (by simp [Zo.matL])
  have hbb := hm z.b (by simp [Zo.matL])
  have hc := hm z.c (by simp [Zo.matL])
  have hd := hm z.d (by simp [Zo.matL])
  have he := hm z.e (by simp [Zo.matL])
  have hf := hm z.f (by simp [Zo.matL])
  refine chk_iff.2 ⟨by omega, by omega, rfl, ?_⟩
  rw [List.any_eq_false]
  rcases six hi with rfl | rfl | rfl | rfl | rfl | rfl
  all_goals
    intro x hx
    simp [Zo.matL, cut, Zo.set, Zo.get] at hx
    rcases hx with rfl | rfl | rfl | rfl | rfl | rfl | rfl | rfl | rfl <;> simp [ha, hbb, hc, hd, he, hf, o1, mayC_min, hb]
theorem clo_int64 {C : List Int} (h : Clo 3 C) : ∀ x, x ∈ C → Dbm.int64 x := fun x hx => by
  obtain ⟨q, hq, rfl⟩ := List.mem_iff_getElem.1 hx
  have := lim_q h.lim q (by rw [h.len] at hq; exact hq)
  rw [List.getElem?_eq_getElem hq] at this
  exact (lim_int64 (lim_mono this (by omega))).1
/-- With, by the document's closing. -/
theorem wth_rc {z : Zn} {i : Nat} {b : Int} (h0 : chk 3 (Zo.matL (cut z i b)) = 0) :
    ((rc 3 (Zo.matL (cut z i b))).2.2 = false ∧ wth z i b = (Zo.nought, 6)) ∨ ((rc 3 (Zo.matL (cut z i b))).2.2 = true ∧ (rc 3 (Zo.matL (cut z i b))).1 = 3 ∧ (rc 3 (Zo.matL (cut z i b))).2.1.length = 9 ∧ (∀ x, x ∈ (rc 3 (Zo.matL (cut z i b))).2.1 → Dbm.int64 x) ∧ wth z i b = if chk 3 (rc 3 (Zo.matL (cut z i b))).2.1 = 0 then (Zo.ofL (rc 3 (Zo.matL (cut z i b))).2.1, 0) else (Zo.nought, 8)) := by
  unfold wth
  rw [if_pos h0]
  generalize Zo.matL (cut z i b) = L at h0 ⊢
  have hcl : close 3 L = (match closeL 3 L with | some L' => (3, L', 0) | none => (0, [], 6)) := by unfold close; rw [if_pos h0]; rfl
  unfold Zo.of rc
  rw [if_pos h0, if_pos rfl]
  cases hC : closeL 3 L with
  | none =>
    rw [hC] at hcl; rw [hcl]
    left; exact ⟨rfl, rfl⟩
  | some C =>
    rw [hC] at hcl; rw [hcl]
    right
    have clo := close_clo (N := 3) h0 hC
    exact ⟨rfl, rfl, clo.len, clo_int64 clo, rfl⟩
end Mi
theorem rnone_any (w : World) : Calls Tryz.prog 301 #[] w fun e w' => e = .returned (.agg #[.int .i64 Mi.none6.a, .int .i64 Mi.none6.b, .int .i64 Mi.none6.c, .int .i64 Mi.none6.d, .int .i64 Mi.none6.e, .int .i64 Mi.none6.f]) ∧ Below w.heap.size w w' := by
  refine fun_eq 0 w Tryz.func301 (args := []) rfl rfl ?_
  refine NewI.mk fun b1 hb1 => ?_
  exact EndI.mk fun w9 h9 => rfl
theorem rother11_any (i : Nat) (hi : i < 6) (w : World) : Calls Tryz.prog 297 #[.int .i64 (i : Nat)] w fun e w' => e = .returned (.int .i64 (Mi.other i : Nat)) ∧ Below w.heap.size w w' := by
  rcases Mi.six hi with rfl | rfl | rfl | rfl | rfl | rfl
  all_goals (refine fun_eq 0 w Tryz.func297 (args := [.val (.int .i64 _)]) rfl rfl ?_)
  all_goals
    refine Need.mk (by simp) ?_
    first | refine Branch.yes rfl ?_ | refine Branch.no rfl ?_
    refine Need.mk (by simp [inK]) ?_
    exact EndI.mk fun w9 h9 => rfl
set_option maxHeartbeats 16000000 in
theorem rwith_any (z : Zn) (hz : Dbm.chk 3 (Zo.matL z) = 0) (i : Nat) (hi : i < 6) (b : Int) (hb : Dbm.mayC b = true) (w : World) :
    Calls Tryz.prog 296 #[.agg #[.int .i64 z.a, .int .i64 z.b, .int .i64 z.c, .int .i64 z.d, .int .i64 z.e, .int .i64 z.f], .int .i64 (i : Nat), .int .i64 b] w fun e w' => e = .returned (.tuple #[.agg #[.int .i64 (Mi.wth z i b).1.a, .int .i64 (Mi.wth z i b).1.b, .int .i64 (Mi.wth z i b).1.c, .int .i64 (Mi.wth z i b).1.d, .int .i64 (Mi.wth z i b).1.e, .int .i64 (Mi.wth z i b).1.f], .int .i64 (Mi.wth z i b).2]) ∧ Below w.heap.size w w' := by
  have hst : ∀ w1 : World, True := fun _ => trivial
  have hcut := Mi.lessr_cut hz hi b
  have hnone := fun w => rnone_any w
  generalize Mi.none6 = n6 at hcut hnone
  have h0 := Mi.chk_cut hz hi hb
  have hcom := fun (a c : Option Addr) (ca cc : Nat) (w : World) h k => rcommon_any 3 3 a c ca cc (Zo.matL z) (Zo.matL (Zo.set n6 i b)) (by rw [hcut]; exact h0) (Nat.le_refl 9) w h k
  rw [hcut] at hcom
  have hor := Mi.wth_rc h0
  generalize Dbm.rc 3 (Zo.matL (Mi.cut z i b)) = R at hcom hor
  generalize hW : Mi.wth z i b = W at hor ⊢
  obtain ⟨n3, C, is⟩ := R
  simp only at hcom hor
  rcases Mi.six hi with rfl | rfl | rfl | rfl | rfl | rfl
  · refine fun_eq 0 w Tryz.func296 (args := [.agg [.val (.int .i64 z.a), .val (.int .i64 z.b), .val (.int .i64 z.c), .val (.int .i64 z.d), .val (.int .i64 z.e), .val (.int .i64 z.f)], .val (.int .i64 0), .val (.int .i64 b)]) rfl rfl ?_
    refine NewI.mk fun b1 hb1 => ?_
    refine NewI.mk fun b2 hb2 => ?_
    refine CallI.to1 (fun w => hnone w) fun w1 => ?_
    refine NewI.mk fun b3 hb3 => ?_
    have hb3' : w1.heap.size ≤ b3 := hb3
    refine Need.mk (by decide) ?_
    refine DrawI.go (.tk 0 (.tk 2 (.two 1 (.two 3 (.two 4 (.tk 5 (.tk 6 (.tk 7 (.ev 8 (.ev 9 (.tk 10 .done)))))) 8 (.ev 4 (.tk 5 (.tk 6 (.tk 7 (.ev 9 (.tk 10 .done))))))) 8 (.ev 3 (.ev 4 (.tk 5 (.tk 6 (.tk 7 (.ev 9 (.tk 10 .done)))))))) 8 (.ev 1 (.ev 3 (.ev 4 (.tk 5 (.tk 6 (.tk 7 (.ev 9 (.tk 10 .done))))))))))) (by kernel_rfl) fun w2 h2 => ?_
    have hb3w : b3 < w2.heap.size := h2.lt b3 (by simp)
    have hb2w : b2 < w2.heap.size := h2.lt b2 (by simp)
    have st := Stay.start h2.below
    refine Both.mk ?_ ?_
    · skip
      apply CallI.use
      focus (exact fun w3 h3 => rfull_any z w3)
      rintro v w3 v3 h3 hB3 ⟨a1, c1, rfl, hS1⟩
      have st := st.next h3 (fun x hx => by simp at hx <;> omega) hB3
      refine Both.mk ?_ ?_
      · skip
        apply CallI.use
        focus (exact fun w4 h4 => rfull_any ⟨b, n6.b, n6.c, n6.d, n6.e, n6.f⟩ w4)
        rintro v w4 v4 h4 hB4 ⟨a2, c2, rfl, hS2⟩
        have st := st.next h4 (fun x hx => by simp at hx <;> omega) hB4
        refine Both.mk ?_ ?_
        · skip
          apply CallI.use
          focus (exact fun w5 h5 => hcom a1 a2 c1 c2 w5 (hS1.st (st.at h5 (fun x hx => by simp at hx <;> omega))) (hS2.st (st.at h5 (fun x hx => by simp at hx <;> omega))))
          rintro v w5 v5 h5 hB5 ⟨a3, c3, rfl, hO3⟩
          have st := st.next h5 (fun x hx => by simp at hx <;> omega) hB5
          refine NewI.mk fun b9 hb9 => ?_
          rcases hor with ⟨e1, e2⟩ | ⟨e1, e2, e3, e5, e4⟩
          · subst e1; subst e2
            refine Branch.yes rfl ?_
            exact EndI.mk fun w9 h9 => rfl
          · subst e1; subst e2
            refine Branch.no rfl ?_
            have pO : ∀ (hp : List LB) (r L : List Nat) (w6 : World), At ⟨w, w.heap.size, Nat.le_refl _⟩ hp r L v5 w6 → (∀ x, x ∈ L → x = b9) → Own TB w5.heap.size w6 (.slice a3 C.length c3) C := fun hp r L w6 h6 hL => by
              first
                | exact hO3.below (atB h6 (fun x hx => by rw [hL x hx]; exact hb9))
                | exact hO3.at h6 (fun x hx => by rw [hL x hx]; exact h5.lt b9 (by simp))
            apply CallI.use1
            focus (exact fun w6 h6 => rmay04_any 3 C ⟨by omega, by omega⟩ e5 a3 c3 w6 (pO _ _ _ w6 h6 (by simp)).sl)
            intro w6 v6 h6 hB6
            have hO6 := (pO _ _ _ w6 h6 (by simp)).below hB6
            by_cases hk : Dbm.chk 3 C = 0
            · rw [decide_eq_true hk]
              rw [if_pos hk] at e4
              subst e4
              refine Branch.no rfl ?_
              apply CallI.use1
              focus (exact fun w7 h7 => rshort_any 3 a3 c3 C e3 w7 (hO6.below (atB h7 (by simp))).sl)
              intro w7 v7 h7 hB7
              exact EndI.mk fun w9 h9 => rfl
            · rw [decide_eq_false hk]
              rw [if_neg hk] at e4
              subst e4
              refine Branch.yes rfl ?_
              exact EndI.mk fun w9 h9 => rfl
        · skip
          refine NewI.mk fun b9 hb9 => ?_
          apply CallI.use
          focus (exact fun w5 h5 => hcom a1 a2 c1 c2 w5 (hS1.st (st.at h5 (fun x hx => by simp at hx <;> omega))) (hS2.st (st.at h5 (fun x hx => by simp at hx <;> omega))))
          rintro v w5 v5 h5 hB5 ⟨a3, c3, rfl, hO3⟩
          have st := st.next h5 (fun x hx => by simp at hx <;> omega) hB5
          rcases hor with ⟨e1, e2⟩ | ⟨e1, e2, e3, e5, e4⟩
          · subst e1; subst e2
            refine Branch.yes rfl ?_
            exact EndI.mk fun w9 h9 => rfl
          · subst e1; subst e2
            refine Branch.no rfl ?_
            have pO : ∀ (hp : List LB) (r L : List Nat) (w6 : World), At ⟨w, w.heap.size, Nat.le_refl _⟩ hp r L v5 w6 → (∀ x, x ∈ L → x = b9) → Own TB w5.heap.size w6 (.slice a3 C.length c3) C := fun hp r L w6 h6 hL => by
              first
                | exact hO3.below (atB h6 (fun x hx => by rw [hL x hx]; exact hb9))
                | exact hO3.at h6 (fun x hx => by rw [hL x hx]; exact h5.lt b9 (by simp))
            apply CallI.use1
            focus (exact fun w6 h6 => rmay04_any 3 C ⟨by omega, by omega⟩ e5 a3 c3 w6 (pO _ _ _ w6 h6 (by simp)).sl)
            intro w6 v6 h6 hB6
            have hO6 := (pO _ _ _ w6 h6 (by simp)).below hB6
            by_cases hk : Dbm.chk 3 C = 0
            · rw [decide_eq_true hk]
              rw [if_pos hk] at e4
              subst e4
              refine Branch.no rfl ?_
              apply CallI.use1
              focus (exact fun w7 h7 => rshort_any 3 a3 c3 C e3 w7 (hO6.below (atB h7 (by simp))).sl)
              intro w7 v7 h7 hB7
              exact EndI.mk fun w9 h9 => rfl
            · rw [decide_eq_false hk]
              rw [if_neg hk] at e4
              subst e4
              refine Branch.yes rfl ?_
              exact EndI.mk fun w9 h9 => rfl
      · skip
        refine NewI.mk fun b9 hb9 => ?_
        apply CallI.use
        focus (exact fun w4 h4 => rfull_any ⟨b, n6.b, n6.c, n6.d, n6.e, n6.f⟩ w4)
        rintro v w4 v4 h4 hB4 ⟨a2, c2, rfl, hS2⟩
        have st := st.next h4 (fun x hx => by simp at hx <;> omega) hB4
        apply CallI.use
        focus (exact fun w5 h5 => hcom a1 a2 c1 c2 w5 (hS1.st (st.at h5 (fun x hx => by simp at hx <;> omega))) (hS2.st (st.at h5 (fun x hx => by simp at hx <;> omega))))
        rintro v w5 v5 h5 hB5 ⟨a3, c3, rfl, hO3⟩
        have st := st.next h5 (fun x hx => by simp at hx <;> omega) hB5
        rcases hor with ⟨e1, e2⟩ | ⟨e1, e2, e3, e5, e4⟩
        · subst e1; subst e2
          refine Branch.yes rfl ?_
          exact EndI.mk fun w9 h9 => rfl
        · subst e1; subst e2
          refine Branch.no rfl ?_
          have pO : ∀ (hp : List LB) (r L : List Nat) (w6 : World), At ⟨w, w.heap.size, Nat.le_refl _⟩ hp r L v5 w6 → (∀ x, x ∈ L → x = b9) → Own TB w5.heap.size w6 (.slice a3 C.length c3) C := fun hp r L w6 h6 hL => by
            first
              | exact hO3.below (atB h6 (fun x hx => by rw [hL x hx]; exact hb9))
              | exact hO3.at h6 (fun x hx => by rw [hL x hx]; exact h5.lt b9 (by simp))
          apply CallI.use1
          focus (exact fun w6 h6 => rmay04_any 3 C ⟨by omega, by omega⟩ e5 a3 c3 w6 (pO _ _ _ w6 h6 (by simp)).sl)
          intro w6 v6 h6 hB6
          have hO6 := (pO _ _ _ w6 h6 (by simp)).below hB6
          by_cases hk : Dbm.chk 3 C = 0
          · rw [decide_eq_true hk]
            rw [if_pos hk] at e4
            subst e4
            refine Branch.no rfl ?_
            apply CallI.use1
            focus (exact fun w7 h7 => rshort_any 3 a3 c3 C e3 w7 (hO6.below (atB h7 (by simp))).sl)
            intro w7 v7 h7 hB7
            exact EndI.mk fun w9 h9 => rfl
          · rw [decide_eq_false hk]
            rw [if_neg hk] at e4
            subst e4
            refine Branch.yes rfl ?_
            exact EndI.mk fun w9 h9 => rfl
    · skip
      refine NewI.mk fun b9 hb9 => ?_
      apply CallI.use
      focus (exact fun w3 h3 => rfull_any z w3)
      rintro v w3 v3 h3 hB3 ⟨a1, c1, rfl, hS1⟩
      have st := st.next h3 (fun x hx => by simp at hx <;> omega) hB3
      apply CallI.use
      focus (exact fun w4 h4 => rfull_any ⟨b, n6.b, n6.c, n6.d, n6.e, n6.f⟩ w4)
      rintro v w4 v4 h4 hB4 ⟨a2, c2, rfl, hS2⟩
      have st := st.next h4 (fun x hx => by simp at hx <;> omega) hB4
      apply CallI.use
      focus (exact fun w5 h5 => hcom a1 a2 c1 c2 w5 (hS1.st (st.at h5 (fun x hx => by simp at hx <;> omega))) (hS2.st (st.at h5 (fun x hx => by simp at hx <;> omega))))
      rintro v w5 v5 h5 hB5 ⟨a3, c3, rfl, hO3⟩
      have st := st.next h5 (fun x hx => by simp at hx <;> omega) hB5
      rcases hor with ⟨e1, e2⟩ | ⟨e1, e2, e3, e5, e4⟩
      · subst e1; subst e2
        refine Branch.yes rfl ?_
        exact EndI.mk fun w9 h9 => rfl
      · subst e1; subst e2
        refine Branch.no rfl ?_
        have pO : ∀ (hp : List LB) (r L : List Nat) (w6 : World), At ⟨w, w.heap.size, Nat.le_refl _⟩ hp r L v5 w6 → (∀ x, x ∈ L → x = b9) → Own TB w5.heap.size w6 (.slice a3 C.length c3) C := fun hp r L w6 h6 hL => by
          first
            | exact hO3.below (atB h6 (fun x hx => by rw [hL x hx]; exact hb9))
            | exact hO3.at h6 (fun x hx => by rw [hL x hx]; exact h5.lt b9 (by simp))
        apply CallI.use1
        focus (exact fun w6 h6 => rmay04_any 3 C ⟨by omega, by omega⟩ e5 a3 c3 w6 (pO _ _ _ w6 h6 (by simp)).sl)
        intro w6 v6 h6 hB6
        have hO6 := (pO _ _ _ w6 h6 (by simp)).below hB6
        by_cases hk : Dbm.chk 3 C = 0
        · rw [decide_eq_true hk]
          rw [if_pos hk] at e4
          subst e4
          refine Branch.no rfl ?_
          apply CallI.use1
          focus (exact fun w7 h7 => rshort_any 3 a3 c3 C e3 w7 (hO6.below (atB h7 (by simp))).sl)
          intro w7 v7 h7 hB7
          exact EndI.mk fun w9 h9 => rfl
        · rw [decide_eq_false hk]
          rw [if_neg hk] at e4
          subst e4
          refine Branch.yes rfl ?_
          exact EndI.mk fun w9 h9 => rfl
  · refine fun_eq 0 w Tryz.func296 (args := [.agg [.val (.int .i64 z.a), .val (.int .i64 z.b), .val (.int .i64 z.c), .val (.int .i64 z.d), .val (.int .i64 z.e), .val (.int .i64 z.f)], .val (.int .i64 1), .val (.int .i64 b)]) rfl rfl ?_
    refine NewI.mk fun b1 hb1 => ?_
    refine NewI.mk fun b2 hb2 => ?_
    refine CallI.to1 (fun w => hnone w) fun w1 => ?_
    refine NewI.mk fun b3 hb3 => ?_
    have hb3' : w1.heap.size ≤ b3 := hb3
    refine Need.mk (by decide) ?_
    refine DrawI.go (.tk 0 (.tk 2 (.two 1 (.two 3 (.two 4 (.tk 5 (.tk 6 (.tk 7 (.ev 8 (.ev 9 (.tk 10 .done)))))) 8 (.ev 4 (.tk 5 (.tk 6 (.tk 7 (.ev 9 (.tk 10 .done))))))) 8 (.ev 3 (.ev 4 (.tk 5 (.tk 6 (.tk 7 (.ev 9 (.tk 10 .done)))))))) 8 (.ev 1 (.ev 3 (.ev 4 (.tk 5 (.tk 6 (.tk 7 (.ev 9 (.tk 10 .done))))))))))) (by kernel_rfl) fun w2 h2 => ?_
    have hb3w : b3 < w2.heap.size := h2.lt b3 (by simp)
    have hb2w : b2 < w2.heap.size := h2.lt b2 (by simp)
    have st := Stay.start h2.below
    refine Both.mk ?_ ?_
    · skip
      apply CallI.use
      focus (exact fun w3 h3 => rfull_any z w3)
      rintro v w3 v3 h3 hB3 ⟨a1, c1, rfl, hS1⟩
      have st := st.next h3 (fun x hx => by simp at hx <;> omega) hB3
      refine Both.mk ?_ ?_
      · skip
        apply CallI.use
        focus (exact fun w4 h4 => rfull_any ⟨n6.a, b, n6.c, n6.d, n6.e, n6.f⟩ w4)
        rintro v w4 v4 h4 hB4 ⟨a2, c2, rfl, hS2⟩
        have st := st.next h4 (fun x hx => by simp at hx <;> omega) hB4
        refine Both.mk ?_ ?_
        · skip
          apply CallI.use
          focus (exact fun w5 h5 => hcom a1 a2 c1 c2 w5 (hS1.st (st.at h5 (fun x hx => by simp at hx <;> omega))) (hS2.st (st.at h5 (fun x hx => by simp at hx <;> omega))))
          rintro v w5 v5 h5 hB5 ⟨a3, c3, rfl, hO3⟩
          have st := st.next h5 (fun x hx => by simp at hx <;> omega) hB5
          refine NewI.mk fun b9 hb9 => ?_
          rcases hor with ⟨e1, e2⟩ | ⟨e1, e2, e3, e5, e4⟩
          · subst e1; subst e2
            refine Branch.yes rfl ?_
            exact EndI.mk fun w9 h9 => rfl
          · subst e1; subst e2
            refine Branch.no rfl ?_
            have pO : ∀ (hp : List LB) (r L : List Nat) (w6 : World), At ⟨w, w.heap.size, Nat.le_refl _⟩ hp r L v5 w6 → (∀ x, x ∈ L → x = b9) → Own TB w5.heap.size w6 (.slice a3 C.length c3) C := fun hp r L w6 h6 hL => by
              first
                | exact hO3.below (atB h6 (fun x hx => by rw [hL x hx]; exact hb9))
                | exact hO3.at h6 (fun x hx => by rw [hL x hx]; exact h5.lt b9 (by simp))
            apply CallI.use1
            focus (exact fun w6 h6 => rmay04_any 3 C ⟨by omega, by omega⟩ e5 a3 c3 w6 (pO _ _ _ w6 h6 (by simp)).sl)
            intro w6 v6 h6 hB6
            have hO6 := (pO _ _ _ w6 h6 (by simp)).below hB6
            by_cases hk : Dbm.chk 3 C = 0
            · rw [decide_eq_true hk]
              rw [if_pos hk] at e4
              subst e4
              refine Branch.no rfl ?_
              apply CallI.use1
              focus (exact fun w7 h7 => rshort_any 3 a3 c3 C e3 w7 (hO6.below (atB h7 (by simp))).sl)
              intro w7 v7 h7 hB7
              exact EndI.mk fun w9 h9 => rfl
            · rw [decide_eq_false hk]
              rw [if_neg hk] at e4
              subst e4
              refine Branch.yes rfl ?_
              exact EndI.mk fun w9 h9 => rfl
        · skip
          refine NewI.mk fun b9 hb9 => ?_
          apply CallI.use
          focus (exact fun w5 h5 => hcom a1 a2 c1 c2 w5 (hS1.st (st.at h5 (fun x hx => by simp at hx <;> omega))) (hS2.st (st.at h5 (fun x hx => by simp at hx <;> omega))))
          rintro v w5 v5 h5 hB5 ⟨a3, c3, rfl, hO3⟩
          have st := st.next h5 (fun x hx => by simp at hx <;> omega) hB5
          rcases hor with ⟨e1, e2⟩ | ⟨e1, e2, e3, e5, e4⟩
          · subst e1; subst e2
            refine Branch.yes rfl ?_
            exact EndI.mk fun w9 h9 => rfl
          · subst e1; subst e2
            refine Branch.no rfl ?_
            have pO : ∀ (hp : List LB) (r L : List Nat) (w6 : World), At ⟨w, w.heap.size, Nat.le_refl _⟩ hp r L v5 w6 → (∀ x, x ∈ L → x = b9) → Own TB w5.heap.size w6 (.slice a3 C.length c3) C := fun hp r L w6 h6 hL => by
              first
                | exact hO3.below (atB h6 (fun x hx => by rw [hL x hx]; exact hb9))
                | exact hO3.at h6 (fun x hx => by rw [hL x hx]; exact h5.lt b9 (by simp))
            apply CallI.use1
            focus (exact fun w6 h6 => rmay04_any 3 C ⟨by omega, by omega⟩ e5 a3 c3 w6 (pO _ _ _ w6 h6 (by simp)).sl)
            intro w6 v6 h6 hB6
            have hO6 := (pO _ _ _ w6 h6 (by simp)).below hB6
            by_cases hk : Dbm.chk 3 C = 0
            · rw [decide_eq_true hk]
              rw [if_pos hk] at e4
              subst e4
              refine Branch.no rfl ?_
              apply CallI.use1
              focus (exact fun w7 h7 => rshort_any 3 a3 c3 C e3 w7 (hO6.below (atB h7 (by simp))).sl)
              intro w7 v7 h7 hB7
              exact EndI.mk fun w9 h9 => rfl
            · rw [decide_eq_false hk]
              rw [if_neg hk] at e4
              subst e4
              refine Branch.yes rfl ?_
              exact EndI.mk fun w9 h9 => rfl
      · skip
        refine NewI.mk fun b9 hb9 => ?_
        apply CallI.use
        focus (exact fun w4 h4 => rfull_any ⟨n6.a, b, n6.c, n6.d, n6.e, n6.f⟩ w4)
        rintro v w4 v4 h4 hB4 ⟨a2, c2, rfl, hS2⟩
        have st := st.next h4 (fun x hx => by simp at hx <;> omega) hB4
        apply CallI.use
        focus (exact fun w5 h5 => hcom a1 a2 c1 c2 w5 (hS1.st (st.at h5 (fun x hx => by simp at hx <;> omega))) (hS2.st (st.at h5 (fun x hx => by simp at hx <;> omega))))
        rintro v w5 v5 h5 hB5 ⟨a3, c3, rfl, hO3⟩
        have st := st.next h5 (fun x hx => by simp at hx <;> omega) hB5
        rcases hor with ⟨e1, e2⟩ | ⟨e1, e2, e3, e5, e4⟩
        · subst e1; subst e2
          refine Branch.yes rfl ?_
          exact EndI.mk fun w9 h9 => rfl
        · subst e1; subst e2
          refine Branch.no rfl ?_
          have pO : ∀ (hp : List LB) (r L : List Nat) (w6 : World), At ⟨w, w.heap.size, Nat.le_refl _⟩ hp r L v5 w6 → (∀ x, x ∈ L → x = b9) → Own TB w5.heap.size w6 (.slice a3 C.length c3) C := fun hp r L w6 h6 hL => by
            first
              | exact hO3.below (atB h6 (fun x hx => by rw [hL x hx]; exact hb9))
              | exact hO3.at h6 (fun x hx => by rw [hL x hx]; exact h5.lt b9 (by simp))
          apply CallI.use1
          focus (exact fun w6 h6 => rmay04_any 3 C ⟨by omega, by omega⟩ e5 a3 c3 w6 (pO _ _ _ w6 h6 (by simp)).sl)
          intro w6 v6 h6 hB6
          have hO6 := (pO _ _ _ w6 h6 (by simp)).below hB6
          by_cases hk : Dbm.chk 3 C = 0
          · rw [decide_eq_true hk]
            rw [if_pos hk] at e4
            subst e4
            refine Branch.no rfl ?_
            apply CallI.use1
            focus (exact fun w7 h7 => rshort_any 3 a3 c3 C e3 w7 (hO6.below (atB h7 (by simp))).sl)
            intro w7 v7 h7 hB7
            exact EndI.mk fun w9 h9 => rfl
          · rw [decide_eq_false hk]
            rw [if_neg hk] at e4
            subst e4
            refine Branch.yes rfl ?_
            exact EndI.mk fun w9 h9 => rfl
    · skip
      refine NewI.mk fun b9 hb9 => ?_
      apply CallI.use
      focus (exact fun w3 h3 => rfull_any z w3)
      rintro v w3 v3 h3 hB3 ⟨a1, c1, rfl, hS1⟩
      have st := st.next h3 (fun x hx => by simp at hx <;> omega) hB3
      apply CallI.use
      focus (exact fun w4 h4 => rfull_any ⟨n6.a, b, n6.c, n6.d, n6.e, n6.f⟩ w4)
      rintro v w4 v4 h4 hB4 ⟨a2, c2, rfl, hS2⟩
      have st := st.next h4 (fun x hx => by simp at hx <;> omega) hB4
      apply CallI.use
      focus (exact fun w5 h5 => hcom a1 a2 c1 c2 w5 (hS1.st (st.at h5 (fun x hx => by simp at hx <;> omega))) (hS2.st (st.at h5 (fun x hx => by simp at hx <;> omega))))
      rintro v w5 v5 h5 hB5 ⟨a3, c3, rfl, hO3⟩
      have st := st.next h5 (fun x hx => by simp at hx <;> omega) hB5
      rcases hor with ⟨e1, e2⟩ | ⟨e1, e2, e3, e5, e4⟩
      · subst e1; subst e2
        refine Branch.yes rfl ?_
        exact EndI.mk fun w9 h9 => rfl
      · subst e1; subst e2
        refine Branch.no rfl ?_
        have pO : ∀ (hp : List LB) (r L : List Nat) (w6 : World), At ⟨w, w.heap.size, Nat.le_refl _⟩ hp r L v5 w6 → (∀ x, x ∈ L → x = b9) → Own TB w5.heap.size w6 (.slice a3 C.length c3) C := fun hp r L w6 h6 hL => by
          first
            | exact hO3.below (atB h6 (fun x hx => by rw [hL x hx]; exact hb9))
            | exact hO3.at h6 (fun x hx => by rw [hL x hx]; exact h5.lt b9 (by simp))
        apply CallI.use1
        focus (exact fun w6 h6 => rmay04_any 3 C ⟨by omega, by omega⟩ e5 a3 c3 w6 (pO _ _ _ w6 h6 (by simp)).sl)
        intro w6 v6 h6 hB6
        have hO6 := (pO _ _ _ w6 h6 (by simp)).below hB6
        by_cases hk : Dbm.chk 3 C = 0
        · rw [decide_eq_true hk]
          rw [if_pos hk] at e4
          subst e4
          refine Branch.no rfl ?_
          apply CallI.use1
          focus (exact fun w7 h7 => rshort_any 3 a3 c3 C e3 w7 (hO6.below (atB h7 (by simp))).sl)
          intro w7 v7 h7 hB7
          exact EndI.mk fun w9 h9 => rfl
        · rw [decide_eq_false hk]
          rw [if_neg hk] at e4
          subst e4
          refine Branch.yes rfl ?_
          exact EndI.mk fun w9 h9 => rfl
  · refine fun_eq 0 w Tryz.func296 (args := [.agg [.val (.int .i64 z.a), .val (.int .i64 z.b), .val (.int .i64 z.c), .val (.int .i64 z.d), .val (.int .i64 z.e), .val (.int .i64 z.f)], .val (.int .i64 2), .val (.int .i64 b)]) rfl rfl ?_
    refine NewI.mk fun b1 hb1 => ?_
    refine NewI.mk fun b2 hb2 => ?_
    refine CallI.to1 (fun w => hnone w) fun w1 => ?_
    refine NewI.mk fun b3 hb3 => ?_
    have hb3' : w1.heap.size ≤ b3 := hb3
    refine Need.mk (by decide) ?_
    refine DrawI.go (.tk 0 (.tk 2 (.two 1 (.two 3 (.two 4 (.tk 5 (.tk 6 (.tk 7 (.ev 8 (.ev 9 (.tk 10 .done)))))) 8 (.ev 4 (.tk 5 (.tk 6 (.tk 7 (.ev 9 (.tk 10 .done))))))) 8 (.ev 3 (.ev 4 (.tk 5 (.tk 6 (.tk 7 (.ev 9 (.tk 10 .done)))))))) 8 (.ev 1 (.ev 3 (.ev 4 (.tk 5 (.tk 6 (.tk 7 (.ev 9 (.tk 10 .done))))))))))) (by kernel_rfl) fun w2 h2 => ?_
    have hb3w : b3 < w2.heap.size := h2.lt b3 (by simp)
    have hb2w : b2 < w2.heap.size := h2.lt b2 (by simp)
    have st := Stay.start h2.below
    refine Both.mk ?_ ?_
    · skip
      apply CallI.use
      focus (exact fun w3 h3 => rfull_any z w3)
      rintro v w3 v3 h3 hB3 ⟨a1, c1, rfl, hS1⟩
      have st := st.next h3 (fun x hx => by simp at hx <;> omega) hB3
      refine Both.mk ?_ ?_
      · skip
        apply CallI.use
        focus (exact fun w4 h4 => rfull_any ⟨n6.a, n6.b, b, n6.d, n6.e, n6.f⟩ w4)
        rintro v w4 v4 h4 hB4 ⟨a2, c2, rfl, hS2⟩
        have st := st.next h4 (fun x hx => by simp at hx <;> omega) hB4
        refine Both.mk ?_ ?_
        · skip
          apply CallI.use
          focus (exact fun w5 h5 => hcom a1 a2 c1 c2 w5 (hS1.st (st.at h5 (fun x hx => by simp at hx <;> omega))) (hS2.st (st.at h5 (fun x hx => by simp at hx <;> omega))))
          rintro v w5 v5 h5 hB5 ⟨a3, c3, rfl, hO3⟩
          have st := st.next h5 (fun x hx => by simp at hx <;> omega) hB5
          refine NewI.mk fun b9 hb9 => ?_
          rcases hor with ⟨e1, e2⟩ | ⟨e1, e2, e3, e5, e4⟩
          · subst e1; subst e2
            refine Branch.yes rfl ?_
            exact EndI.mk fun w9 h9 => rfl
          · subst e1; subst e2
            refine Branch.no rfl ?_
            have pO : ∀ (hp : List LB) (r L : List Nat) (w6 : World), At ⟨w, w.heap.size, Nat.le_refl _⟩ hp r L v5 w6 → (∀ x, x ∈ L → x = b9) → Own TB w5.heap.size w6 (.slice a3 C.length c3) C := fun hp r L w6 h6 hL => by
              first
                | exact hO3.below (atB h6 (fun x hx => by rw [hL x hx]; exact hb9))
                | exact hO3.at h6 (fun x hx => by rw [hL x hx]; exact h5.lt b9 (by simp))
            apply CallI.use1
            focus (exact fun w6 h6 => rmay04_any 3 C ⟨by omega, by omega⟩ e5 a3 c3 w6 (pO _ _ _ w6 h6 (by simp)).sl)
            intro w6 v6 h6 hB6
            have hO6 := (pO _ _ _ w6 h6 (by simp)).below hB6
            by_cases hk : Dbm.chk 3 C = 0
            · rw [decide_eq_true hk]
              rw [if_pos hk] at e4
              subst e4
              refine Branch.no rfl ?_
              apply CallI.use1
              focus (exact fun w7 h7 => rshort_any 3 a3 c3 C e3 w7 (hO6.below (atB h7 (by simp))).sl)
              intro w7 v7 h7 hB7
              exact EndI.mk fun w9 h9 => rfl
            · rw [decide_eq_false hk]
              rw [if_neg hk] at e4
              subst e4
              refine Branch.yes rfl ?_
              exact EndI.mk fun w9 h9 => rfl
        · skip
          refine NewI.mk fun b9 hb9 => ?_
          apply CallI.use
          focus (exact fun w5 h5 => hcom a1 a2 c1 c2 w5 (hS1.st (st.at h5 (fun x hx => by simp at hx <;> omega))) (hS2.st (st.at h5 (fun x hx => by simp at hx <;> omega))))
          rintro v w5 v5 h5 hB5 ⟨a3, c3, rfl, hO3⟩
          have st := st.next h5 (fun x hx => by simp at hx <;> omega) hB5
          rcases hor with ⟨e1, e2⟩ | ⟨e1, e2, e3, e5, e4⟩
          · subst e1; subst e2
            refine Branch.yes rfl ?_
            exact EndI.mk fun w9 h9 => rfl
          · subst e1; subst e2
            refine Branch.no rfl ?_
            have pO : ∀ (hp : List LB) (r L : List Nat) (w6 : World), At ⟨w, w.heap.size, Nat.le_refl _⟩ hp r L v5 w6 → (∀ x, x ∈ L → x = b9) → Own TB w5.heap.size w6 (.slice a3 C.length c3) C := fun hp r L w6 h6 hL => by
              first
                | exact hO3.below (atB h6 (fun x hx => by rw [hL x hx]; exact hb9))
                | exact hO3.at h6 (fun x hx => by rw [hL x hx]; exact h5.lt b9 (by simp))
            apply CallI.use1
            focus (exact fun w6 h6 => rmay04_any 3 C ⟨by omega, by omega⟩ e5 a3 c3 w6 (pO _ _ _ w6 h6 (by simp)).sl)
            intro w6 v6 h6 hB6
            have hO6 := (pO _ _ _ w6 h6 (by simp)).below hB6
            by_cases hk : Dbm.chk 3 C = 0
            · rw [decide_eq_true hk]
              rw [if_pos hk] at e4
              subst e4
              refine Branch.no rfl ?_
              apply CallI.use1
              focus (exact fun w7 h7 => rshort_any 3 a3 c3 C e3 w7 (hO6.below (atB h7 (by simp))).sl)
              intro w7 v7 h7 hB7
              exact EndI.mk fun w9 h9 => rfl
            · rw [decide_eq_false hk]
              rw [if_neg hk] at e4
              subst e4
              refine Branch.yes rfl ?_
              exact EndI.mk fun w9 h9 => rfl
      · skip
        refine NewI.mk fun b9 hb9 => ?_
        apply CallI.use
        focus (exact fun w4 h4 => rfull_any ⟨n6.a, n6.b, b, n6.d, n6.e, n6.f⟩ w4)
        rintro v w4 v4 h4 hB4 ⟨a2, c2, rfl, hS2⟩
        have st := st.next h4 (fun x hx => by simp at hx <;> omega) hB4
        apply CallI.use
        focus (exact fun w5 h5 => hcom a1 a2 c1 c2 w5 (hS1.st (st.at h5 (fun x hx => by simp at hx <;> omega))) (hS2.st (st.at h5 (fun x hx => by simp at hx <;> omega))))
        rintro v w5 v5 h5 hB5 ⟨a3, c3, rfl, hO3⟩
        have st := st.next h5 (fun x hx => by simp at hx <;> omega) hB5
        rcases hor with ⟨e1, e2⟩ | ⟨e1, e2, e3, e5, e4⟩
        · subst e1; subst e2
          refine Branch.yes rfl ?_
          exact EndI.mk fun w9 h9 => rfl
        · subst e1; subst e2
          refine Branch.no rfl ?_
          have pO : ∀ (hp : List LB) (r L : List Nat) (w6 : World), At ⟨w, w.heap.size, Nat.le_refl _⟩ hp r L v5 w6 → (∀ x, x ∈ L → x = b9) → Own TB w5.heap.size w6 (.slice a3 C.length c3) C := fun hp r L w6 h6 hL => by
            first
              | exact hO3.below (atB h6 (fun x hx => by rw [hL x hx]; exact hb9))
              | exact hO3.at h6 (fun x hx => by rw [hL x hx]; exact h5.lt b9 (by simp))
          apply CallI.use1
          focus (exact fun w6 h6 => rmay04_any 3 C ⟨by omega, by omega⟩ e5 a3 c3 w6 (pO _ _ _ w6 h6 (by simp)).sl)
          intro w6 v6 h6 hB6
          have hO6 := (pO _ _ _ w6 h6 (by simp)).below hB6
          by_cases hk : Dbm.chk 3 C = 0
          · rw [decide_eq_true hk]
            rw [if_pos hk] at e4
            subst e4
            refine Branch.no rfl ?_
            apply CallI.use1
            focus (exact fun w7 h7 => rshort_any 3 a3 c3 C e3 w7 (hO6.below (atB h7 (by simp))).sl)
            intro w7 v7 h7 hB7
            exact EndI.mk fun w9 h9 => rfl
          · rw [decide_eq_false hk]
            rw [if_neg hk] at e4
            subst e4
            refine Branch.yes rfl ?_
            exact EndI.mk fun w9 h9 => rfl
    · skip
      refine NewI.mk fun b9 hb9 => ?_
      apply CallI.use
      focus (exact fun w3 h3 => rfull_any z w3)
      rintro v w3 v3 h3 hB3 ⟨a1, c1, rfl, hS1⟩
      have st := st.next h3 (fun x hx => by simp at hx <;> omega) hB3
      apply CallI.use
      focus (exact fun w4 h4 => rfull_any ⟨n6.a, n6.b, b, n6.d, n6.e, n6.f⟩ w4)
      rintro v w4 v4 h4 hB4 ⟨a2, c2, rfl, hS2⟩
      have st := st.next h4 (fun x hx => by simp at hx <;> omega) hB4
      apply CallI.use
      focus (exact fun w5 h5 => hcom a1 a2 c1 c2 w5 (hS1.st (st.at h5 (fun x hx => by simp at hx <;> omega))) (hS2.st (st.at h5 (fun x hx => by simp at hx <;> omega))))
      rintro v w5 v5 h5 hB5 ⟨a3, c3, rfl, hO3⟩
      have st := st.next h5 (fun x hx => by simp at hx <;> omega) hB5
      rcases hor with ⟨e1, e2⟩ | ⟨e1, e2, e3, e5, e4⟩
      · subst e1; subst e2
        refine Branch.yes rfl ?_
        exact EndI.mk fun w9 h9 => rfl
      · subst e1; subst e2
        refine Branch.no rfl ?_
        have pO : ∀ (hp : List LB) (r L : List Nat) (w6 : World), At ⟨w, w.heap.size, Nat.le_refl _⟩ hp r L v5 w6 → (∀ x, x ∈ L → x = b9) → Own TB w5.heap.size w6 (.slice a3 C.length c3) C := fun hp r L w6 h6 hL => by
          first
            | exact hO3.below (atB h6 (fun x hx => by rw [hL x hx]; exact hb9))
            | exact hO3.at h6 (fun x hx => by rw [hL x hx]; exact h5.lt b9 (by simp))
        apply CallI.use1
        focus (exact fun w6 h6 => rmay04_any 3 C ⟨by omega, by omega⟩ e5 a3 c3 w6 (pO _ _ _ w6 h6 (by simp)).sl)
        intro w6 v6 h6 hB6
        have hO6 := (pO _ _ _ w6 h6 (by simp)).below hB6
        by_cases hk : Dbm.chk 3 C = 0
        · rw [decide_eq_true hk]
          rw [if_pos hk] at e4
          subst e4
          refine Branch.no rfl ?_
          apply CallI.use1
          focus (exact fun w7 h7 => rshort_any 3 a3 c3 C e3 w7 (hO6.below (atB h7 (by simp))).sl)
          intro w7 v7 h7 hB7
          exact EndI.mk fun w9 h9 => rfl
        · rw [decide_eq_false hk]
          rw [if_neg hk] at e4
          subst e4
          refine Branch.yes rfl ?_
          exact EndI.mk fun w9 h9 => rfl
  · refine fun_eq 0 w Tryz.func296 (args := [.agg [.val (.int .i64 z.a), .val (.int .i64 z.b), .val (.int .i64 z.c), .val (.int .i64 z.d), .val (.int .i64 z.e), .val (.int .i64 z.f)], .val (.int .i64 3), .val (.int .i64 b)]) rfl rfl ?_
    refine NewI.mk fun b1 hb1 => ?_
    refine NewI.mk fun b2 hb2 => ?_
    refine CallI.to1 (fun w => hnone w) fun w1 => ?_
    refine NewI.mk fun b3 hb3 => ?_
    have hb3' : w1.heap.size ≤ b3 := hb3
    refine Need.mk (by decide) ?_
    refine DrawI.go (.tk 0 (.tk 2 (.two 1 (.two 3 (.two 4 (.tk 5 (.tk 6 (.tk 7 (.ev 8 (.ev 9 (.tk 10 .done)))))) 8 (.ev 4 (.tk 5 (.tk 6 (.tk 7 (.ev 9 (.tk 10 .done))))))) 8 (.ev 3 (.ev 4 (.tk 5 (.tk 6 (.tk 7 (.ev 9 (.tk 10 .done)))))))) 8 (.ev 1 (.ev 3 (.ev 4 (.tk 5 (.tk 6 (.tk 7 (.ev 9 (.tk 10 .done))))))))))) (by kernel_rfl) fun w2 h2 => ?_
    have hb3w : b3 < w2.heap.size := h2.lt b3 (by simp)
    have hb2w : b2 < w2.heap.size := h2.lt b2 (by simp)
    have st := Stay.start h2.below
    refine Both.mk ?_ ?_
    · skip
      apply CallI.use
      focus (exact fun w3 h3 => rfull_any z w3)
      rintro v w3 v3 h3 hB3 ⟨a1, c1, rfl, hS1⟩
      have st := st.next h3 (fun x hx => by simp at hx <;> omega) hB3
      refine Both.mk ?_ ?_
      · skip
        apply CallI.use
        focus (exact fun w4 h4 => rfull_any ⟨n6.a, n6.b, n6.c, b, n6.e, n6.f⟩ w4)
        rintro v w4 v4 h4 hB4 ⟨a2, c2, rfl, hS2⟩
        have st := st.next h4 (fun x hx => by simp at hx <;> omega) hB4
        refine Both.mk ?_ ?_
        · skip
          apply CallI.use
          focus (exact fun w5 h5 => hcom a1 a2 c1 c2 w5 (hS1.st (st.at h5 (fun x hx => by simp at hx <;> omega))) (hS2.st (st.at h5 (fun x hx => by simp at hx <;> omega))))
          rintro v w5 v5 h5 hB5 ⟨a3, c3, rfl, hO3⟩
          have st := st.next h5 (fun x hx => by simp at hx <;> omega) hB5
          refine NewI.mk fun b9 hb9 => ?_
          rcases hor with ⟨e1, e2⟩ | ⟨e1, e2, e3, e5, e4⟩
          · subst e1; subst e2
            refine Branch.yes rfl ?_
            exact EndI.mk fun w9 h9 => rfl
          · subst e1; subst e2
            refine Branch.no rfl ?_
            have pO : ∀ (hp : List LB) (r L : List Nat) (w6 : World), At ⟨w, w.heap.size, Nat.le_refl _⟩ hp r L v5 w6 → (∀ x, x ∈ L → x = b9) → Own TB w5.heap.size w6 (.slice a3 C.length c3) C := fun hp r L w6 h6 hL => by
              first
                | exact hO3.below (atB h6 (fun x hx => by rw [hL x hx]; exact hb9))
                | exact hO3.at h6 (fun x hx => by rw [hL x hx]; exact h5.lt b9 (by simp))
            apply CallI.use1
            focus (exact fun w6 h6 => rmay04_any 3 C ⟨by omega, by omega⟩ e5 a3 c3 w6 (pO _ _ _ w6 h6 (by simp)).sl)
            intro w6 v6 h6 hB6
            have hO6 := (pO _ _ _ w6 h6 (by simp)).below hB6
            by_cases hk : Dbm.chk 3 C = 0
            · rw [decide_eq_true hk]
              rw [if_pos hk] at e4
              subst e4
              refine Branch.no rfl ?_
              apply CallI.use1
              focus (exact fun w7 h7 => rshort_any 3 a3 c3 C e3 w7 (hO6.below (atB h7 (by simp))).sl)
              intro w7 v7 h7 hB7
              exact EndI.mk fun w9 h9 => rfl
            · rw [decide_eq_false hk]
              rw [if_neg hk] at e4
              subst e4
              refine Branch.yes rfl ?_
              exact EndI.mk fun w9 h9 => rfl
        · skip
          refine NewI.mk fun b9 hb9 => ?_
          apply CallI.use
          focus (exact fun w5 h5 => hcom a1 a2 c1 c2 w5 (hS1.st (st.at h5 (fun x hx => by simp at hx <;> omega))) (hS2.st (st.at h5 (fun x hx => by simp at hx <;> omega))))
          rintro v w5 v5 h5 hB5 ⟨a3, c3, rfl, hO3⟩
          have st := st.next h5 (fun x hx => by simp at hx <;> omega) hB5
          rcases hor with ⟨e1, e2⟩ | ⟨e1, e2, e3, e5, e4⟩
          · subst e1; subst e2
            refine Branch.yes rfl ?_
            exact EndI.mk fun w9 h9 => rfl
          · subst e1; subst e2
            refine Branch.no rfl ?_
            have pO : ∀ (hp : List LB) (r L : List Nat) (w6 : World), At ⟨w, w.heap.size, Nat.le_refl _⟩ hp r L v5 w6 → (∀ x, x ∈ L → x = b9) → Own TB w5.heap.size w6 (.slice a3 C.length c3) C := fun hp r L w6 h6 hL => by
              first
                | exact hO3.below (atB h6 (fun x hx => by rw [hL x hx]; exact hb9))
                | exact hO3.at h6 (fun x hx => by rw [hL x hx]; exact h5.lt b9 (by simp))
            apply CallI.use1
            focus (exact fun w6 h6 => rmay04_any 3 C ⟨by omega, by omega⟩ e5 a3 c3 w6 (pO _ _ _ w6 h6 (by simp)).sl)
            intro w6 v6 h6 hB6
            have hO6 := (pO _ _ _ w6 h6 (by simp)).below hB6
            by_cases hk : Dbm.chk 3 C = 0
            · rw [decide_eq_true hk]
              rw [if_pos hk] at e4
              subst e4
              refine Branch.no rfl ?_
              apply CallI.use1
              focus (exact fun w7 h7 => rshort_any 3 a3 c3 C e3 w7 (hO6.below (atB h7 (by simp))).sl)
              intro w7 v7 h7 hB7
              exact EndI.mk fun w9 h9 => rfl
            · rw [decide_eq_false hk]
              rw [if_neg hk] at e4
              subst e4
              refine Branch.yes rfl ?_
              exact EndI.mk fun w9 h9 => rfl
      · skip
        refine NewI.mk fun b9 hb9 => ?_
        apply CallI.use
        focus (exact fun w4 h4 => rfull_any ⟨n6.a, n6.b, n6.c, b, n6.e, n6.f⟩ w4)
        rintro v w4 v4 h4 hB4 ⟨a2, c2, rfl, hS2⟩
        have st := st.next h4 (fun x hx => by simp at hx <;> omega) hB4
        apply CallI.use
        focus (exact fun w5 h5 => hcom a1 a2 c1 c2 w5 (hS1.st (st.at h5 (fun x hx => by simp at hx <;> omega))) (hS2.st (st.at h5 (fun x hx => by simp at hx <;> omega))))
        rintro v w5 v5 h5 hB5 ⟨a3, c3, rfl, hO3⟩
        have st := st.next h5 (fun x hx => by simp at hx <;> omega) hB5
        rcases hor with ⟨e1, e2⟩ | ⟨e1, e2, e3, e5, e4⟩
        · subst e1; subst e2
          refine Branch.yes rfl ?_
          exact EndI.mk fun w9 h9 => rfl
        · subst e1; subst e2
          refine Branch.no rfl ?_
          have pO : ∀ (hp : List LB) (r L : List Nat) (w6 : World), At ⟨w, w.heap.size, Nat.le_refl _⟩ hp r L v5 w6 → (∀ x, x ∈ L → x = b9) → Own TB w5.heap.size w6 (.slice a3 C.length c3) C := fun hp r L w6 h6 hL => by
            first
              | exact hO3.below (atB h6 (fun x hx => by rw [hL x hx]; exact hb9))
              | exact hO3.at h6 (fun x hx => by rw [hL x hx]; exact h5.lt b9 (by simp))
          apply CallI.use1
          focus (exact fun w6 h6 => rmay04_any 3 C ⟨by omega, by omega⟩ e5 a3 c3 w6 (pO _ _ _ w6 h6 (by simp)).sl)
          intro w6 v6 h6 hB6
          have hO6 := (pO _ _ _ w6 h6 (by simp)).below hB6
          by_cases hk : Dbm.chk 3 C = 0
          · rw [decide_eq_true hk]
            rw [if_pos hk] at e4
            subst e4
            refine Branch.no rfl ?_
            apply CallI.use1
            focus (exact fun w7 h7 => rshort_any 3 a3 c3 C e3 w7 (hO6.below (atB h7 (by simp))).sl)
            intro w7 v7 h7 hB7
            exact EndI.mk fun w9 h9 => rfl
          · rw [decide_eq_false hk]
            rw [if_neg hk] at e4
            subst e4
            refine Branch.yes rfl ?_
            exact EndI.mk fun w9 h9 => rfl
    · skip
      refine NewI.mk fun b9 hb9 => ?_
      apply CallI.use
      focus (exact fun w3 h3 => rfull_any z w3)
      rintro v w3 v3 h3 hB3 ⟨a1, c1, rfl, hS1⟩
      have st := st.next h3 (fun x hx => by simp at hx <;> omega) hB3
      apply CallI.use
      focus (exact fun w4 h4 => rfull_any ⟨n6.a, n6.b, n6.c, b, n6.e, n6.f⟩ w4)
      rintro v w4 v4 h4 hB4 ⟨a2, c2, rfl, hS2⟩
      have st := st.next h4 (fun x hx => by simp at hx <;> omega) hB4
      apply CallI.use
      focus (exact fun w5 h5 => hcom a1 a2 c1 c2 w5 (hS1.st (st.at h5 (fun x hx => by simp at hx <;> omega))) (hS2.st (st.at h5 (fun x hx => by simp at hx <;> omega))))
      rintro v w5 v5 h5 hB5 ⟨a3, c3, rfl, hO3⟩
      have st := st.next h5 (fun x hx => by simp at hx <;> omega) hB5
      rcases hor with ⟨e1, e2⟩ | ⟨e1, e2, e3, e5, e4⟩
      · subst e1; subst e2
        refine Branch.yes rfl ?_
        exact EndI.mk fun w9 h9 => rfl
      · subst e1; subst e2
        refine Branch.no rfl ?_
        have pO : ∀ (hp : List LB) (r L : List Nat) (w6 : World), At ⟨w, w.heap.size, Nat.le_refl _⟩ hp r L v5 w6 → (∀ x, x ∈ L → x = b9) → Own TB w5.heap.size w6 (.slice a3 C.length c3) C := fun hp r L w6 h6 hL => by
          first
            | exact hO3.below (atB h6 (fun x hx => by rw [hL x hx]; exact hb9))
            | exact hO3.at h6 (fun x hx => by rw [hL x hx]; exact h5.lt b9 (by simp))
        apply CallI.use1
        focus (exact fun w6 h6 => rmay04_any 3 C ⟨by omega, by omega⟩ e5 a3 c3 w6 (pO _ _ _ w6 h6 (by simp)).sl)
        intro w6 v6 h6 hB6
        have hO6 := (pO _ _ _ w6 h6 (by simp)).below hB6
        by_cases hk : Dbm.chk 3 C = 0
        · rw [decide_eq_true hk]
          rw [if_pos hk] at e4
          subst e4
          refine Branch.no rfl ?_
          apply CallI.use1
          focus (exact fun w7 h7 => rshort_any 3 a3 c3 C e3 w7 (hO6.below (atB h7 (by simp))).sl)
          intro w7 v7 h7 hB7
          exact EndI.mk fun w9 h9 => rfl
        · rw [decide_eq_false hk]
          rw [if_neg hk] at e4
          subst e4
          refine Branch.yes rfl ?_
          exact EndI.mk fun w9 h9 => rfl
  · refine fun_eq 0 w Tryz.func296 (args := [.agg [.val (.int .i64 z.a), .val (.int .i64 z.b), .val (.int .i64 z.c), .val (.int .i64 z.d), .val (.int .i64 z.e), .val (.int .i64 z.f)], .val (.int .i64 4), .val (.int .i64 b)]) rfl rfl ?_
    refine NewI.mk fun b1 hb1 => ?_
    refine NewI.mk fun b2 hb2 => ?_
    refine CallI.to1 (fun w => hnone w) fun w1 => ?_
    refine NewI.mk fun b3 hb3 => ?_
    have hb3' : w1.heap.size ≤ b3 := hb3
    refine Need.mk (by decide) ?_
    refine DrawI.go (.tk 0 (.tk 2 (.two 1 (.two 3 (.two 4 (.tk 5 (.tk 6 (.tk 7 (.ev 8 (.ev 9 (.tk 10 .done)))))) 8 (.ev 4 (.tk 5 (.tk 6 (.tk 7 (.ev 9 (.tk 10 .done))))))) 8 (.ev 3 (.ev 4 (.tk 5 (.tk 6 (.tk 7 (.ev 9 (.tk 10 .done)))))))) 8 (.ev 1 (.ev 3 (.ev 4 (.tk 5 (.tk 6 (.tk 7 (.ev 9 (.tk 10 .done))))))))))) (by kernel_rfl) fun w2 h2 => ?_
    have hb3w : b3 < w2.heap.size := h2.lt b3 (by simp)
    have hb2w : b2 < w2.heap.size := h2.lt b2 (by simp)
    have st := Stay.start h2.below
    refine Both.mk ?_ ?_
    · skip
      apply CallI.use
      focus (exact fun w3 h3 => rfull_any z w3)
      rintro v w3 v3 h3 hB3 ⟨a1, c1, rfl, hS1⟩
      have st := st.next h3 (fun x hx => by simp at hx <;> omega) hB3
      refine Both.mk ?_ ?_
      · skip
        apply CallI.use
        focus (exact fun w4 h4 => rfull_any ⟨n6.a, n6.b, n6.c, n6.d, b, n6.f⟩ w4)
        rintro v w4 v4 h4 hB4 ⟨a2, c2, rfl, hS2⟩
        have st := st.next h4 (fun x hx => by simp at hx <;> omega) hB4
        refine Both.mk ?_ ?_
        · skip
          apply CallI.use
          focus (exact fun w5 h5 => hcom a1 a2 c1 c2 w5 (hS1.st (st.at h5 (fun x hx => by simp at hx <;> omega))) (hS2.st (st.at h5 (fun x hx => by simp at hx <;> omega))))
          rintro v w5 v5 h5 hB5 ⟨a3, c3, rfl, hO3⟩
          have st := st.next h5 (fun x hx => by simp at hx <;> omega) hB5
          refine NewI.mk fun b9 hb9 => ?_
          rcases hor with ⟨e1, e2⟩ | ⟨e1, e2, e3, e5, e4⟩
          · subst e1; subst e2
            refine Branch.yes rfl ?_
            exact EndI.mk fun w9 h9 => rfl
          · subst e1; subst e2
            refine Branch.no rfl ?_
            have pO : ∀ (hp : List LB) (r L : List Nat) (w6 : World), At ⟨w, w.heap.size, Nat.le_refl _⟩ hp r L v5 w6 → (∀ x, x ∈ L → x = b9) → Own TB w5.heap.size w6 (.slice a3 C.length c3) C := fun hp r L w6 h6 hL => by
              first
                | exact hO3.below (atB h6 (fun x hx => by rw [hL x hx]; exact hb9))
                | exact hO3.at h6 (fun x hx => by rw [hL x hx]; exact h5.lt b9 (by simp))
            apply CallI.use1
            focus (exact fun w6 h6 => rmay04_any 3 C ⟨by omega, by omega⟩ e5 a3 c3 w6 (pO _ _ _ w6 h6 (by simp)).sl)
            intro w6 v6 h6 hB6
            have hO6 := (pO _ _ _ w6 h6 (by simp)).below hB6
            by_cases hk : Dbm.chk 3 C = 0
            · rw [decide_eq_true hk]
              rw [if_pos hk] at e4
              subst e4
              refine Branch.no rfl ?_
              apply CallI.use1
              focus (exact fun w7 h7 => rshort_any 3 a3 c3 C e3 w7 (hO6.below (atB h7 (by simp))).sl)
              intro w7 v7 h7 hB7
              exact EndI.mk fun w9 h9 => rfl
            · rw [decide_eq_false hk]
              rw [if_neg hk] at e4
              subst e4
              refine Branch.yes rfl ?_
              exact EndI.mk fun w9 h9 => rfl
        · skip
          refine NewI.mk fun b9 hb9 => ?_
          apply CallI.use
          focus (exact fun w5 h5 => hcom a1 a2 c1 c2 w5 (hS1.st (st.at h5 (fun x hx => by simp at hx <;> omega))) (hS2.st (st.at h5 (fun x hx => by simp at hx <;> omega))))
          rintro v w5 v5 h5 hB5 ⟨a3, c3, rfl, hO3⟩
          have st := st.next h5 (fun x hx => by simp at hx <;> omega) hB5
          rcases hor with ⟨e1, e2⟩ | ⟨e1, e2, e3, e5, e4⟩
          · subst e1; subst e2
            refine Branch.yes rfl ?_
            exact EndI.mk fun w9 h9 => rfl
          · subst e1; subst e2
            refine Branch.no rfl ?_
            have pO : ∀ (hp : List LB) (r L : List Nat) (w6 : World), At ⟨w, w.heap.size, Nat.le_refl _⟩ hp r L v5 w6 → (∀ x, x ∈ L → x = b9) → Own TB w5.heap.size w6 (.slice a3 C.length c3) C := fun hp r L w6 h6 hL => by
              first
                | exact hO3.below (atB h6 (fun x hx => by rw [hL x hx]; exact hb9))
                | exact hO3.at h6 (fun x hx => by rw [hL x hx]; exact h5.lt b9 (by simp))
            apply CallI.use1
            focus (exact fun w6 h6 => rmay04_any 3 C ⟨by omega, by omega⟩ e5 a3 c3 w6 (pO _ _ _ w6 h6 (by simp)).sl)
            intro w6 v6 h6 hB6
            have hO6 := (pO _ _ _ w6 h6 (by simp)).below hB6
            by_cases hk : Dbm.chk 3 C = 0
            · rw [decide_eq_true hk]
              rw [if_pos hk] at e4
              subst e4
              refine Branch.no rfl ?_
              apply CallI.use1
              focus (exact fun w7 h7 => rshort_any 3 a3 c3 C e3 w7 (hO6.below (atB h7 (by simp))).sl)
              intro w7 v7 h7 hB7
              exact EndI.mk fun w9 h9 => rfl
            · rw [decide_eq_false hk]
              rw [if_neg hk] at e4
              subst e4
              refine Branch.yes rfl ?_
              exact EndI.mk fun w9 h9 => rfl
      · skip
        refine NewI.mk fun b9 hb9 => ?_
        apply CallI.use
        focus (exact fun w4 h4 => rfull_any ⟨n6.a, n6.b, n6.c, n6.d, b, n6.f⟩ w4)
        rintro v w4 v4 h4 hB4 ⟨a2, c2, rfl, hS2⟩
        have st := st.next h4 (fun x hx => by simp at hx <;> omega) hB4
        apply CallI.use
        focus (exact fun w5 h5 => hcom a1 a2 c1 c2 w5 (hS1.st (st.at h5 (fun x hx => by simp at hx <;> omega))) (hS2.st (st.at h5 (fun x hx => by simp at hx <;> omega))))
        rintro v w5 v5 h5 hB5 ⟨a3, c3, rfl, hO3⟩
        have st := st.next h5 (fun x hx => by simp at hx <;> omega) hB5
        rcases hor with ⟨e1, e2⟩ | ⟨e1, e2, e3, e5, e4⟩
        · subst e1; subst e2
          refine Branch.yes rfl ?_
          exact EndI.mk fun w9 h9 => rfl
        · subst e1; subst e2
          refine Branch.no rfl ?_
          have pO : ∀ (hp : List LB) (r L : List Nat) (w6 : World), At ⟨w, w.heap.size, Nat.le_refl _⟩ hp r L v5 w6 → (∀ x, x ∈ L → x = b9) → Own TB w5.heap.size w6 (.slice a3 C.length c3) C := fun hp r L w6 h6 hL => by
            first
              | exact hO3.below (atB h6 (fun x hx => by rw [hL x hx]; exact hb9))
              | exact hO3.at h6 (fun x hx => by rw [hL x hx]; exact h5.lt b9 (by simp))
          apply CallI.use1
          focus (exact fun w6 h6 => rmay04_any 3 C ⟨by omega, by omega⟩ e5 a3 c3 w6 (pO _ _ _ w6 h6 (by simp)).sl)
          intro w6 v6 h6 hB6
          have hO6 := (pO _ _ _ w6 h6 (by simp)).below hB6
          by_cases hk : Dbm.chk 3 C = 0
          · rw [decide_eq_true hk]
            rw [if_pos hk] at e4
            subst e4
            refine Branch.no rfl ?_
            apply CallI.use1
            focus (exact fun w7 h7 => rshort_any 3 a3 c3 C e3 w7 (hO6.below (atB h7 (by simp))).sl)
            intro w7 v7 h7 hB7
            exact EndI.mk fun w9 h9 => rfl
          · rw [decide_eq_false hk]
            rw [if_neg hk] at e4
            subst e4
            refine Branch.yes rfl ?_
            exact EndI.mk fun w9 h9 => rfl
    · skip
      refine NewI.mk fun b9 hb9 => ?_
      apply CallI.use
      focus (exact fun w3 h3 => rfull_any z w3)
      rintro v w3 v3 h3 hB3 ⟨a1, c1, rfl, hS1⟩
      have st := st.next h3 (fun x hx => by simp at hx <;> omega) hB3
      apply CallI.use
      focus (exact fun w4 h4 => rfull_any ⟨n6.a, n6.b, n6.c, n6.d, b, n6.f⟩ w4)
      rintro v w4 v4 h4 hB4 ⟨a2, c2, rfl, hS2⟩
      have st := st.next h4 (fun x hx => by simp at hx <;> omega) hB4
      apply CallI.use
      focus (exact fun w5 h5 => hcom a1 a2 c1 c2 w5 (hS1.st (st.at h5 (fun x hx => by simp at hx <;> omega))) (hS2.st (st.at h5 (fun x hx => by simp at hx <;> omega))))
      rintro v w5 v5 h5 hB5 ⟨a3, c3, rfl, hO3⟩
      have st := st.next h5 (fun x hx => by simp at hx <;> omega) hB5
      rcases hor with ⟨e1, e2⟩ | ⟨e1, e2, e3, e5, e4⟩
      · subst e1; subst e2
        refine Branch.yes rfl ?_
        exact EndI.mk fun w9 h9 => rfl
      · subst e1; subst e2
        refine Branch.no rfl ?_
        have pO : ∀ (hp : List LB) (r L : List Nat) (w6 : World), At ⟨w, w.heap.size, Nat.le_refl _⟩ hp r L v5 w6 → (∀ x, x ∈ L → x = b9) → Own TB w5.heap.size w6 (.slice a3 C.length c3) C := fun hp r L w6 h6 hL => by
          first
            | exact hO3.below (atB h6 (fun x hx => by rw [hL x hx]; exact hb9))
            | exact hO3.at h6 (fun x hx => by rw [hL x hx]; exact h5.lt b9 (by simp))
        apply CallI.use1
        focus (exact fun w6 h6 => rmay04_any 3 C ⟨by omega, by omega⟩ e5 a3 c3 w6 (pO _ _ _ w6 h6 (by simp)).sl)
        intro w6 v6 h6 hB6
        have hO6 := (pO _ _ _ w6 h6 (by simp)).below hB6
        by_cases hk : Dbm.chk 3 C = 0
        · rw [decide_eq_true hk]
          rw [if_pos hk] at e4
          subst e4
          refine Branch.no rfl ?_
          apply CallI.use1
          focus (exact fun w7 h7 => rshort_any 3 a3 c3 C e3 w7 (hO6.below (atB h7 (by simp))).sl)
          intro w7 v7 h7 hB7
          exact EndI.mk fun w9 h9 => rfl
        · rw [decide_eq_false hk]
          rw [if_neg hk] at e4
          subst e4
          refine Branch.yes rfl ?_
          exact EndI.mk fun w9 h9 => rfl
  · refine fun_eq 0 w Tryz.func296 (args := [.agg [.val (.int .i64 z.a), .val (.int .i64 z.b), .val (.int .i64 z.c), .val (.int .i64 z.d), .val (.int .i64 z.e), .val (.int .i64 z.f)], .val (.int .i64 5), .val (.int .i64 b)]) rfl rfl ?_
    refine NewI.mk fun b1 hb1 => ?_
    refine NewI.mk fun b2 hb2 => ?_
    refine CallI.to1 (fun w => hnone w) fun w1 => ?_
    refine NewI.mk fun b3 hb3 => ?_
    have hb3' : w1.heap.size ≤ b3 := hb3
    refine Need.mk (by decide) ?_
    refine DrawI.go (.tk 0 (.tk 2 (.two 1 (.two 3 (.two 4 (.tk 5 (.tk 6 (.tk 7 (.ev 8 (.ev 9 (.tk 10 .done)))))) 8 (.ev 4 (.tk 5 (.tk 6 (.tk 7 (.ev 9 (.tk 10 .done))))))) 8 (.ev 3 (.ev 4 (.tk 5 (.tk 6 (.tk 7 (.ev 9 (.tk 10 .done)))))))) 8 (.ev 1 (.ev 3 (.ev 4 (.tk 5 (.tk 6 (.tk 7 (.ev 9 (.tk 10 .done))))))))))) (by kernel_rfl) fun w2 h2 => ?_
    have hb3w : b3 < w2.heap.size := h2.lt b3 (by simp)
    have hb2w : b2 < w2.heap.size := h2.lt b2 (by simp)
    have st := Stay.start h2.below
    refine Both.mk ?_ ?_
    · skip
      apply CallI.use
      focus (exact fun w3 h3 => rfull_any z w3)
      rintro v w3 v3 h3 hB3 ⟨a1, c1, rfl, hS1⟩
      have st := st.next h3 (fun x hx => by simp at hx <;> omega) hB3
      refine Both.mk ?_ ?_
      · skip
        apply CallI.use
        focus (exact fun w4 h4 => rfull_any ⟨n6.a, n6.b, n6.c, n6.d, n6.e, b⟩ w4)
        rintro v w4 v4 h4 hB4 ⟨a2, c2, rfl, hS2⟩
        have st := st.next h4 (fun x hx => by simp at hx <;> omega) hB4
        refine Both.mk ?_ ?_
        · skip
          apply CallI.use
          focus (exact fun w5 h5 => hcom a1 a2 c1 c2 w5 (hS1.st (st.at h5 (fun x hx => by simp at hx <;> omega))) (hS2.st (st.at h5 (fun x hx => by simp at hx <;> omega))))
          rintro v w5 v5 h5 hB5 ⟨a3, c3, rfl, hO3⟩
          have st := st.next h5 (fun x hx => by simp at hx <;> omega) hB5
          refine NewI.mk fun b9 hb9 => ?_
          rcases hor with ⟨e1, e2⟩ | ⟨e1, e2, e3, e5, e4⟩
          · subst e1; subst e2
            refine Branch.yes rfl ?_
            exact EndI.mk fun w9 h9 => rfl
          · subst e1; subst e2
            refine Branch.no rfl ?_
            have pO : ∀ (hp : List LB) (r L : List Nat) (w6 : World), At ⟨w, w.heap.size, Nat.le_refl _⟩ hp r L v5 w6 → (∀ x, x ∈ L → x = b9) → Own TB w5.heap.size w6 (.slice a3 C.length c3) C := fun hp r L w6 h6 hL => by
              first
                | exact hO3.below (atB h6 (fun x hx => by rw [hL x hx]; exact hb9))
                | exact hO3.at h6 (fun x hx => by rw [hL x hx]; exact h5.lt b9 (by simp))
            apply CallI.use1
            focus (exact fun w6 h6 => rmay04_any 3 C ⟨by omega, by omega⟩ e5 a3 c3 w6 (pO _ _ _ w6 h6 (by simp)).sl)
            intro w6 v6 h6 hB6
            have hO6 := (pO _ _ _ w6 h6 (by simp)).below hB6
            by_cases hk : Dbm.chk 3 C = 0
            · rw [decide_eq_true hk]
              rw [if_pos hk] at e4
              subst e4
              refine Branch.no rfl ?_
              apply CallI.use1
              focus (exact fun w7 h7 => rshort_any 3 a3 c3 C e3 w7 (hO6.below (atB h7 (by simp))).sl)
              intro w7 v7 h7 hB7
              exact EndI.mk fun w9 h9 => rfl
            · rw [decide_eq_false hk]
              rw [if_neg hk] at e4
              subst e4
              refine Branch.yes rfl ?_
              exact EndI.mk fun w9 h9 => rfl
        · skip
          refine NewI.mk fun b9 hb9 => ?_
          apply CallI.use
          focus (exact fun w5 h5 => hcom a1 a2 c1 c2 w5 (hS1.st (st.at h5 (fun x hx => by simp at hx <;> omega))) (hS2.st (st.at h5 (fun x hx => by simp at hx <;> omega))))
          rintro v w5 v5 h5 hB5 ⟨a3, c3, rfl, hO3⟩
          have st := st.next h5 (fun x hx => by simp at hx <;> omega) hB5
          rcases hor with ⟨e1, e2⟩ | ⟨e1, e2, e3, e5, e4⟩
          · subst e1; subst e2
            refine Branch.yes rfl ?_
            exact EndI.mk fun w9 h9 => rfl
          · subst e1; subst e2
            refine Branch.no rfl ?_
            have pO : ∀ (hp : List LB) (r L : List Nat) (w6 : World), At ⟨w, w.heap.size, Nat.le_refl _⟩ hp r L v5 w6 → (∀ x, x ∈ L → x = b9) → Own TB w5.heap.size w6 (.slice a3 C.length c3) C := fun hp r L w6 h6 hL => by
              first
                | exact hO3.below (atB h6 (fun x hx => by rw [hL x hx]; exact hb9))
                | exact hO3.at h6 (fun x hx => by rw [hL x hx]; exact h5.lt b9 (by simp))
            apply CallI.use1
            focus (exact fun w6 h6 => rmay04_any 3 C ⟨by omega, by omega⟩ e5 a3 c3 w6 (pO _ _ _ w6 h6 (by simp)).sl)
            intro w6 v6 h6 hB6
            have hO6 := (pO _ _ _ w6 h6 (by simp)).below hB6
            by_cases hk : Dbm.chk 3 C = 0
            · rw [decide_eq_true hk]
              rw [if_pos hk] at e4
              subst e4
              refine Branch.no rfl ?_
              apply CallI.use1
              focus (exact fun w7 h7 => rshort_any 3 a3 c3 C e3 w7 (hO6.below (atB h7 (by simp))).sl)
              intro w7 v7 h7 hB7
              exact EndI.mk fun w9 h9 => rfl
            · rw [decide_eq_false hk]
              rw [if_neg hk] at e4
              subst e4
              refine Branch.yes rfl ?_
              exact EndI.mk fun w9 h9 => rfl
      · skip
        refine NewI.mk fun b9 hb9 => ?_
        apply CallI.use
        focus (exact fun w4 h4 => rfull_any ⟨n6.a, n6.b, n6.c, n6.d, n6.e, b⟩ w4)
        rintro v w4 v4 h4 hB4 ⟨a2, c2, rfl, hS2⟩
        have st := st.next h4 (fun x hx => by simp at hx <;> omega) hB4
        apply CallI.use
        focus (exact fun w5 h5 => hcom a1 a2 c1 c2 w5 (hS1.st (st.at h5 (fun x hx => by simp at hx <;> omega))) (hS2.st (st.at h5 (fun x hx => by simp at hx <;> omega))))
        rintro v w5 v5 h5 hB5 ⟨a3, c3, rfl, hO3⟩
        have st := st.next h5 (fun x hx => by simp at hx <;> omega) hB5
        rcases hor with ⟨e1, e2⟩ | ⟨e1, e2, e3, e5, e4⟩
        · subst e1; subst e2
          refine Branch.yes rfl ?_
          exact EndI.mk fun w9 h9 => rfl
        · subst e1; subst e2
          refine Branch.no rfl ?_
          have pO : ∀ (hp : List LB) (r L : List Nat) (w6 : World), At ⟨w, w.heap.size, Nat.le_refl _⟩ hp r L v5 w6 → (∀ x, x ∈ L → x = b9) → Own TB w5.heap.size w6 (.slice a3 C.length c3) C := fun hp r L w6 h6 hL => by
            first
              | exact hO3.below (atB h6 (fun x hx => by rw [hL x hx]; exact hb9))
              | exact hO3.at h6 (fun x hx => by rw [hL x hx]; exact h5.lt b9 (by simp))
          apply CallI.use1
          focus (exact fun w6 h6 => rmay04_any 3 C ⟨by omega, by omega⟩ e5 a3 c3 w6 (pO _ _ _ w6 h6 (by simp)).sl)
          intro w6 v6 h6 hB6
          have hO6 := (pO _ _ _ w6 h6 (by simp)).below hB6
          by_cases hk : Dbm.chk 3 C = 0
          · rw [decide_eq_true hk]
            rw [if_pos hk] at e4
            subst e4
            refine Branch.no rfl ?_
            apply CallI.use1
            focus (exact fun w7 h7 => rshort_any 3 a3 c3 C e3 w7 (hO6.below (atB h7 (by simp))).sl)
            intro w7 v7 h7 hB7
            exact EndI.mk fun w9 h9 => rfl
          · rw [decide_eq_false hk]
            rw [if_neg hk] at e4
            subst e4
            refine Branch.yes rfl ?_
            exact EndI.mk fun w9 h9 => rfl
    · skip
      refine NewI.mk fun b9 hb9 => ?_
      apply CallI.use
      focus (exact fun w3 h3 => rfull_any z w3)
      rintro v w3 v3 h3 hB3 ⟨a1, c1, rfl, hS1⟩
      have st := st.next h3 (fun x hx => by simp at hx <;> omega) hB3
      apply CallI.use
      focus (exact fun w4 h4 => rfull_any ⟨n6.a, n6.b, n6.c, n6.d, n6.e, b⟩ w4)
      rintro v w4 v4 h4 hB4 ⟨a2, c2, rfl, hS2⟩
      have st := st.next h4 (fun x hx => by simp at hx <;> omega) hB4
      apply CallI.use
      focus (exact fun w5 h5 => hcom a1 a2 c1 c2 w5 (hS1.st (st.at h5 (fun x hx => by simp at hx <;> omega))) (hS2.st (st.at h5 (fun x hx => by simp at hx <;> omega))))
      rintro v w5 v5 h5 hB5 ⟨a3, c3, rfl, hO3⟩
      have st := st.next h5 (fun x hx => by simp at hx <;> omega) hB5
      rcases hor with ⟨e1, e2⟩ | ⟨e1, e2, e3, e5, e4⟩
      · subst e1; subst e2
        refine Branch.yes rfl ?_
        exact EndI.mk fun w9 h9 => rfl
      · subst e1; subst e2
        refine Branch.no rfl ?_
        have pO : ∀ (hp : List LB) (r L : List Nat) (w6 : World), At ⟨w, w.heap.size, Nat.le_refl _⟩ hp r L v5 w6 → (∀ x, x ∈ L → x = b9) → Own TB w5.heap.size w6 (.slice a3 C.length c3) C := fun hp r L w6 h6 hL => by
          first
            | exact hO3.below (atB h6 (fun x hx => by rw [hL x hx]; exact hb9))
            | exact hO3.at h6 (fun x hx => by rw [hL x hx]; exact h5.lt b9 (by simp))
        apply CallI.use1
        focus (exact fun w6 h6 => rmay04_any 3 C ⟨by omega, by omega⟩ e5 a3 c3 w6 (pO _ _ _ w6 h6 (by simp)).sl)
        intro w6 v6 h6 hB6
        have hO6 := (pO _ _ _ w6 h6 (by simp)).below hB6
        by_cases hk : Dbm.chk 3 C = 0
        · rw [decide_eq_true hk]
          rw [if_pos hk] at e4
          subst e4
          refine Branch.no rfl ?_
          apply CallI.use1
          focus (exact fun w7 h7 => rshort_any 3 a3 c3 C e3 w7 (hO6.below (atB h7 (by simp))).sl)
          intro w7 v7 h7 hB7
          exact EndI.mk fun w9 h9 => rfl
        · rw [decide_eq_false hk]
          rw [if_neg hk] at e4
          subst e4
          refine Branch.yes rfl ?_
          exact EndI.mk fun w9 h9 => rfl
end Go.Proofs.YtodpgcdandechaaGreat

/-
  The document's answers: ref08.told, ref08.Common, by the engine.
-/
namespace Go.Proofs.YtodpgcdandechaaGreat
set_option linter.unusedVariables false
set_option linter.unusedSimpArgs false
set_option maxRecDepth 100000
open Go.RowKit Go.Proofs.YtodpgcdandechaaGreat.Eng Enc

namespace Zo
open Dbm
/-- the zone of a matrix that is closed, by the document's closing. -/
theorem of_rc {L : List Int} (h0 : Dbm.chk 3 L = 0) :
    ((rc 3 L).2.2 = false ∧ of 3 L = (nought, 6)) ∨ ((rc 3 L).2.2 = true ∧ (rc 3 L).1 = 3 ∧ (rc 3 L).2.1.length = 9 ∧ (∀ x, x ∈ (rc 3 L).2.1 → Dbm.int64 x) ∧ of 3 L = told (rc 3 L).2.1) := by
  have hcl : close 3 L = (match closeL 3 L with | some L' => (3, L', 0) | none => (0, [], 6)) := by unfold close; rw [if_pos h0]; rfl
  unfold of rc
  rw [if_pos h0, if_pos rfl]
  cases hC : closeL 3 L with
  | none =>
    rw [hC] at hcl; rw [hcl]
    left; exact ⟨rfl, rfl⟩
  | some C =>
    rw [hC] at hcl; rw [hcl]
    right
    have clo := close_clo (N := 3) h0 hC
    exact ⟨rfl, rfl, clo.len, Mi.clo_int64 clo, rfl⟩
end Zo
theorem rfullO_any (z : Zn) (w : World) :
    Calls Tryz.prog 123 #[.agg #[.int .i64 z.a, .int .i64 z.b, .int .i64 z.c, .int .i64 z.d, .int .i64 z.e, .int .i64 z.f]] w (Ret w fun v w' => ∃ a' c', v = .agg #[.int .i64 3, .slice a' (Zo.matL z).length c'] ∧ Own TB w.heap.size w' (.slice a' (Zo.matL z).length c') (Zo.matL z)) := by
  refine fun_ret 0 w Tryz.func123 (args := [.agg [.val (.int .i64 z.a), .val (.int .i64 z.b), .val (.int .i64 z.c), .val (.int .i64 z.d), .val (.int .i64 z.e), .val (.int .i64 z.f)]]) rfl rfl ?_
  refine NewI.mk fun b1 hb1 => ?_
  refine NewI.mk fun b2 hb2 => ?_
  refine Need.mk (by decide) ?_
  refine Need.mk (by decide) ?_
  refine Need.mk (by decide) ?_
  refine Need.mk (by decide) ?_
  refine Need.mk (by decide) ?_
  refine Need.mk (by decide) ?_
  refine NewI.mk fun b3 hb3 => ?_
  exact EndI.mk fun w9 h9 => ⟨_, _, rfl, Own.own (l := Zo.matL z) h9 2 rfl rfl rfl hb3 rfl (by simp [maxLen, Zo.matL])⟩
end Go.Proofs.YtodpgcdandechaaGreat

/-
  The document's answer of layer 14: a region's point and zone, by the engine.
-/
namespace Go.Proofs.YtodpgcdandechaaGreat
set_option linter.unusedVariables false
set_option linter.unusedSimpArgs false
set_option maxRecDepth 100000
open Go.RowKit Go.Proofs.YtodpgcdandechaaGreat.Eng Enc

/-- a span whose numbers are no greater than may be. -/
def Sp.fit (s : Sp) : Prop := (-288230376151711744 ≤ s.lo ∧ s.lo ≤ 288230376151711744) ∧ (s.op = true ∨ -288230376151711744 ≤ s.hi ∧ s.hi ≤ 288230376151711744)
theorem rabove_any (s : Sp) (h : s.fit) (w : World) :
    Calls Tryz.prog 119 #[.agg #[.int .i64 s.lo, .bool s.ls, .int .i64 s.hi, .bool s.hs, .bool s.op]] w fun e w' => e = .returned (.int .i64 (Rg.ab s)) ∧ Below w.heap.size w w' := by
  refine fun_eq 0 w Tryz.func119 (args := [.agg [.val (.int .i64 s.lo), .val (.bool s.ls), .val (.int .i64 s.hi), .val (.bool s.hs), .val (.bool s.op)]]) rfl rfl ?_
  refine NewI.mk fun b1 hb1 => ?_
  unfold Rg.ab
  refine Branch.mk (fun hc => ?_) (fun hc => ?_)
  · rw [if_pos hc]
    exact EndI.mk fun w3 h3 => rfl
  · have h2 : -288230376151711744 ≤ s.hi ∧ s.hi ≤ 288230376151711744 := by rcases h.2 with h | h; rw [h] at hc; cases hc; exact h
    rw [if_neg (by rw [hc]; simp)]
    refine CallI.to0 (fun w => rmade_any s.hi s.hs (by omega) (by omega) w) fun w2 => ?_
    exact EndI.mk fun w3 h3 => rfl
theorem rbelow_any (s : Sp) (h : s.fit) (w : World) :
    Calls Tryz.prog 120 #[.agg #[.int .i64 s.lo, .bool s.ls, .int .i64 s.hi, .bool s.hs, .bool s.op]] w fun e w' => e = .returned (.int .i64 (Rg.be s)) ∧ Below w.heap.size w w' := by
  refine fun_eq 0 w Tryz.func120 (args := [.agg [.val (.int .i64 s.lo), .val (.bool s.ls), .val (.int .i64 s.hi), .val (.bool s.hs), .val (.bool s.op)]]) rfl rfl ?_
  have h1 := h.1
  refine NewI.mk fun b1 hb1 => ?_
  refine Need.mk (by simp only [inK]; omega) ?_
  refine CallI.to0 (fun w => rmade_any (0 - s.lo) s.ls (by omega) (by omega) w) fun w2 => ?_
  exact EndI.mk fun w3 h3 => rfl
end Go.Proofs.YtodpgcdandechaaGreat

