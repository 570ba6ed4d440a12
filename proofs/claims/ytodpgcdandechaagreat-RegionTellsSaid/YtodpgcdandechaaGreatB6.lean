/-
  Merged texts of this seat (each with its own head below).
-/
import Derived.Test.YtodpgcdandechaaGreatB5
import Derived.Test.YtodpgcdandechaaGreatB4
import Derived.Test.YtodpgcdandechaaGreatB3
import Derived.Lib.SliceRun
import Derived.Test.YtodpgcdandechaaGreatB1
import Derived.RangeFuncBox
import Derived.RangeFuncBound
import Derived.RangeFuncLeaves
import Derived.Shelf.Abstract
import Derived.WalkKit
import Derived.OwnWalkIn
import Derived.TacticsInMore
import Derived.LoopNIn
import Derived.LoopIn
import Derived.Shelf.SlSortCmp.NoneTotal
import Derived.Ground.SlsfProg
import Derived.Test.YtodpgcdandechaaGreatProg
/-
  The contract of minus.parts: an iterator that writes the zone that it holds; by the engine.
-/
namespace Go.Proofs.YtodpgcdandechaaGreat
set_option linter.unusedVariables false
set_option linter.unusedSimpArgs false
set_option maxRecDepth 100000
open Go.RowKit Go.Proofs.YtodpgcdandechaaGreat.Eng Enc

namespace Mi
/-- what is told, from a place on, of the parts of one zone that are not another one's. -/
def go (b : Zn) : List Nat → Zn → List (Zn × Int)
  | [], _ => []
  | i :: l, a =>
    if (Bd.not (Zo.get b i)).2 ≠ 0 then go b l a
    else (if (wth a (other i) (Bd.not (Zo.get b i)).1).2 = 6 then [] else [wth a (other i) (Bd.not (Zo.get b i)).1]) ++
      (if (wth a i (Zo.get b i)).2 = 6 then [] else (if (wth a i (Zo.get b i)).2 = 0 then [] else [wth a i (Zo.get b i)]) ++ go b l (wth a i (Zo.get b i)).1)
def parts (a b : Zn) : List (Zn × Int) := go b [0, 1, 2, 3, 4, 5] a
theorem go_len (b : Zn) (l : List Nat) (a : Zn) : (go b l a).length ≤ 2 * l.length := by
  induction l generalizing a with
  | nil => simp [go]
  | cons i l ih =>
    have h1 := ih a
    have h2 := ih (wth a i (Zo.get b i)).1
    unfold go
    simp only [List.length_cons]
    split
    · omega
    · rw [List.length_append]
      split <;> split <;> (try split) <;> simp only [List.length_append, List.length_cons, List.length_nil] <;> omega
theorem parts_len (a b : Zn) : (parts a b).length ≤ 12 := go_len b [0, 1, 2, 3, 4, 5] a
theorem drop_six {k : Nat} (h : k < 6) : [0, 1, 2, 3, 4, 5].drop k = k :: [0, 1, 2, 3, 4, 5].drop (k + 1) := by
  have : k = 0 ∨ k = 1 ∨ k = 2 ∨ k = 3 ∨ k = 4 ∨ k = 5 := by omega
  rcases this with rfl | rfl | rfl | rfl | rfl | rfl <;> rfl
/-- a block that holds a zone. -/
def Holds (W : World) (B : Nat) (z : Zn) : Prop := W.heap[B]? = some (.cells #[.int .i64 z.a, .int .i64 z.b, .int .i64 z.c, .int .i64 z.d, .int .i64 z.e, .int .i64 z.f] 39 (0, 0))
theorem Holds.lt {W : World} {B : Nat} {z : Zn} (h : Holds W B z) : B < W.heap.size := (Array.getElem?_eq_some_iff.1 h).1
theorem Holds.cells {W : World} {B : Nat} {z : Zn} (h : Holds W B z) (j : Nat) (c : Value) (hj : [Value.int .i64 z.a, .int .i64 z.b, .int .i64 z.c, .int .i64 z.d, .int .i64 z.e, .int .i64 z.f][j]? = some c) : W.cell? ((⟨B, 0, none⟩ : Addr).add j) = some c := by
  rw [addr_addL, Nat.zero_add]
  have hj6 := (List.getElem?_eq_some_iff.1 hj).1
  simp only [List.length_cons, List.length_nil] at hj6
  have : j = 0 ∨ j = 1 ∨ j = 2 ∨ j = 3 ∨ j = 4 ∨ j = 5 := by omega
  have h' : W.heap[B]? = _ := h
  rcases this with rfl | rfl | rfl | rfl | rfl | rfl <;> (simp at hj; subst hj; simp [World.cell?, h'])
theorem Holds.below {W W' : World} {B : Nat} {z : Zn} (h : Holds W B z) (hB : Below W.heap.size W W') : Holds W' B z := (hB.block B h.lt).trans h
theorem Holds.same {W W' : World} {B : Nat} {z : Zn} (h : Holds W B z) (e : W'.heap[B]? = W.heap[B]?) : Holds W' B z := e.trans h
/-- what a round of the caller's keeps. -/
def KpM (n₀ Ba Bb : Nat) (W W' : World) : Prop := Below n₀ W W' ∧ W'.heap[Ba]? = W.heap[Ba]? ∧ W'.heap[Bb]? = W.heap[Bb]?
def encM (x : Zn × Int) : List Value := [.agg #[.int .i64 x.1.a, .int .i64 x.1.b, .int .i64 x.1.c, .int .i64 x.1.d, .int .i64 x.1.e, .int .i64 x.1.f], .int .i64 x.2]
end Mi
theorem at_grown {w0 : Base} {hp : List LB} {r L : List Nat} {w w1 : World} (h : At w0 hp r L w w1) (hL : ∀ b, b ∈ L → w.heap.size ≤ b) (row : Option Nat) : w.grownBy w1 row :=
  ⟨h.below.os.trans h.base.os.symm, h.below.tape.trans h.base.tape.symm, h.below.output.trans h.base.output.symm, h.size, fun k hk _ => h.step k hk fun hm => by have := hL k hm; omega⟩
theorem at_below {w0 : Base} {hp : List LB} {r L : List Nat} {w w1 : World} (h : At w0 hp r L w w1) (hL : ∀ b, b ∈ L → w.heap.size ≤ b) : Below w.heap.size w w1 :=
  ⟨h.below.os.trans h.base.os.symm, h.below.tape.trans h.base.tape.symm, h.below.output.trans h.base.output.symm, h.size, fun k hk => h.step k hk fun hm => by have := hL k hm; omega⟩
theorem grown_on {X Y Z : World} {row row' : Option Nat} (h : X.grownBy Y row) (k : Below Y.heap.size Y Z) : X.grownBy Z row := grown_from h k
theorem grown_any {X Y : World} (h : X.grownBy Y none) (row : Option Nat) : X.grownBy Y row := ⟨h.os, h.tape, h.output, h.size, fun k hk _ => h.block k hk (fun e => nomatch e)⟩
theorem index_zn (b : Zn) (k : Nat) (hk : k < 6) (w : World) : (Instr.index 39 (.agg #[.int .i64 b.a, .int .i64 b.b, .int .i64 b.c, .int .i64 b.d, .int .i64 b.e, .int .i64 b.f]) (.int .i64 (k : Nat))).run Tryz.prog w = .ok (.int .i64 (Zo.get b k)) w := by
  rcases (by omega : k = 0 ∨ k = 1 ∨ k = 2 ∨ k = 3 ∨ k = 4 ∨ k = 5) with rfl | rfl | rfl | rfl | rfl | rfl <;> kernel_rfl

/-- where the iterator stands: what its two boxes hold, what the caller's rounds have come to. -/
structure Mi.Sit (n₀ Ba Bb : Nat) (W : World) (x b : Zn) (Jp : World → Prop) (X : World) : Prop where
  below : Below n₀ W X
  size : W.heap.size ≤ X.heap.size
  ha : Mi.Holds X Ba x
  hb : Mi.Holds X Bb b
  j : Jp X
section
variable {n₀ Ba Bb : Nat} {W X Y : World} {x b : Zn} {Jp : World → Prop}
open Mi
theorem Mi.Sit.go (h : Sit n₀ Ba Bb W x b Jp X) (hn : n₀ ≤ W.heap.size) (hJ : ∀ A B, Jp A → A.grownBy B (some Ba) → Jp B) (hB : Below X.heap.size X Y) : Sit n₀ Ba Bb W x b Jp Y :=
  ⟨h.below.trans (hB.mono (Nat.le_trans hn h.size)), Nat.le_trans h.size hB.size, h.ha.below hB, h.hb.below hB, hJ _ _ h.j (below_grown hB _)⟩
theorem Mi.Sit.at {w0 : Base} {hp : List LB} {r L : List Nat} (h : Sit n₀ Ba Bb W x b Jp X) (hn : n₀ ≤ W.heap.size) (hJ : ∀ A B, Jp A → A.grownBy B (some Ba) → Jp B) (h1 : At w0 hp r L X Y) (hL : ∀ b, b ∈ L → X.heap.size ≤ b) : Sit n₀ Ba Bb W x b Jp Y :=
  h.go hn hJ (at_below h1 hL)
end

set_option maxHeartbeats 4000000 in
open Mi in
theorem parts_stops (n : Nat) (Ba Bb n₀ : Nat) (a b : Zn) (w : World) (hab : Ba ≠ Bb) (ha0 : n₀ ≤ Ba) (hb0 : n₀ ≤ Bb) (ha : Holds w Ba a) (hb : Holds w Bb b) :
    SeqStopsB n Tryz.prog 292 #[.pointer (some ⟨Bb, 0, none⟩), .pointer (some ⟨Ba, 0, none⟩)] (fun x => (encM x).toArray) (KpM n₀ Ba Bb) (fun xs => xs = parts a b) (fun pre => pre <+: parts a b) 12 Ba n₀ w := fun l J Jx W hW hJ hJx hY h0 => by
  have hsz := hW.size
  have hn0 : n₀ ≤ W.heap.size := by have := ha.lt; omega
  refine (fun_in n n₀ W hn0 Tryz.func292 (args := [.val (.func (.yield l) #[] #[]), .val (.pointer (some ⟨Bb, 0, none⟩)), .val (.pointer (some ⟨Ba, 0, none⟩))]) (R := fun _ W' => (∃ xs, xs = parts a b ∧ J xs W') ∨ (∃ pre, pre <+: parts a b ∧ Jx pre W')) rfl rfl ?_).mono ?_
  case refine_2 =>
    rintro e W' ⟨v, rfl, _, h⟩
    exact ⟨⟨_, rfl⟩, h⟩
  have hbW := hb.below hW
  have haW := ha.below hW
  refine LoadA.mk ⟨[.int .i64 b.a, .int .i64 b.b, .int .i64 b.c, .int .i64 b.d, .int .i64 b.e, .int .i64 b.f], ⟨rfl, by decide, by simp, hbW.cells⟩, ?_⟩
  refine LoopI.invC (α := (Nat × Zn × List (Zn × Int)) × World) (fun y => [(12, .val (.int .i64 y.1.1))]) (fun y => y.2)
    (fun y => y.1.1 ≤ 6 ∧ Below n₀ W y.2 ∧ W.heap.size ≤ y.2.heap.size ∧ Holds y.2 Ba y.1.2.1 ∧ Holds y.2 Bb b ∧ J y.1.2.2 y.2 ∧ y.1.2.2 ++ go b ([0, 1, 2, 3, 4, 5].drop y.1.1) y.1.2.1 = parts a b) (fun y => 6 - y.1.1) ?_ ?_
  · intro w1 h1
    have hg := at_below h1 (by simp)
    exact ⟨((0, a, []), w1), Cov.mk (by repeat' (first | exact trivial | refine And.intro rfl ?_)) rfl rfl rfl rfl rfl, rfl, Nat.zero_le _, h1.below, h1.size, haW.below hg, hbW.below hg, hJ _ _ _ h0 (at_grown h1 (by simp) _), rfl⟩
  rintro ⟨⟨k, x, pre⟩, V⟩ ⟨hk, hV, hVs, hax, hbx, hj, hpre⟩
  simp only at hk hV hVs hax hbx hj hpre
  refine Branch.mk (fun hc => ?_) (fun hc => ?_)
  · have hlt : k < 6 := by have : (k : Int) < 6 := by simpa using hc
                           omega
    rw [drop_six hlt] at hpre
    have sit : Sit n₀ Ba Bb W x b (J pre) V := ⟨hV, hVs, hax, hbx, hj⟩
    refine GenV.to (x := .int .i64 (Zo.get b k)) (fun w => index_zn b k hlt w) fun u0 k0 => ?_
    have sit := sit.at hn0 (hJ pre) k0 (by simp)
    apply CallI.use1
    focus (exact fun w1 h1 => bnot_any (Zo.get b k) w1)
    intro w1 v1 h1 hB1
    have sit := (sit.at hn0 (hJ pre) h1 (by simp)).go hn0 (hJ pre) hB1
    refine Branch.mk (fun hc2 => ?_) (fun hc2 => ?_)
    · have hn : (Bd.not (Zo.get b k)).2 ≠ 0 := by simpa using hc2
      rw [go, if_pos hn] at hpre
      refine Need.mk (by simp only [inK]; omega) (EndI.mk fun w9 h9 => ⟨((k + 1, x, pre), w9), Cov.mk (by repeat' (first | exact trivial | refine And.intro rfl ?_)) rfl rfl rfl rfl rfl, rfl, ?_, by simp only; omega⟩)
      have sit := sit.at hn0 (hJ pre) h9 (by simp)
      exact ⟨hlt, sit.below, sit.size, sit.ha, sit.hb, sit.j, hpre⟩
    have hn : (Bd.not (Zo.get b k)).2 = 0 := by simpa using hc2
    rw [go, if_neg (by simp [hn])] at hpre
    refine DrawI.go (.tk 0 (.tk 1 (.tk 3 (.two 2 (.two 4 (.tk 5 (.tk 6 (.tk 7 (.ev 8 (.ev 9 (.tk 10 .done)))))) 8 (.ev 4 (.tk 5 (.tk 6 (.tk 7 (.ev 9 (.tk 10 .done))))))) 8 (.ev 2 (.ev 4 (.tk 5 (.tk 6 (.tk 7 (.ev 9 (.tk 10 .done))))))))))) (by kernel_rfl) fun w2 h2 => ?_
    have sit := sit.at hn0 (hJ pre) h2 (by simp)
    have S2 := sit
    have hF := Below.refl w2.heap.size w2
    have hBaw2 : Ba < w2.heap.size := sit.ha.lt
    have hBbw2 : Bb < w2.heap.size := sit.hb.lt
    generalize hzz : wth x (other k) (Bd.not (Zo.get b k)).1 = z at *
    generalize hyy : wth x k (Zo.get b k) = y at *
    refine LoadA.mk ⟨[.int .i64 x.a, .int .i64 x.b, .int .i64 x.c, .int .i64 x.d, .int .i64 x.e, .int .i64 x.f], ⟨rfl, by decide, by simp, sit.ha.cells⟩, ?_⟩
    refine Both.mk ?_ ?_
    · skip
      apply CallI.use1
      focus (exact fun w3 h3 => mother_any k hlt w3)
      intro w3 v3 h3 hB3
      have hF := h3.from S2.below hF (fun b hb => by simp at hb <;> omega)
      have hF := hF.trans (hB3.mono hF.size)
      have hXV3 := hF.size
      refine Both.mk ?_ ?_
      · skip
        apply CallI.use1
        focus (exact fun w4 h4 => mwith_any x (other k) (by unfold other; split <;> omega) (Bd.not (Zo.get b k)).1 w4)
        intro w4 v4 h4 hB4
        have hF := h4.from S2.below hF (fun b hb => by simp at hb <;> omega)
        have hF := hF.trans (hB4.mono hF.size)
        have hXV4 := hF.size
        rw [hzz]
        refine NewI.mk fun b1 hb1 => ?_
        have hb1 : v4.heap.size ≤ b1 := hb1
        refine Branch.mk (fun hc3 => ?_) (fun hc3 => ?_)
        · have h6 : ¬ z.2 = 6 := by simpa using hc3
          rw [if_neg h6] at hpre
          refine ⟨fun w5 h5 => ?_⟩
          have hF := h5.from S2.below hF (fun b hb => by simp at hb <;> omega)
          have sit5 := S2.go hn0 (hJ pre) hF
          refine (hY (pre) z w5 sit5.j (by have h12 := congrArg List.length hpre; have := parts_len a b; simp only [List.length_append, List.length_cons] at h12; (try simp only [List.length_append, List.length_cons, List.length_nil]); omega)).mono ?_
          rintro e v5 (⟨rfl, hj5, hk5⟩ | ⟨rfl, hx5, hk5⟩)
          · refine ⟨_, rfl, sit5.below.trans hk5.1, ?_⟩
            have sitX : Sit n₀ Ba Bb W x b (J (pre ++ [z])) v5 := ⟨sit5.below.trans hk5.1, Nat.le_trans sit5.size hk5.1.size, sit5.ha.same hk5.2.1, sit5.hb.same hk5.2.2, hj5⟩
            have hF := Below.refl v5.heap.size v5
            have hBaX := sitX.ha.lt
            have hpre : (pre ++ [z]) ++ _ = parts a b := (List.append_assoc _ _ _).trans hpre
            first | refine Branch.no rfl ?_ | skip
            refine LoadA.mk ⟨[.int .i64 x.a, .int .i64 x.b, .int .i64 x.c, .int .i64 x.d, .int .i64 x.e, .int .i64 x.f], ⟨rfl, by decide, (by simp <;> omega), (sitX.go hn0 (hJ _) hF).ha.cells⟩, ?_⟩
            apply CallI.use1
            focus (exact fun w6 h6 => mwith_any x k hlt (Zo.get b k) w6)
            intro w6 v6 h6 hB6
            have hF := h6.from sitX.below hF (fun b hb => by simp at hb <;> omega)
            have hF := hF.trans (hB6.mono hF.size)
            have hXV := hF.size
            rw [hyy]
            refine NewI.mk fun b2 hb2 => ?_
            have hb2 : v6.heap.size ≤ b2 := hb2
            refine Branch.mk (fun hc4 => ?_) (fun hc4 => ?_)
            · have h6y : y.2 = 6 := by simpa using hc4
              rw [if_pos h6y, List.append_nil] at hpre
              exact EndI.mk fun w9 h9 => .inl ⟨_, rfl, by rw [← hpre]; exact (sitX.go hn0 (hJ _) (h9.from sitX.below hF (fun b hb => by simp at hb <;> omega))).j⟩
            have h6y : ¬ y.2 = 6 := by simpa using hc4
            rw [if_neg h6y] at hpre
            refine Need.mk rfl ?_
            refine ⟨fun w7 h7 => ?_⟩
            have hF7 := h7.from sitX.below hF (fun b hb => by simp at hb <;> omega)
            have sit7 := sitX.go hn0 (hJ _) hF7
            refine ⟨Ba, 0, _, _, rfl, sit7.ha, by simp, ⟨below_setRow (Below.refl _ _) ha0 _, fun b hb => setRow_other _ _ _ _ (by simp at hb <;> omega)⟩, ?_⟩
            generalize hw8 : w7.setRow Ba _ = w8
            have sit8 : Sit n₀ Ba Bb W y.1 b (J (pre ++ [z])) w8 := by
              rw [← hw8]
              exact ⟨below_setRow sit7.below ha0 _, by rw [setRow_size]; exact sit7.size, setRow_heap _ _ _ _ _ _ sit7.ha, (setRow_other _ _ _ _ (fun e => hab e.symm)).trans sit7.hb, hJ _ _ _ sit7.j (grown_setRow _ _ _)⟩
            clear hw8
            refine Branch.mk (fun hc5 => ?_) (fun hc5 => ?_)
            · have h0y : ¬ y.2 = 0 := by simpa using hc5
              rw [if_neg h0y] at hpre
              refine LoadA.mk ⟨[.int .i64 y.1.a, .int .i64 y.1.b, .int .i64 y.1.c, .int .i64 y.1.d, .int .i64 y.1.e, .int .i64 y.1.f], ⟨rfl, by decide, (by simp <;> omega), sit8.ha.cells⟩, ?_⟩
              refine ⟨fun w5 h5 => ?_⟩
              have sit5 := sit8.at hn0 (hJ _) h5 (fun b hb => by simp at hb <;> omega)
              refine (hY (pre ++ [z]) y w5 sit5.j (by have h12 := congrArg List.length hpre; have := parts_len a b; simp only [List.length_append, List.length_cons] at h12; (try simp only [List.length_append, List.length_cons, List.length_nil]); omega)).mono ?_
              rintro e v5 (⟨rfl, hj5, hk5⟩ | ⟨rfl, hx5, hk5⟩)
              · refine ⟨_, rfl, sit5.below.trans hk5.1, ?_⟩
                have sitX : Sit n₀ Ba Bb W y.1 b (J (pre ++ [z] ++ [y])) v5 := ⟨sit5.below.trans hk5.1, Nat.le_trans sit5.size hk5.1.size, sit5.ha.same hk5.2.1, sit5.hb.same hk5.2.2, hj5⟩
                have hF := Below.refl v5.heap.size v5
                have hBaX := sitX.ha.lt
                have hpre : (pre ++ [z] ++ [y]) ++ _ = parts a b := (List.append_assoc _ _ _).trans hpre
                first | refine Branch.no rfl ?_ | skip
                refine Need.mk (by simp only [inK]; omega) (EndI.mk fun w11 h11 => ⟨((k + 1, y.1, pre ++ [z] ++ [y]), w11), Cov.mk (by repeat' (first | exact trivial | refine And.intro rfl ?_)) rfl rfl rfl rfl rfl, rfl, ?_, by simp only; omega⟩)
                have sit11 := sitX.at hn0 (hJ _) h11 (fun b hb => by simp at hb <;> omega)
                exact ⟨hlt, sit11.below, sit11.size, sit11.ha, sit11.hb, sit11.j, by first | exact hpre | (rw [List.append_assoc]; exact hpre)⟩
              · refine ⟨_, rfl, sit5.below.trans hk5, ?_⟩
                first | refine Branch.yes rfl ?_ | skip
                exact EndI.mk fun w9 h9 => .inr ⟨pre ++ [z] ++ [y], ⟨_, (List.append_assoc _ _ _).trans hpre⟩, hJx _ _ _ hx5 (at_grown h9 (by simp) _)⟩
            · have h0y : y.2 = 0 := by simpa using hc5
              rw [if_pos h0y, List.nil_append] at hpre
              first | refine Branch.no rfl ?_ | skip
              refine Need.mk (by simp only [inK]; omega) (EndI.mk fun w11 h11 => ⟨((k + 1, y.1, pre ++ [z]), w11), Cov.mk (by repeat' (first | exact trivial | refine And.intro rfl ?_)) rfl rfl rfl rfl rfl, rfl, ?_, by simp only; omega⟩)
              have sit11 := sit8.at hn0 (hJ _) h11 (fun b hb => by simp at hb <;> omega)
              exact ⟨hlt, sit11.below, sit11.size, sit11.ha, sit11.hb, sit11.j, by first | exact hpre | (rw [List.append_assoc]; exact hpre)⟩
          · refine ⟨_, rfl, sit5.below.trans hk5, ?_⟩
            first | refine Branch.yes rfl ?_ | skip
            exact EndI.mk fun w9 h9 => .inr ⟨pre ++ [z], ⟨_, (List.append_assoc _ _ _).trans hpre⟩, hJx _ _ _ hx5 (at_grown h9 (by simp) _)⟩
        · have h6 : z.2 = 6 := by simpa using hc3
          rw [if_pos h6, List.nil_append] at hpre
          have sitX := S2
          first | refine Branch.no rfl ?_ | skip
          refine LoadA.mk ⟨[.int .i64 x.a, .int .i64 x.b, .int .i64 x.c, .int .i64 x.d, .int .i64 x.e, .int .i64 x.f], ⟨rfl, by decide, (by simp <;> omega), (sitX.go hn0 (hJ _) hF).ha.cells⟩, ?_⟩
          apply CallI.use1
          focus (exact fun w6 h6 => mwith_any x k hlt (Zo.get b k) w6)
          intro w6 v6 h6 hB6
          have hF := h6.from sitX.below hF (fun b hb => by simp at hb <;> omega)
          have hF := hF.trans (hB6.mono hF.size)
          have hXV := hF.size
          rw [hyy]
          refine NewI.mk fun b2 hb2 => ?_
          have hb2 : v6.heap.size ≤ b2 := hb2
          refine Branch.mk (fun hc4 => ?_) (fun hc4 => ?_)
          · have h6y : y.2 = 6 := by simpa using hc4
            rw [if_pos h6y, List.append_nil] at hpre
            exact EndI.mk fun w9 h9 => .inl ⟨_, rfl, by rw [← hpre]; exact (sitX.go hn0 (hJ _) (h9.from sitX.below hF (fun b hb => by simp at hb <;> omega))).j⟩
          have h6y : ¬ y.2 = 6 := by simpa using hc4
          rw [if_neg h6y] at hpre
          refine Need.mk rfl ?_
          refine ⟨fun w7 h7 => ?_⟩
          have hF7 := h7.from sitX.below hF (fun b hb => by simp at hb <;> omega)
          have sit7 := sitX.go hn0 (hJ _) hF7
          refine ⟨Ba, 0, _, _, rfl, sit7.ha, by simp, ⟨below_setRow (Below.refl _ _) ha0 _, fun b hb => setRow_other _ _ _ _ (by simp at hb <;> omega)⟩, ?_⟩
          generalize hw8 : w7.setRow Ba _ = w8
          have sit8 : Sit n₀ Ba Bb W y.1 b (J (pre)) w8 := by
            rw [← hw8]
            exact ⟨below_setRow sit7.below ha0 _, by rw [setRow_size]; exact sit7.size, setRow_heap _ _ _ _ _ _ sit7.ha, (setRow_other _ _ _ _ (fun e => hab e.symm)).trans sit7.hb, hJ _ _ _ sit7.j (grown_setRow _ _ _)⟩
          clear hw8
          refine Branch.mk (fun hc5 => ?_) (fun hc5 => ?_)
          · have h0y : ¬ y.2 = 0 := by simpa using hc5
            rw [if_neg h0y] at hpre
            refine LoadA.mk ⟨[.int .i64 y.1.a, .int .i64 y.1.b, .int .i64 y.1.c, .int .i64 y.1.d, .int .i64 y.1.e, .int .i64 y.1.f], ⟨rfl, by decide, (by simp <;> omega), sit8.ha.cells⟩, ?_⟩
            refine ⟨fun w5 h5 => ?_⟩
            have sit5 := sit8.at hn0 (hJ _) h5 (fun b hb => by simp at hb <;> omega)
            refine (hY (pre) y w5 sit5.j (by have h12 := congrArg List.length hpre; have := parts_len a b; simp only [List.length_append, List.length_cons] at h12; (try simp only [List.length_append, List.length_cons, List.length_nil]); omega)).mono ?_
            rintro e v5 (⟨rfl, hj5, hk5⟩ | ⟨rfl, hx5, hk5⟩)
            · refine ⟨_, rfl, sit5.below.trans hk5.1, ?_⟩
              have sitX : Sit n₀ Ba Bb W y.1 b (J (pre ++ [y])) v5 := ⟨sit5.below.trans hk5.1, Nat.le_trans sit5.size hk5.1.size, sit5.ha.same hk5.2.1, sit5.hb.same hk5.2.2, hj5⟩
              have hF := Below.refl v5.heap.size v5
              have hBaX := sitX.ha.lt
              have hpre : (pre ++ [y]) ++ _ = parts a b := (List.append_assoc _ _ _).trans hpre
              first | refine Branch.no rfl ?_ | skip
              refine Need.mk (by simp only [inK]; omega) (EndI.mk fun w11 h11 => ⟨((k + 1, y.1, pre ++ [y]), w11), Cov.mk (by repeat' (first | exact trivial | refine And.intro rfl ?_)) rfl rfl rfl rfl rfl, rfl, ?_, by simp only; omega⟩)
              have sit11 := sitX.at hn0 (hJ _) h11 (fun b hb => by simp at hb <;> omega)
              exact ⟨hlt, sit11.below, sit11.size, sit11.ha, sit11.hb, sit11.j, by first | exact hpre | (rw [List.append_assoc]; exact hpre)⟩
            · refine ⟨_, rfl, sit5.below.trans hk5, ?_⟩
              first | refine Branch.yes rfl ?_ | skip
              exact EndI.mk fun w9 h9 => .inr ⟨pre ++ [y], ⟨_, (List.append_assoc _ _ _).trans hpre⟩, hJx _ _ _ hx5 (at_grown h9 (by simp) _)⟩
          · have h0y : y.2 = 0 := by simpa using hc5
            rw [if_pos h0y, List.nil_append] at hpre
            first | refine Branch.no rfl ?_ | skip
            refine Need.mk (by simp only [inK]; omega) (EndI.mk fun w11 h11 => ⟨((k + 1, y.1, pre), w11), Cov.mk (by repeat' (first | exact trivial | refine And.intro rfl ?_)) rfl rfl rfl rfl rfl, rfl, ?_, by simp only; omega⟩)
            have sit11 := sit8.at hn0 (hJ _) h11 (fun b hb => by simp at hb <;> omega)
            exact ⟨hlt, sit11.below, sit11.size, sit11.ha, sit11.hb, sit11.j, by first | exact hpre | (rw [List.append_assoc]; exact hpre)⟩
      · skip
        refine NewI.mk fun b1 hb1 => ?_
        have hb1 : v3.heap.size ≤ b1 := hb1
        apply CallI.use1
        focus (exact fun w4 h4 => mwith_any x (other k) (by unfold other; split <;> omega) (Bd.not (Zo.get b k)).1 w4)
        intro w4 v4 h4 hB4
        have hF := h4.from S2.below hF (fun b hb => by simp at hb <;> omega)
        have hF := hF.trans (hB4.mono hF.size)
        have hXV4 := hF.size
        rw [hzz]
        refine Branch.mk (fun hc3 => ?_) (fun hc3 => ?_)
        · have h6 : ¬ z.2 = 6 := by simpa using hc3
          rw [if_neg h6] at hpre
          refine ⟨fun w5 h5 => ?_⟩
          have hF := h5.from S2.below hF (fun b hb => by simp at hb <;> omega)
          have sit5 := S2.go hn0 (hJ pre) hF
          refine (hY (pre) z w5 sit5.j (by have h12 := congrArg List.length hpre; have := parts_len a b; simp only [List.length_append, List.length_cons] at h12; (try simp only [List.length_append, List.length_cons, List.length_nil]); omega)).mono ?_
          rintro e v5 (⟨rfl, hj5, hk5⟩ | ⟨rfl, hx5, hk5⟩)
          · refine ⟨_, rfl, sit5.below.trans hk5.1, ?_⟩
            have sitX : Sit n₀ Ba Bb W x b (J (pre ++ [z])) v5 := ⟨sit5.below.trans hk5.1, Nat.le_trans sit5.size hk5.1.size, sit5.ha.same hk5.2.1, sit5.hb.same hk5.2.2, hj5⟩
            have hF := Below.refl v5.heap.size v5
            have hBaX := sitX.ha.lt
            have hpre : (pre ++ [z]) ++ _ = parts a b := (List.append_assoc _ _ _).trans hpre
            first | refine Branch.no rfl ?_ | skip
            refine LoadA.mk ⟨[.int .i64 x.a, .int .i64 x.b, .int .i64 x.c, .int .i64 x.d, .int .i64 x.e, .int .i64 x.f], ⟨rfl, by decide, (by simp <;> omega), (sitX.go hn0 (hJ _) hF).ha.cells⟩, ?_⟩
            apply CallI.use1
            focus (exact fun w6 h6 => mwith_any x k hlt (Zo.get b k) w6)
            intro w6 v6 h6 hB6
            have hF := h6.from sitX.below hF (fun b hb => by simp at hb <;> omega)
            have hF := hF.trans (hB6.mono hF.size)
            have hXV := hF.size
            rw [hyy]
            refine NewI.mk fun b2 hb2 => ?_
            have hb2 : v6.heap.size ≤ b2 := hb2
            refine Branch.mk (fun hc4 => ?_) (fun hc4 => ?_)
            · have h6y : y.2 = 6 := by simpa using hc4
              rw [if_pos h6y, List.append_nil] at hpre
              exact EndI.mk fun w9 h9 => .inl ⟨_, rfl, by rw [← hpre]; exact (sitX.go hn0 (hJ _) (h9.from sitX.below hF (fun b hb => by simp at hb <;> omega))).j⟩
            have h6y : ¬ y.2 = 6 := by simpa using hc4
            rw [if_neg h6y] at hpre
            refine Need.mk rfl ?_
            refine ⟨fun w7 h7 => ?_⟩
            have hF7 := h7.from sitX.below hF (fun b hb => by simp at hb <;> omega)
            have sit7 := sitX.go hn0 (hJ _) hF7
            refine ⟨Ba, 0, _, _, rfl, sit7.ha, by simp, ⟨below_setRow (Below.refl _ _) ha0 _, fun b hb => setRow_other _ _ _ _ (by simp at hb <;> omega)⟩, ?_⟩
            generalize hw8 : w7.setRow Ba _ = w8
            have sit8 : Sit n₀ Ba Bb W y.1 b (J (pre ++ [z])) w8 := by
              rw [← hw8]
              exact ⟨below_setRow sit7.below ha0 _, by rw [setRow_size]; exact sit7.size, setRow_heap _ _ _ _ _ _ sit7.ha, (setRow_other _ _ _ _ (fun e => hab e.symm)).trans sit7.hb, hJ _ _ _ sit7.j (grown_setRow _ _ _)⟩
            clear hw8
            refine Branch.mk (fun hc5 => ?_) (fun hc5 => ?_)
            · have h0y : ¬ y.2 = 0 := by simpa using hc5
              rw [if_neg h0y] at hpre
              refine LoadA.mk ⟨[.int .i64 y.1.a, .int .i64 y.1.b, .int .i64 y.1.c, .int .i64 y.1.d, .int .i64 y.1.e, .int .i64 y.1.f], ⟨rfl, by decide, (by simp <;> omega), sit8.ha.cells⟩, ?_⟩
              refine ⟨fun w5 h5 => ?_⟩
              have sit5 := sit8.at hn0 (hJ _) h5 (fun b hb => by simp at hb <;> omega)
              refine (hY (pre ++ [z]) y w5 sit5.j (by have h12 := congrArg List.length hpre; have := parts_len a b; simp only [List.length_append, List.length_cons] at h12; (try simp only [List.length_append, List.length_cons, List.length_nil]); omega)).mono ?_
              rintro e v5 (⟨rfl, hj5, hk5⟩ | ⟨rfl, hx5, hk5⟩)
              · refine ⟨_, rfl, sit5.below.trans hk5.1, ?_⟩
                have sitX : Sit n₀ Ba Bb W y.1 b (J (pre ++ [z] ++ [y])) v5 := ⟨sit5.below.trans hk5.1, Nat.le_trans sit5.size hk5.1.size, sit5.ha.same hk5.2.1, sit5.hb.same hk5.2.2, hj5⟩
                have hF := Below.refl v5.heap.size v5
                have hBaX := sitX.ha.lt
                have hpre : (pre ++ [z] ++ [y]) ++ _ = parts a b := (List.append_assoc _ _ _).trans hpre
                first | refine Branch.no rfl ?_ | skip
                refine Need.mk (by simp only [inK]; omega) (EndI.mk fun w11 h11 => ⟨((k + 1, y.1, pre ++ [z] ++ [y]), w11), Cov.mk (by repeat' (first | exact trivial | refine And.intro rfl ?_)) rfl rfl rfl rfl rfl, rfl, ?_, by simp only; omega⟩)
                have sit11 := sitX.at hn0 (hJ _) h11 (fun b hb => by simp at hb <;> omega)
                exact ⟨hlt, sit11.below, sit11.size, sit11.ha, sit11.hb, sit11.j, by first | exact hpre | (rw [List.append_assoc]; exact hpre)⟩
              · refine ⟨_, rfl, sit5.below.trans hk5, ?_⟩
                first | refine Branch.yes rfl ?_ | skip
                exact EndI.mk fun w9 h9 => .inr ⟨pre ++ [z] ++ [y], ⟨_, (List.append_assoc _ _ _).trans hpre⟩, hJx _ _ _ hx5 (at_grown h9 (by simp) _)⟩
            · have h0y : y.2 = 0 := by simpa using hc5
              rw [if_pos h0y, List.nil_append] at hpre
              first | refine Branch.no rfl ?_ | skip
              refine Need.mk (by simp only [inK]; omega) (EndI.mk fun w11 h11 => ⟨((k + 1, y.1, pre ++ [z]), w11), Cov.mk (by repeat' (first | exact trivial | refine And.intro rfl ?_)) rfl rfl rfl rfl rfl, rfl, ?_, by simp only; omega⟩)
              have sit11 := sit8.at hn0 (hJ _) h11 (fun b hb => by simp at hb <;> omega)
              exact ⟨hlt, sit11.below, sit11.size, sit11.ha, sit11.hb, sit11.j, by first | exact hpre | (rw [List.append_assoc]; exact hpre)⟩
          · refine ⟨_, rfl, sit5.below.trans hk5, ?_⟩
            first | refine Branch.yes rfl ?_ | skip
            exact EndI.mk fun w9 h9 => .inr ⟨pre ++ [z], ⟨_, (List.append_assoc _ _ _).trans hpre⟩, hJx _ _ _ hx5 (at_grown h9 (by simp) _)⟩
        · have h6 : z.2 = 6 := by simpa using hc3
          rw [if_pos h6, List.nil_append] at hpre
          have sitX := S2
          first | refine Branch.no rfl ?_ | skip
          refine LoadA.mk ⟨[.int .i64 x.a, .int .i64 x.b, .int .i64 x.c, .int .i64 x.d, .int .i64 x.e, .int .i64 x.f], ⟨rfl, by decide, (by simp <;> omega), (sitX.go hn0 (hJ _) hF).ha.cells⟩, ?_⟩
          apply CallI.use1
          focus (exact fun w6 h6 => mwith_any x k hlt (Zo.get b k) w6)
          intro w6 v6 h6 hB6
          have hF := h6.from sitX.below hF (fun b hb => by simp at hb <;> omega)
          have hF := hF.trans (hB6.mono hF.size)
          have hXV := hF.size
          rw [hyy]
          refine NewI.mk fun b2 hb2 => ?_
          have hb2 : v6.heap.size ≤ b2 := hb2
          refine Branch.mk (fun hc4 => ?_) (fun hc4 => ?_)
          · have h6y : y.2 = 6 := by simpa using hc4
            rw [if_pos h6y, List.append_nil] at hpre
            exact EndI.mk fun w9 h9 => .inl ⟨_, rfl, by rw [← hpre]; exact (sitX.go hn0 (hJ _) (h9.from sitX.below hF (fun b hb => by simp at hb <;> omega))).j⟩
          have h6y : ¬ y.2 = 6 := by simpa using hc4
          rw [if_neg h6y] at hpre
          refine Need.mk rfl ?_
          refine ⟨fun w7 h7 => ?_⟩
          have hF7 := h7.from sitX.below hF (fun b hb => by simp at hb <;> omega)
          have sit7 := sitX.go hn0 (hJ _) hF7
          refine ⟨Ba, 0, _, _, rfl, sit7.ha, by simp, ⟨below_setRow (Below.refl _ _) ha0 _, fun b hb => setRow_other _ _ _ _ (by simp at hb <;> omega)⟩, ?_⟩
          generalize hw8 : w7.setRow Ba _ = w8
          have sit8 : Sit n₀ Ba Bb W y.1 b (J (pre)) w8 := by
            rw [← hw8]
            exact ⟨below_setRow sit7.below ha0 _, by rw [setRow_size]; exact sit7.size, setRow_heap _ _ _ _ _ _ sit7.ha, (setRow_other _ _ _ _ (fun e => hab e.symm)).trans sit7.hb, hJ _ _ _ sit7.j (grown_setRow _ _ _)⟩
          clear hw8
          refine Branch.mk (fun hc5 => ?_) (fun hc5 => ?_)
          · have h0y : ¬ y.2 = 0 := by simpa using hc5
            rw [if_neg h0y] at hpre
            refine LoadA.mk ⟨[.int .i64 y.1.a, .int .i64 y.1.b, .int .i64 y.1.c, .int .i64 y.1.d, .int .i64 y.1.e, .int .i64 y.1.f], ⟨rfl, by decide, (by simp <;> omega), sit8.ha.cells⟩, ?_⟩
            refine ⟨fun w5 h5 => ?_⟩
            have sit5 := sit8.at hn0 (hJ _) h5 (fun b hb => by simp at hb <;> omega)
            refine (hY (pre) y w5 sit5.j (by have h12 := congrArg List.length hpre; have := parts_len a b; simp only [List.length_append, List.length_cons] at h12; (try simp only [List.length_append, List.length_cons, List.length_nil]); omega)).mono ?_
            rintro e v5 (⟨rfl, hj5, hk5⟩ | ⟨rfl, hx5, hk5⟩)
            · refine ⟨_, rfl, sit5.below.trans hk5.1, ?_⟩
              have sitX : Sit n₀ Ba Bb W y.1 b (J (pre ++ [y])) v5 := ⟨sit5.below.trans hk5.1, Nat.le_trans sit5.size hk5.1.size, sit5.ha.same hk5.2.1, sit5.hb.same hk5.2.2, hj5⟩
              have hF := Below.refl v5.heap.size v5
              have hBaX := sitX.ha.lt
              have hpre : (pre ++ [y]) ++ _ = parts a b := (List.append_assoc _ _ _).trans hpre
              first | refine Branch.no rfl ?_ | skip
              refine Need.mk (by simp only [inK]; omega) (EndI.mk fun w11 h11 => ⟨((k + 1, y.1, pre ++ [y]), w11), Cov.mk (by repeat' (first | exact trivial | refine And.intro rfl ?_)) rfl rfl rfl rfl rfl, rfl, ?_, by simp only; omega⟩)
              have sit11 := sitX.at hn0 (hJ _) h11 (fun b hb => by simp at hb <;> omega)
              exact ⟨hlt, sit11.below, sit11.size, sit11.ha, sit11.hb, sit11.j, by first | exact hpre | (rw [List.append_assoc]; exact hpre)⟩
            · refine ⟨_, rfl, sit5.below.trans hk5, ?_⟩
              first | refine Branch.yes rfl ?_ | skip
              exact EndI.mk fun w9 h9 => .inr ⟨pre ++ [y], ⟨_, (List.append_assoc _ _ _).trans hpre⟩, hJx _ _ _ hx5 (at_grown h9 (by simp) _)⟩
          · have h0y : y.2 = 0 := by simpa using hc5
            rw [if_pos h0y, List.nil_append] at hpre
            first | refine Branch.no rfl ?_ | skip
            refine Need.mk (by simp only [inK]; omega) (EndI.mk fun w11 h11 => ⟨((k + 1, y.1, pre), w11), Cov.mk (by repeat' (first | exact trivial | refine And.intro rfl ?_)) rfl rfl rfl rfl rfl, rfl, ?_, by simp only; omega⟩)
            have sit11 := sit8.at hn0 (hJ _) h11 (fun b hb => by simp at hb <;> omega)
            exact ⟨hlt, sit11.below, sit11.size, sit11.ha, sit11.hb, sit11.j, by first | exact hpre | (rw [List.append_assoc]; exact hpre)⟩
    · skip
      refine NewI.mk fun b1 hb1 => ?_
      have hb1 : w2.heap.size ≤ b1 := hb1
      apply CallI.use1
      focus (exact fun w3 h3 => mother_any k hlt w3)
      intro w3 v3 h3 hB3
      have hF := h3.from S2.below hF (fun b hb => by simp at hb <;> omega)
      have hF := hF.trans (hB3.mono hF.size)
      have hXV3 := hF.size
      apply CallI.use1
      focus (exact fun w4 h4 => mwith_any x (other k) (by unfold other; split <;> omega) (Bd.not (Zo.get b k)).1 w4)
      intro w4 v4 h4 hB4
      have hF := h4.from S2.below hF (fun b hb => by simp at hb <;> omega)
      have hF := hF.trans (hB4.mono hF.size)
      have hXV4 := hF.size
      rw [hzz]
      refine Branch.mk (fun hc3 => ?_) (fun hc3 => ?_)
      · have h6 : ¬ z.2 = 6 := by simpa using hc3
        rw [if_neg h6] at hpre
        refine ⟨fun w5 h5 => ?_⟩
        have hF := h5.from S2.below hF (fun b hb => by simp at hb <;> omega)
        have sit5 := S2.go hn0 (hJ pre) hF
        refine (hY (pre) z w5 sit5.j (by have h12 := congrArg List.length hpre; have := parts_len a b; simp only [List.length_append, List.length_cons] at h12; (try simp only [List.length_append, List.length_cons, List.length_nil]); omega)).mono ?_
        rintro e v5 (⟨rfl, hj5, hk5⟩ | ⟨rfl, hx5, hk5⟩)
        · refine ⟨_, rfl, sit5.below.trans hk5.1, ?_⟩
          have sitX : Sit n₀ Ba Bb W x b (J (pre ++ [z])) v5 := ⟨sit5.below.trans hk5.1, Nat.le_trans sit5.size hk5.1.size, sit5.ha.same hk5.2.1, sit5.hb.same hk5.2.2, hj5⟩
          have hF := Below.refl v5.heap.size v5
          have hBaX := sitX.ha.lt
          have hpre : (pre ++ [z]) ++ _ = parts a b := (List.append_assoc _ _ _).trans hpre
          first | refine Branch.no rfl ?_ | skip
          refine LoadA.mk ⟨[.int .i64 x.a, .int .i64 x.b, .int .i64 x.c, .int .i64 x.d, .int .i64 x.e, .int .i64 x.f], ⟨rfl, by decide, (by simp <;> omega), (sitX.go hn0 (hJ _) hF).ha.cells⟩, ?_⟩
          apply CallI.use1
          focus (exact fun w6 h6 => mwith_any x k hlt (Zo.get b k) w6)
          intro w6 v6 h6 hB6
          have hF := h6.from sitX.below hF (fun b hb => by simp at hb <;> omega)
          have hF := hF.trans (hB6.mono hF.size)
          have hXV := hF.size
          rw [hyy]
          refine NewI.mk fun b2 hb2 => ?_
          have hb2 : v6.heap.size ≤ b2 := hb2
          refine Branch.mk (fun hc4 => ?_) (fun hc4 => ?_)
          · have h6y : y.2 = 6 := by simpa using hc4
            rw [if_pos h6y, List.append_nil] at hpre
            exact EndI.mk fun w9 h9 => .inl ⟨_, rfl, by rw [← hpre]; exact (sitX.go hn0 (hJ _) (h9.from sitX.below hF (fun b hb => by simp at hb <;> omega))).j⟩
          have h6y : ¬ y.2 = 6 := by simpa using hc4
          rw [if_neg h6y] at hpre
          refine Need.mk rfl ?_
          refine ⟨fun w7 h7 => ?_⟩
          have hF7 := h7.from sitX.below hF (fun b hb => by simp at hb <;> omega)
          have sit7 := sitX.go hn0 (hJ _) hF7
          refine ⟨Ba, 0, _, _, rfl, sit7.ha, by simp, ⟨below_setRow (Below.refl _ _) ha0 _, fun b hb => setRow_other _ _ _ _ (by simp at hb <;> omega)⟩, ?_⟩
          generalize hw8 : w7.setRow Ba _ = w8
          have sit8 : Sit n₀ Ba Bb W y.1 b (J (pre ++ [z])) w8 := by
            rw [← hw8]
            exact ⟨below_setRow sit7.below ha0 _, by rw [setRow_size]; exact sit7.size, setRow_heap _ _ _ _ _ _ sit7.ha, (setRow_other _ _ _ _ (fun e => hab e.symm)).trans sit7.hb, hJ _ _ _ sit7.j (grown_setRow _ _ _)⟩
          clear hw8
          refine Branch.mk (fun hc5 => ?_) (fun hc5 => ?_)
          · have h0y : ¬ y.2 = 0 := by simpa using hc5
            rw [if_neg h0y] at hpre
            refine LoadA.mk ⟨[.int .i64 y.1.a, .int .i64 y.1.b, .int .i64 y.1.c, .int .i64 y.1.d, .int .i64 y.1.e, .int .i64 y.1.f], ⟨rfl, by decide, (by simp <;> omega), sit8.ha.cells⟩, ?_⟩
            refine ⟨fun w5 h5 => ?_⟩
            have sit5 := sit8.at hn0 (hJ _) h5 (fun b hb => by simp at hb <;> omega)
            refine (hY (pre ++ [z]) y w5 sit5.j (by have h12 := congrArg List.length hpre; have := parts_len a b; simp only [List.length_append, List.length_cons] at h12; (try simp only [List.length_append, List.length_cons, List.length_nil]); omega)).mono ?_
            rintro e v5 (⟨rfl, hj5, hk5⟩ | ⟨rfl, hx5, hk5⟩)
            · refine ⟨_, rfl, sit5.below.trans hk5.1, ?_⟩
              have sitX : Sit n₀ Ba Bb W y.1 b (J (pre ++ [z] ++ [y])) v5 := ⟨sit5.below.trans hk5.1, Nat.le_trans sit5.size hk5.1.size, sit5.ha.same hk5.2.1, sit5.hb.same hk5.2.2, hj5⟩
              have hF := Below.refl v5.heap.size v5
              have hBaX := sitX.ha.lt
              have hpre : (pre ++ [z] ++ [y]) ++ _ = parts a b := (List.append_assoc _ _ _).trans hpre
              first | refine Branch.no rfl ?_ | skip
              refine Need.mk (by simp only [inK]; omega) (EndI.mk fun w11 h11 => ⟨((k + 1, y.1, pre ++ [z] ++ [y]), w11), Cov.mk (by repeat' (first | exact trivial | refine And.intro rfl ?_)) rfl rfl rfl rfl rfl, rfl, ?_, by simp only; omega⟩)
              have sit11 := sitX.at hn0 (hJ _) h11 (fun b hb => by simp at hb <;> omega)
              exact ⟨hlt, sit11.below, sit11.size, sit11.ha, sit11.hb, sit11.j, by first | exact hpre | (rw [List.append_assoc]; exact hpre)⟩
            · refine ⟨_, rfl, sit5.below.trans hk5, ?_⟩
              first | refine Branch.yes rfl ?_ | skip
              exact EndI.mk fun w9 h9 => .inr ⟨pre ++ [z] ++ [y], ⟨_, (List.append_assoc _ _ _).trans hpre⟩, hJx _ _ _ hx5 (at_grown h9 (by simp) _)⟩
          · have h0y : y.2 = 0 := by simpa using hc5
            rw [if_pos h0y, List.nil_append] at hpre
            first | refine Branch.no rfl ?_ | skip
            refine Need.mk (by simp only [inK]; omega) (EndI.mk fun w11 h11 => ⟨((k + 1, y.1, pre ++ [z]), w11), Cov.mk (by repeat' (first | exact trivial | refine And.intro rfl ?_)) rfl rfl rfl rfl rfl, rfl, ?_, by simp only; omega⟩)
            have sit11 := sit8.at hn0 (hJ _) h11 (fun b hb => by simp at hb <;> omega)
            exact ⟨hlt, sit11.below, sit11.size, sit11.ha, sit11.hb, sit11.j, by first | exact hpre | (rw [List.append_assoc]; exact hpre)⟩
        · refine ⟨_, rfl, sit5.below.trans hk5, ?_⟩
          first | refine Branch.yes rfl ?_ | skip
          exact EndI.mk fun w9 h9 => .inr ⟨pre ++ [z], ⟨_, (List.append_assoc _ _ _).trans hpre⟩, hJx _ _ _ hx5 (at_grown h9 (by simp) _)⟩
      · have h6 : z.2 = 6 := by simpa using hc3
        rw [if_pos h6, List.nil_append] at hpre
        have sitX := S2
        first | refine Branch.no rfl ?_ | skip
        refine LoadA.mk ⟨[.int .i64 x.a, .int .i64 x.b, .int .i64 x.c, .int .i64 x.d, .int .i64 x.e, .int .i64 x.f], ⟨rfl, by decide, (by simp <;> omega), (sitX.go hn0 (hJ _) hF).ha.cells⟩, ?_⟩
        apply CallI.use1
        focus (exact fun w6 h6 => mwith_any x k hlt (Zo.get b k) w6)
        intro w6 v6 h6 hB6
        have hF := h6.from sitX.below hF (fun b hb => by simp at hb <;> omega)
        have hF := hF.trans (hB6.mono hF.size)
        have hXV := hF.size
        rw [hyy]
        refine NewI.mk fun b2 hb2 => ?_
        have hb2 : v6.heap.size ≤ b2 := hb2
        refine Branch.mk (fun hc4 => ?_) (fun hc4 => ?_)
        · have h6y : y.2 = 6 := by simpa using hc4
          rw [if_pos h6y, List.append_nil] at hpre
          exact EndI.mk fun w9 h9 => .inl ⟨_, rfl, by rw [← hpre]; exact (sitX.go hn0 (hJ _) (h9.from sitX.below hF (fun b hb => by simp at hb <;> omega))).j⟩
        have h6y : ¬ y.2 = 6 := by simpa using hc4
        rw [if_neg h6y] at hpre
        refine Need.mk rfl ?_
        refine ⟨fun w7 h7 => ?_⟩
        have hF7 := h7.from sitX.below hF (fun b hb => by simp at hb <;> omega)
        have sit7 := sitX.go hn0 (hJ _) hF7
        refine ⟨Ba, 0, _, _, rfl, sit7.ha, by simp, ⟨below_setRow (Below.refl _ _) ha0 _, fun b hb => setRow_other _ _ _ _ (by simp at hb <;> omega)⟩, ?_⟩
        generalize hw8 : w7.setRow Ba _ = w8
        have sit8 : Sit n₀ Ba Bb W y.1 b (J (pre)) w8 := by
          rw [← hw8]
          exact ⟨below_setRow sit7.below ha0 _, by rw [setRow_size]; exact sit7.size, setRow_heap _ _ _ _ _ _ sit7.ha, (setRow_other _ _ _ _ (fun e => hab e.symm)).trans sit7.hb, hJ _ _ _ sit7.j (grown_setRow _ _ _)⟩
        clear hw8
        refine Branch.mk (fun hc5 => ?_) (fun hc5 => ?_)
        · have h0y : ¬ y.2 = 0 := by simpa using hc5
          rw [if_neg h0y] at hpre
          refine LoadA.mk ⟨[.int .i64 y.1.a, .int .i64 y.1.b, .int .i64 y.1.c, .int .i64 y.1.d, .int .i64 y.1.e, .int .i64 y.1.f], ⟨rfl, by decide, (by simp <;> omega), sit8.ha.cells⟩, ?_⟩
          refine ⟨fun w5 h5 => ?_⟩
          have sit5 := sit8.at hn0 (hJ _) h5 (fun b hb => by simp at hb <;> omega)
          refine (hY (pre) y w5 sit5.j (by have h12 := congrArg List.length hpre; have := parts_len a b; simp only [List.length_append, List.length_cons] at h12; (try simp only [List.length_append, List.length_cons, List.length_nil]); omega)).mono ?_
          rintro e v5 (⟨rfl, hj5, hk5⟩ | ⟨rfl, hx5, hk5⟩)
          · refine ⟨_, rfl, sit5.below.trans hk5.1, ?_⟩
            have sitX : Sit n₀ Ba Bb W y.1 b (J (pre ++ [y])) v5 := ⟨sit5.below.trans hk5.1, Nat.le_trans sit5.size hk5.1.size, sit5.ha.same hk5.2.1, sit5.hb.same hk5.2.2, hj5⟩
            have hF := Below.refl v5.heap.size v5
            have hBaX := sitX.ha.lt
            have hpre : (pre ++ [y]) ++ _ = parts a b := (List.append_assoc _ _ _).trans hpre
            first | refine Branch.no rfl ?_ | skip
            refine Need.mk (by simp only [inK]; omega) (EndI.mk fun w11 h11 => ⟨((k + 1, y.1, pre ++ [y]), w11), Cov.mk (by repeat' (first | exact trivial | refine And.intro rfl ?_)) rfl rfl rfl rfl rfl, rfl, ?_, by simp only; omega⟩)
            have sit11 := sitX.at hn0 (hJ _) h11 (fun b hb => by simp at hb <;> omega)
            exact ⟨hlt, sit11.below, sit11.size, sit11.ha, sit11.hb, sit11.j, by first | exact hpre | (rw [List.append_assoc]; exact hpre)⟩
          · refine ⟨_, rfl, sit5.below.trans hk5, ?_⟩
            first | refine Branch.yes rfl ?_ | skip
            exact EndI.mk fun w9 h9 => .inr ⟨pre ++ [y], ⟨_, (List.append_assoc _ _ _).trans hpre⟩, hJx _ _ _ hx5 (at_grown h9 (by simp) _)⟩
        · have h0y : y.2 = 0 := by simpa using hc5
          rw [if_pos h0y, List.nil_append] at hpre
          first | refine Branch.no rfl ?_ | skip
          refine Need.mk (by simp only [inK]; omega) (EndI.mk fun w11 h11 => ⟨((k + 1, y.1, pre), w11), Cov.mk (by repeat' (first | exact trivial | refine And.intro rfl ?_)) rfl rfl rfl rfl rfl, rfl, ?_, by simp only; omega⟩)
          have sit11 := sit8.at hn0 (hJ _) h11 (fun b hb => by simp at hb <;> omega)
          exact ⟨hlt, sit11.below, sit11.size, sit11.ha, sit11.hb, sit11.j, by first | exact hpre | (rw [List.append_assoc]; exact hpre)⟩
  · refine EndI.mk fun w9 h9 => .inl ⟨parts a b, rfl, ?_⟩
    have h6 : k = 6 := by have : ¬ (k : Int) < 6 := by simpa using hc
                          omega
    subst h6
    simp only [List.drop, go, List.append_nil] at hpre
    rw [← hpre]
    exact hJ _ _ _ hj (at_grown h9 (by simp) _)
end Go.Proofs.YtodpgcdandechaaGreat

/-
  The contract of minus.Minus, by the engine.
-/
namespace Go.Proofs.YtodpgcdandechaaGreat
set_option linter.unusedVariables false
set_option linter.unusedSimpArgs false
set_option maxRecDepth 100000
open Go.RowKit Go.Proofs.YtodpgcdandechaaGreat.Eng Enc

namespace Mi
def minus (a b : Zn) : List Zn × Int :=
  if Zo.chk a = 0 ∧ Zo.chk b = 0 then (match (parts a b).find? (fun x => decide (x.2 ≠ 0)) with | some x => ([], x.2) | none => ((parts a b).map (·.1), 0)) else ([], 8)
end Mi
theorem parts_at (a b : Zn) (w : World) :
    Calls Tryz.prog 281 #[.agg #[.int .i64 a.a, .int .i64 a.b, .int .i64 a.c, .int .i64 a.d, .int .i64 a.e, .int .i64 a.f], .agg #[.int .i64 b.a, .int .i64 b.b, .int .i64 b.c, .int .i64 b.d, .int .i64 b.e, .int .i64 b.f]] w fun e w' => e = .returned (.func (.func 292) #[] #[.pointer (some ⟨w.heap.size + 1, 0, none⟩), .pointer (some ⟨w.heap.size, 0, none⟩)]) ∧ w' = (w.alloc (.cells #[.int .i64 a.a, .int .i64 a.b, .int .i64 a.c, .int .i64 a.d, .int .i64 a.e, .int .i64 a.f] 39)).alloc (.cells #[.int .i64 b.a, .int .i64 b.b, .int .i64 b.c, .int .i64 b.d, .int .i64 b.e, .int .i64 b.f] 39) := by
  go_enter Tryz.func281, Tryz.ntmps281
  go_wp2
  go_ret
  exact ⟨by simp, rfl⟩
open Mi in
theorem parts_any (a b : Zn) (w : World) :
    Calls Tryz.prog 281 #[.agg #[.int .i64 a.a, .int .i64 a.b, .int .i64 a.c, .int .i64 a.d, .int .i64 a.e, .int .i64 a.f], .agg #[.int .i64 b.a, .int .i64 b.b, .int .i64 b.c, .int .i64 b.d, .int .i64 b.e, .int .i64 b.f]] w (Ret w fun v w' => ∃ Ba Bb, v = .func (.func 292) #[] #[.pointer (some ⟨Bb, 0, none⟩), .pointer (some ⟨Ba, 0, none⟩)] ∧ w.heap.size ≤ Ba ∧ w.heap.size ≤ Bb ∧ Ba ≠ Bb ∧ Holds w' Ba a ∧ Holds w' Bb b) :=
  (parts_at a b w).mono fun e w' ⟨he, hw⟩ => ⟨_, he, by rw [hw]; exact ((Below.refl _ _).alloc (Nat.le_refl _) _).alloc (by simp) _, w.heap.size, w.heap.size + 1, rfl, Nat.le_refl _, by omega, by omega, by
    rw [hw]; exact (Below.heap_alloc _ _ _ (by simp)).trans (World.alloc_heap_new w _), by
    rw [hw]
    have := World.alloc_heap_new (w.alloc (.cells #[.int .i64 a.a, .int .i64 a.b, .int .i64 a.c, .int .i64 a.d, .int .i64 a.e, .int .i64 a.f] 39)) (.cells #[.int .i64 b.a, .int .i64 b.b, .int .i64 b.c, .int .i64 b.d, .int .i64 b.e, .int .i64 b.f] 39)
    rwa [World.size_alloc] at this⟩
open Mi in
theorem minus_any (a b : Zn) (w : World) :
    Calls Tryz.prog 254 #[.agg #[.int .i64 a.a, .int .i64 a.b, .int .i64 a.c, .int .i64 a.d, .int .i64 a.e, .int .i64 a.f], .agg #[.int .i64 b.a, .int .i64 b.b, .int .i64 b.c, .int .i64 b.d, .int .i64 b.e, .int .i64 b.f]] w (Ret w fun v w' => ∃ a' c', v = .tuple #[.slice a' (Mi.minus a b).1.length c', .int .i64 (Mi.minus a b).2] ∧ Own 39 w.heap.size w' (.slice a' (Mi.minus a b).1.length c') (Mi.minus a b).1) := by
  refine fun_at 9 w.heap.size w (Nat.le_refl _) Tryz.func254 (args := [.agg [.val (.int .i64 a.a), .val (.int .i64 a.b), .val (.int .i64 a.c), .val (.int .i64 a.d), .val (.int .i64 a.e), .val (.int .i64 a.f)], .agg [.val (.int .i64 b.a), .val (.int .i64 b.b), .val (.int .i64 b.c), .val (.int .i64 b.d), .val (.int .i64 b.e), .val (.int .i64 b.f)]]) rfl rfl ?_
  refine NewI.mk fun b1 hb1 => ?_
  refine NewI.mk fun b2 hb2 => ?_
  refine NewI.mk fun b3 hb3 => ?_
  refine NewI.mk fun b4 hb4 => ?_
  unfold Mi.minus
  have st := Stay.first (w := w)
  apply CallI.use1
  focus (exact fun w1 h1 => zcheck_any a w1)
  intro w1 v1 h1 hB1
  have st := st.next h1 (fun x hx => by simp at hx <;> omega) hB1
  refine Branch.mk (fun hc => ?_) (fun hc => ?_)
  · have h0 : ¬ Zo.chk a = 0 := by simpa using hc
    rw [if_neg (fun h => h0 h.1)]
    exact EndI.mk fun w9 h9 => ⟨_, _, rfl, Own.nil⟩
  have h0a : Zo.chk a = 0 := by simpa using hc
  apply CallI.use1
  focus (exact fun w2 h2 => zcheck_any b w2)
  intro w2 v2 h2 hB2
  have st := st.next h2 (fun x hx => by simp at hx <;> omega) hB2
  refine Branch.mk (fun hc2 => ?_) (fun hc2 => ?_)
  · have h0 : ¬ Zo.chk b = 0 := by simpa using hc2
    rw [if_neg (fun h => h0 h.2)]
    exact EndI.mk fun w9 h9 => ⟨_, _, rfl, Own.nil⟩
  have h0b : Zo.chk b = 0 := by simpa using hc2
  rw [if_pos ⟨h0a, h0b⟩]
  apply CallI.use
  focus (exact fun w3 h3 => parts_any a b w3)
  rintro v w3 v3 h3 hB3 ⟨Ba, Bb, rfl, hBa, hBb, hab, hha, hhb⟩
  have st := st.next h3 (fun x hx => by simp at hx <;> omega) hB3
  have hBv := hB3.size
  have e4 : w.heap.size ≤ b4 := hb4
  have lb : ∀ b, b ∈ [b1, b2, b3, b4] → b < w3.heap.size := fun b hb => h3.lt b hb
  have hw3 : w.heap.size ≤ w3.heap.size := h3.below.size
  refine RawI.mk fun ac w7 hR => ?_
  have h7 := hR.at_
  have hha7 := hha.below (at_below h7 (by simp))
  have hhb7 := hhb.below (at_below h7 (by simp))
  have hlA := hha7.lt
  have hlB := hhb7.lt
  have hv7 : v3.heap.size ≤ w7.heap.size := h7.size
  have lb7 : ∀ b, b ∈ [b1, b2, b3, b4] → b < w7.heap.size ∧ b ≠ Ba ∧ b ≠ Bb := fun b hb => by have := lb b hb; omega
  refine rangeBu cxOk (by decide) hR rfl Tryz.call292 (parts_stops 8 Ba Bb w.heap.size a b w7 hab (by omega) (by omega) hha7 hhb7) (encs := encM) hlA (by show w.heap.size ≤ Ba; omega) (fun hm => (lb7 Ba hm).2.1 rfl)
    (fun h k => ⟨h.1.trans k.1, k.2.1.trans h.2.1, k.2.2.trans h.2.2⟩) ?_ (fun x => rfl)
    (γ := Value × Int) (fun c => [⟨[.val (.int .i64 a.a), .val (.int .i64 a.b), .val (.int .i64 a.c), .val (.int .i64 a.d), .val (.int .i64 a.e), .val (.int .i64 a.f)], 39⟩, ⟨[.val (.int .i64 b.a), .val (.int .i64 b.b), .val (.int .i64 b.c), .val (.int .i64 b.d), .val (.int .i64 b.e), .val (.int .i64 b.f)], 39⟩, ⟨[.val c.1], 45⟩, ⟨[.val (.int .i64 0)], 26⟩])
    (fun (pre : List (Zn × Int)) (c : Value × Int) W => (∀ x : Zn × Int, x ∈ pre → x.2 = 0) ∧ Own 39 w7.heap.size W c.1 (pre.map (·.1))) ?_ (.slice none 0 0, 0) rfl ⟨by simp, Own.nil⟩
    (fun (c : Code) (pre : List (Zn × Int)) (q : Value × Int) (W : World) => c = .ret ∧ ∃ (pre0 : List (Zn × Int)) (x : Zn × Int), pre = pre0 ++ [x] ∧ (∀ y : Zn × Int, y ∈ pre0 → y.2 = 0) ∧ x.2 ≠ 0 ∧ q.2 = x.2)
    (fun _ q => [⟨[.val (.int .i64 a.a), .val (.int .i64 a.b), .val (.int .i64 a.c), .val (.int .i64 a.d), .val (.int .i64 a.e), .val (.int .i64 a.f)], 39⟩, ⟨[.val (.int .i64 b.a), .val (.int .i64 b.b), .val (.int .i64 b.c), .val (.int .i64 b.d), .val (.int .i64 b.e), .val (.int .i64 b.f)], 39⟩, ⟨[.val (.slice none 0 0)], 45⟩, ⟨[.val (.int .i64 q.2)], 26⟩])
    (fun c q pre A B row h hg hr => h) (fun z => [(6, .loc 4 0), (7, .val (.int .i64 z.2))]) (fun z => [⟨[.val (.int .i64 z.1.a), .val (.int .i64 z.1.b), .val (.int .i64 z.1.c), .val (.int .i64 z.1.d), .val (.int .i64 z.1.e), .val (.int .i64 z.1.f)], 39⟩]) (fun c bs => ∀ k, c.1.ownBlock = some k → k ∉ bs) ?asg ?body ?done ?stop
  case asg =>
    intro l pre z c W hΦ hBW hsW hN
    refine NewI.mk fun b5 hb5 => ?_
    refine ⟨rfl, [b5], rfl, fun k hk hm => by have := hΦ.2.lt k hk; have hb5 : W.heap.size ≤ b5 := hb5; simp at hm; omega, Need.mk ⟨rfl, rfl, rfl, rfl⟩ (EndI.mk fun w9 h9 => ?_)⟩
    have hg := at_below h9 (fun b hb => by simp at hb; subst hb; exact hb5)
    exact ⟨below_keepsFrom hg _, ⟨hg.mono (by omega), hg.block _ (by omega), hg.block _ (by omega)⟩, hΦ.1, hΦ.2.below hg⟩
  · exact fun W l o o' hl ho h1 h2 => ⟨⟨rfl, rfl, rfl, by simp, fun k hk => World.putObj_heap_other (by omega)⟩, World.putObj_heap_other (by omega), World.putObj_heap_other (by omega)⟩
  · rintro c pre A C row ⟨hz, hO⟩ hg hr
    refine ⟨hz, Own.kept hO hg ?_⟩
    obtain ⟨_, ⟨e, _⟩ | ⟨g, cp, cur, e, hbg, hgb, _⟩⟩ := id hO
    · rw [e]; exact .inl rfl
    · rw [e]
      refine .inr (fun e' => ?_)
      rcases hr g e'.symm with h | ⟨_, o, ho, hcl⟩
      · omega
      · rw [hgb] at ho; cases ho; cases hcl
  case body =>
    intro l pre x c bs W hbs hψ hΦ hBW hsW hN
    obtain ⟨b5, rfl⟩ := List.length_eq_one_iff.1 hbs
    obtain ⟨hz, hO⟩ := hΦ
    refine Branch.mk (fun hc3 => ?_) (fun hc3 => ?_)
    · have hx : x.2 ≠ 0 := by simpa using hc3
      refine ⟨(c.1, x.2), Need.mk (CovH.mk rfl rfl rfl) (EndI.mk fun w9 h9 => ?_)⟩
      refine ⟨⟨h9.size, fun k o hk ho hcl => (h9.step k (Array.getElem?_eq_some_iff.1 ho).1 (fun hm => ?_)).trans ho⟩, rfl, pre, x, rfl, hz, hx, rfl⟩
      have := lb7 b3 (by simp)
      have := lb7 b4 (by simp)
      simp at hm
      omega
    · have hx : x.2 = 0 := by simpa using hc3
      refine NewI.mk fun b6 hb6 => ?_
      have hb6' : W.heap.size ≤ b6 := hb6
      have hpl := parts_len a b
      have l3 := lb7 b3 (by simp)
      have hr : ∀ k, c.1.ownBlock = some k → w.heap.size ≤ k ∧ k ∉ [b1, b2, b3, b4, b5, b6] := fun k hk => by
        have hkk := hO.lt k hk
        have h5 := hψ k hk
        have m1 := lb7 b1 (by simp)
        have m2 := lb7 b2 (by simp)
        have m4 := lb7 b4 (by simp)
        simp at h5
        refine ⟨by omega, fun hm => ?_⟩
        simp only [List.mem_cons, List.not_mem_nil, or_false] at hm
        omega
      refine GenN.app (α := Zn) elZ (pre.map (·.1)) [x.1] w7.heap.size (fun w5 h5 => hO.below h5.go) (fun w5 h5 => src_own h5 5 rfl rfl rfl rfl) (by unfold maxLen; simp; omega) (by simp; omega) (fun w5 h5 => Nat.le_trans hsW h5.size)
        (fun w5 w6 h5 hg => keep_grown h5 hg hr) fun sv' w5 w6 h5 hg hO' => ?_
      obtain ⟨a', c', rfl⟩ := hO'.form
      refine ⟨(.slice a' ((pre.map (·.1)) ++ [x.1]).length c', 0), ?_⟩
      refine Need.mk (CovH.mk rfl rfl rfl) (EndI.mk fun w9 h9 => ?_)
      have hW9 : W.heap.size ≤ w9.heap.size := Nat.le_trans h5.size (Nat.le_trans hg.size h9.size)
      have row : ∀ k, k < w7.heap.size → c.1.ownBlock ≠ some k := fun k hk e => by have := hO.lt k e; omega
      have keep1 : ∀ k, k < W.heap.size → k ≠ b3 → c.1.ownBlock ≠ some k → w9.heap[k]? = W.heap[k]? := fun k hkW h3 hrow => by
        refine (h9.step k (Nat.lt_of_lt_of_le hkW (Nat.le_trans h5.size hg.size)) (fun hm => ?_)).trans ((hg.block k (Nat.lt_of_lt_of_le hkW h5.size) (fun e => hrow e.symm)).trans (h5.go.block k hkW))
        simp at hm; omega
      refine ⟨⟨hW9, fun k o hk7 hk hcl => ?_⟩, ⟨?_, ?_, ?_⟩, ?_, ?_⟩
      · have hkW : k < W.heap.size := (Array.getElem?_eq_some_iff.1 hk).1
        refine (keep1 k hkW (by omega) (fun e => ?_)).trans hk
        obtain ⟨_, ⟨e0, _⟩ | ⟨g, cp, cur, e0, _, hgb, _⟩⟩ := id hO
        · rw [e0] at e; cases e
        · rw [e0] at e
          injection e with e
          subst e
          rw [hgb] at hk; cases hk; cases hcl
      · exact below_between (X := w) hBW (by exact h9.below) hW9
      · exact keep1 Ba (by omega) (by have := lb7 b3 (by simp); omega) (row Ba hlA)
      · exact keep1 Bb (by omega) (by have := lb7 b3 (by simp); omega) (row Bb hlB)
      · intro y hy
        rcases List.mem_append.1 hy with hy | hy
        · exact hz y hy
        · rw [List.mem_singleton.1 hy]; exact hx
      · have e1 : (pre ++ [x]).map (·.1) = pre.map (·.1) ++ [x.1] := by simp
        rw [e1]
        exact hO'.at h9 (fun b hb => by simp at hb; subst hb; exact l3.1)
  case done =>
    rintro D xs c W hD hSx ⟨hz, hO⟩ hmark
    subst hSx
    have hDW : D < W.heap.size := (Array.getElem?_eq_some_iff.1 hmark).1
    have hf : (parts a b).find? (fun x => decide (x.2 ≠ 0)) = none := List.find?_eq_none.2 fun x hx => by simp [hz x hx]
    rw [hf]
    obtain ⟨a', c', hcc⟩ := hO.form
    obtain ⟨c1, c2⟩ := c
    simp only at hO hcc
    subst hcc
    have l3 := lb7 b3 (by simp)
    have l4 := lb7 b4 (by simp)
    have hDb : D ∉ [b4, b3] := fun hm => by simp at hm; omega
    refine EndM.mk fun w10 h10 => ⟨⟨Nat.le_trans (show w.heap.size ≤ w7.heap.size by omega) hD, (h10.step D hDW hDb).trans hmark⟩, fun w11 hu => ?_⟩
    have hO10 := hO.at h10 (fun b hb => by simp at hb; omega)
    refine ⟨_, _, rfl, (Own.kept (row := some D) hO10 ⟨hu.2.1, hu.2.2.1, hu.2.2.2.1, by rw [hu.1]; exact Nat.le_refl _, fun k _ hk => hu.2.2.2.2 k (fun e => hk (by rw [e]))⟩ ?_).lower (by omega)⟩
    obtain ⟨_, ⟨e, _⟩ | ⟨g, cp, cur, e, _, hgb, _⟩⟩ := id hO10
    · rw [e]; exact .inl rfl
    · rw [e]
      refine .inr (fun e' => ?_)
      injection e' with e'
      subst e'
      have := (h10.step _ hDW hDb).trans hmark
      rw [hgb] at this; cases this
  case stop =>
    rintro D cd e pre q W hD hSp ⟨rfl, pre0, x, rfl, hz, hx, hq⟩ hex hmark
    have hDW : D < W.heap.size := (Array.getElem?_eq_some_iff.1 hmark).1
    obtain ⟨t, ht⟩ := hSp
    have hf : (parts a b).find? (fun x => decide (x.2 ≠ 0)) = some x := by
      rw [← ht, List.append_assoc, List.find?_append, List.find?_eq_none.2 (fun y hy => by simp [hz y hy])]
      simp [hx]
    rw [hf]
    injection hex with hex
    subst hex
    refine EndM.mk fun w10 h10 => ⟨⟨Nat.le_trans (show w.heap.size ≤ w7.heap.size by omega) hD, (h10.step D hDW (by simp)).trans hmark⟩, fun w11 hu => ?_⟩
    exact ⟨_, _, by rw [hq]; rfl, Own.nil⟩
end Go.Proofs.YtodpgcdandechaaGreat

/-
  The contract of minus.Left, by the engine.
-/
namespace Go.Proofs.YtodpgcdandechaaGreat
set_option linter.unusedVariables false
set_option linter.unusedSimpArgs false
set_option maxRecDepth 100000
open Go.RowKit Go.Proofs.YtodpgcdandechaaGreat.Eng Enc

namespace Mi
/-- those of some zones that are not one's, behind those that there are. -/
def inner (b : Zn) : List Zn → List Zn → List Zn × Int
  | [], next => (next, 0)
  | z :: t, next => if (minus z b).2 ≠ 0 then ([], (minus z b).2) else if 4096 < (next ++ (minus z b).1).length then ([], 4) else inner b t (next ++ (minus z b).1)
def outer : List Zn → List Zn → List Zn × Int
  | [], out => (out, 0)
  | b :: l, out => if (inner b out []).2 ≠ 0 then ([], (inner b out []).2) else outer l (inner b out []).1
def left (a : Zn) (l : List Zn) : List Zn × Int :=
  if Zo.chk a ≠ 0 then ([], 8) else if l.any (fun b => decide (Zo.chk b ≠ 0)) = true then ([], 8) else outer l [a]
theorem inner_cons (b z : Zn) (t next : List Zn) : inner b (z :: t) next = if (minus z b).2 ≠ 0 then ([], (minus z b).2) else if 4096 < (next ++ (minus z b).1).length then ([], 4) else inner b t (next ++ (minus z b).1) := rfl
theorem outer_cons (b : Zn) (l out : List Zn) : outer (b :: l) out = if (inner b out []).2 ≠ 0 then ([], (inner b out []).2) else outer l (inner b out []).1 := rfl
theorem minus_len (a b : Zn) : (minus a b).1.length ≤ 12 := by
  unfold minus
  split
  · split
    · simp
    · simp; exact parts_len a b
  · simp
end Mi
section
variable {α : Type} [Enc α] {w0 : Base} {l : List World} {hp : List LB} {r r0 L : List Nat} {w w1 w2 : World} {e : TypeId} {base : Nat} {v sv : Value} {xs : List α}
/-- a list that is lengthened, told by its row alone. -/
theorem GenN.appR {P : Program} {K : Value → World → Prop} {t ty : TypeId} {bytes : Nat} {consts : Array Bool} (hE : ElOk P t e (size α) bytes) (lp : Lp w0 l r0 e base w v xs) (hr : ∀ k, v.ownBlock = some k → k ∉ r) (hL : ∀ b, b ∈ L → w.heap.size ≤ b)
    (ms : List α) (hsrc : ∀ w1, At w0 hp r L w w1 → SrcC w1 sv (size α) ms.length (cellsL ms)) (h63 : xs.length + ms.length ≤ 1000000) (hby : bytes ≤ 1000000)
    (hk : ∀ a' c' w5 w6, At w0 hp r L w w5 → Lp w0 l r0 e base w6 (.slice a' (xs ++ ms).length c') (xs ++ ms) → w5.heap.size ≤ w6.heap.size → (∀ k, k < w5.heap.size → k < base ∨ w.heap.size ≤ k → w6.heap[k]? = w5.heap[k]?) → K (.slice a' (xs ++ ms).length c') w6) :
    GenN P w0 (Keep w0) (builtin .append #[t, t] ty consts #[v, sv]) hp r L w K := by
  have hLp : ∀ w1, At w0 hp r L w w1 → Lp w0 l r0 e base w1 v xs := fun w1 h1 => lp.at h1 fun b hb => .inl (hL b hb)
  have hrow : ∀ k, v.ownBlock = some k → w0.B ≤ k ∧ k ∉ r := fun k hk => ⟨Nat.le_trans lp.b0 (lp.own.lt k hk).1, hr k hk⟩
  refine GenN.app (α := α) hE xs ms base (fun w1 h1 => (hLp w1 h1).own) hsrc (by unfold maxLen; omega) ?_ (fun w1 h1 => Nat.le_trans lp.size h1.size) (fun w1 w2 h1 hg => keep_grown h1 hg hrow) fun v' w5 w6 h5 hg hO => ?_
  · calc _ ≤ 1000000 * 1000000 := Nat.mul_le_mul h63 hby
      _ ≤ _ := by decide
  · obtain ⟨a', c', rfl⟩ := hO.form
    have h5' := hLp w5 h5
    refine hk a' c' w5 w6 h5 ⟨⟨lp.st.base, fun X hX => ?_⟩, hO, lp.anc, lp.blk, Nat.le_trans h5'.size hg.size, lp.b0⟩ hg.size fun k hk hkb => ?_
    · have hX5 := h5'.st.all X hX
      refine ⟨hg.os.trans hX5.os, hg.tape.trans hX5.tape, hg.output.trans hX5.output, Nat.le_trans hX5.size hg.size, fun k hk => ?_⟩
      refine (hg.block k (Nat.lt_of_lt_of_le hk hX5.size) (fun e => ?_)).trans (hX5.block k hk)
      have h1 := lp.own.lt k e.symm
      have h2 := lp.anc X hX
      omega
    · refine hg.block k hk (fun e => ?_)
      have h1 := lp.own.lt k e.symm
      omega
end
open Mi in
theorem left_any (z : Zn) (l : List Zn) (a : Option Addr) (cap : Nat) (w : World) (hS : Sl w.heap.size w (.slice a l.length cap) l) :
    Calls Tryz.prog 229 #[.agg #[.int .i64 z.a, .int .i64 z.b, .int .i64 z.c, .int .i64 z.d, .int .i64 z.e, .int .i64 z.f], .slice a l.length cap] w (Ret w fun v w' => ∃ a' c', v = .tuple #[.slice a' (Mi.left z l).1.length c', .int .i64 (Mi.left z l).2] ∧ Sl w'.heap.size w' (.slice a' (Mi.left z l).1.length c') (Mi.left z l).1) := by
  refine fun_ret 0 w Tryz.func229 (args := [.agg [.val (.int .i64 z.a), .val (.int .i64 z.b), .val (.int .i64 z.c), .val (.int .i64 z.d), .val (.int .i64 z.e), .val (.int .i64 z.f)], .val (.slice a l.length cap)]) rfl rfl ?_
  obtain ⟨_, _, hfe, hcap1, hcap2, _⟩ := hS.form
  injection hfe with _ _ hfe
  subst hfe
  unfold maxLen at hcap2
  have st := Stay.first (w := w)
  refine NewI.mk fun b1 hb1 => ?_
  unfold Mi.left
  apply CallI.use1
  focus (exact fun w1 h1 => zcheck_any z w1)
  intro w1 v1 h1 hB1
  have st := st.next h1 (fun x hx => by simp at hx <;> omega) hB1
  refine Branch.mk (fun hc => ?_) (fun hc => ?_)
  · have h0 : Zo.chk z ≠ 0 := by simpa using hc
    rw [if_pos h0]
    exact EndI.mk fun w9 h9 => ⟨_, _, rfl, Sl.nil⟩
  have h0 : Zo.chk z = 0 := by simpa using hc
  rw [if_neg (by simp [h0])]
  refine LoopI.invC (α := Nat × World) (fun y => [(21, .val (.int .i64 y.1))]) (fun y => y.2) (fun y => y.1 ≤ l.length ∧ Below w.heap.size w y.2 ∧ ∀ x, x ∈ l.take y.1 → Zo.chk x = 0) (fun y => l.length - y.1) ?_ ?_
  · intro w3 h3
    exact ⟨(0, w3), Cov.mk (by repeat' (first | exact trivial | refine And.intro rfl ?_)) rfl rfl rfl rfl rfl, rfl, Nat.zero_le _, h3.below, by simp⟩
  rintro ⟨k, V⟩ ⟨hk, hV, hall⟩
  refine Branch.mk (fun hc2 => ?_) (fun hc2 => ?_)
  · have hlt : k < l.length := by simpa using hc2
    have hg := List.getElem?_eq_getElem (l := l) (i := k) hlt
    generalize l[k] = x at hg
    have hSV := hS.go hV hV.size
    refine hSV.idx hg fun ad had => ?_
    refine hSV.ld hg had (Below.refl _ _) (by simp) ?_
    refine NewI.mk fun b2 hb2 => ?_
    apply CallI.use1
    focus (exact fun w4 h4 => zcheck_any x w4)
    intro w4 v4 h4 hB4
    refine Branch.mk (fun hc3 => ?_) (fun hc3 => ?_)
    · have h1 : Zo.chk x ≠ 0 := by simpa using hc3
      rw [if_pos (by rw [List.any_eq_true]; exact ⟨x, List.mem_of_getElem? hg, by simpa using h1⟩)]
      exact EndI.mk fun w9 h9 => ⟨_, _, rfl, Sl.nil⟩
    · have h1 : Zo.chk x = 0 := by simpa using hc3
      refine Need.mk (by simp only [inK]; omega) (EndI.mk fun w9 h9 => ⟨(k + 1, w9), Cov.mk (by repeat' (first | exact trivial | refine And.intro rfl ?_)) rfl rfl rfl rfl rfl, rfl, ⟨hlt, h9.below, fun y hy => ?_⟩, by simp only; omega⟩)
      have e : l.take (k + 1) = l.take k ++ [x] := by rw [List.take_add_one, hg]; rfl
      rw [e] at hy
      rcases List.mem_append.1 hy with hy | hy
      · exact hall y hy
      · rw [List.mem_singleton.1 hy]; exact h1
  have hge : k = l.length := by have : ¬ k < l.length := by simpa using hc2
                                omega
  subst hge
  rw [List.take_length] at hall
  rw [if_neg (by rw [List.any_eq_true]; rintro ⟨x, hx, h⟩; simp [hall x hx] at h)]
  refine NewI.mk fun b2 hb2 => ?_
  have hb2w : w.heap.size ≤ b2 := Nat.le_trans hV.size hb2
  refine LoopI.invC (α := Nat × World × Value × List Zn) (fun y => [(33, .val (.int .i64 y.1)), (8, .val y.2.2.1)]) (fun y => y.2.1)
    (fun y => y.1 ≤ l.length ∧ Below w.heap.size w y.2.1 ∧ Sl y.2.1.heap.size y.2.1 y.2.2.1 y.2.2.2 ∧ y.2.2.2.length ≤ 4096 ∧ outer l [z] = outer (l.drop y.1) y.2.2.2) (fun y => l.length - y.1) ?_ ?_
  · intro w3 h3
    exact ⟨(0, w3, .slice (some ⟨b2, 0, none⟩) 1 1, [z]), Cov.mk (by repeat' (first | exact trivial | refine And.intro rfl ?_)) rfl rfl rfl rfl rfl, rfl, Nat.zero_le _, h3.below, Sl.own (l := [z]) h3 1 rfl rfl rfl (Nat.le_refl _) (by simp [maxLen]), by simp, rfl⟩
  rintro ⟨i, V2, ov, out⟩ ⟨hi, hV2, hSo, hol, heq⟩
  simp only at hi hV2 hSo hol heq
  obtain ⟨ao, co, rfl, _⟩ := hSo.form
  refine Branch.mk (fun hc3 => ?_) (fun hc3 => ?_)
  · have hlt : i < l.length := by simpa using hc3
    have hg := List.getElem?_eq_getElem (l := l) (i := i) hlt
    have hd := List.drop_eq_getElem_cons hlt
    generalize l[i] = b at hg hd
    rw [hd, outer_cons] at heq
    have hSV := hS.go hV2 hV2.size
    refine hSV.idx hg fun ad had => ?_
    refine hSV.ld hg had (Below.refl _ _) (by simp) ?_
    refine NewI.mk fun b3 hb3 => ?_
    have st2 := Stay.start (w0 := ⟨w, w.heap.size, Nat.le_refl _⟩) hV2
    have hb3w : V2.heap.size ≤ b3 := hb3
    refine LoopI.invC (α := Nat × World × Value × List Zn) (fun y => [(39, .val (.int .i64 y.1)), (11, .val y.2.2.1)]) (fun y => y.2.1)
      (fun y => y.1 ≤ out.length ∧ (∃ base, Lp ⟨w, w.heap.size, Nat.le_refl _⟩ [V2] [b1, b2, b3] 39 base y.2.1 y.2.2.1 y.2.2.2) ∧ y.2.2.2.length ≤ 4096 ∧ inner b out [] = inner b (out.drop y.1) y.2.2.2) (fun y => out.length - y.1) ?_ ?_
    · intro w5 h5
      exact ⟨(0, w5, .slice none 0 0, []), Cov.mk (by repeat' (first | exact trivial | refine And.intro rfl ?_)) rfl rfl rfl rfl rfl, rfl, Nat.zero_le _, ⟨_, Lp.start st2 h5 (fun x hx => by simp at hx <;> omega)⟩, by simp, rfl⟩
    rintro ⟨j, V5, nv, next⟩ ⟨hj, ⟨base, lp⟩, hnl, hin⟩
    simp only at hj lp hnl hin
    obtain ⟨an, cn, rfl⟩ := lp.own.form
    refine Branch.mk (fun hc4 => ?_) (fun hc4 => ?_)
    · have hlt2 : j < out.length := by simpa using hc4
      have hg2 := List.getElem?_eq_getElem (l := out) (i := j) hlt2
      have hd2 := List.drop_eq_getElem_cons hlt2
      generalize out[j] = x at hg2 hd2
      rw [hd2, inner_cons] at hin
      have hSo5 := hSo.st lp.st
      refine hSo5.idx hg2 fun ad2 had2 => ?_
      refine hSo5.ld hg2 had2 (Below.refl _ _) (by simp) ?_
      refine NewI.mk fun b4 hb4 => ?_
      have hb4w : V5.heap.size ≤ b4 := hb4
      apply CallI.use
      focus (exact fun w6 h6 => minus_any x b w6)
      rintro v w6 v6 h6 hB6 ⟨am, cm, rfl, hOm⟩
      have lp6 := (lp.at h6 (fun y hy => by simp at hy <;> (left; omega))).go hB6
      have hml := minus_len x b
      refine Branch.mk (fun hc5 => ?_) (fun hc5 => ?_)
      · have he : (minus x b).2 ≠ 0 := by simpa using hc5
        rw [if_pos he] at hin
        rw [hin, if_pos he] at heq
        rw [heq]
        exact EndI.mk fun w9 h9 => ⟨_, _, rfl, Sl.nil⟩
      have he : (minus x b).2 = 0 := by simpa using hc5
      rw [if_neg (by simp [he])] at hin
      have h66 := h6.size
      have h67 := hB6.size
      refine GenN.appR (α := Zn) elZ lp6 (fun y hy hm => by have h1 := lp.own.lt y hy; have q1 := lp.blk b1 (by simp); have q2 := lp.blk b2 (by simp); have q3 := lp.blk b3 (by simp); simp at hm; omega) (by simp) (minus x b).1 (fun w8 h8 => (hOm.sl.go h8.go h8.size).src) (by omega) (by decide) fun a' c' w8 w9 h8 lp9 hsz hbl => ?_
      refine Branch.mk (fun hc6 => ?_) (fun hc6 => ?_)
      · have h4 : 4096 < (next ++ (minus x b).1).length := by have : (4096 : Int) < (next ++ (minus x b).1).length := by simpa using hc6
                                                              omega
        rw [if_pos h4] at hin
        rw [hin, if_pos (by decide)] at heq
        rw [heq]
        exact EndI.mk fun w9 h9 => ⟨_, _, rfl, Sl.nil⟩
      have h4 : ¬ 4096 < (next ++ (minus x b).1).length := by have : ¬ (4096 : Int) < (next ++ (minus x b).1).length := by simpa using hc6
                                                              omega
      rw [if_neg h4] at hin
      have ho : (out.length : Int) ≤ 4096 := by omega
      refine Need.mk (by simp only [inK]; omega) (EndI.mk fun w10 h10 => ⟨(j + 1, w10, .slice a' (next ++ (minus x b).1).length c', next ++ (minus x b).1), Cov.mk (by repeat' (first | exact trivial | refine And.intro rfl ?_)) rfl rfl rfl rfl rfl, rfl, ⟨hlt2, ⟨base, ?_⟩, Nat.le_of_not_lt h4, hin⟩, by simp only; omega⟩)
      exact lp9.at h10 (by simp)
    · have hge2 : j = out.length := by have : ¬ j < out.length := by simpa using hc4
                                       omega
      subst hge2
      rw [List.drop_length] at hin
      have hin : inner b out [] = (next, 0) := hin
      rw [hin, if_neg (by simp)] at heq
      refine Need.mk (by simp only [inK]; omega) (EndI.mk fun w10 h10 => ⟨(i + 1, w10, .slice an next.length cn, next), Cov.mk (by repeat' (first | exact trivial | refine And.intro rfl ?_)) rfl rfl rfl rfl rfl, rfl, ⟨hlt, h10.below, (lp.at h10 (by simp)).own.sl, hnl, heq⟩, by simp only; omega⟩)
  · have hge : i = l.length := by have : ¬ i < l.length := by simpa using hc3
                                  omega
    subst hge
    rw [List.drop_length] at heq
    rw [heq]
    exact EndI.mk fun w9 h9 => ⟨_, _, rfl, hSo.go h9.go h9.size⟩
end Go.Proofs.YtodpgcdandechaaGreat

/-
  slices.IndexFunc and ContainsFunc at a list of api.Zone: with a function that answers p of an element, and goes from T k to T (k + 1).
-/
namespace Go.Proofs.YtodpgcdandechaaGreat
set_option linter.unusedVariables false
set_option linter.unusedSimpArgs false
set_option maxRecDepth 100000
open Go.RowKit Go.Proofs.YtodpgcdandechaaGreat.Eng Enc

theorem indexZ_any (l : List Zn) (p : Zn → Bool) (a : Option Addr) (cap : Nat) (fid : FuncId) (caps : Array Value) (B : Nat) (w : World) (hB : B ≤ w.heap.size) (hS : Sl B w (.slice a l.length cap) l)
    (T : Nat → World → Prop) (h0 : T 0 w) (hst : ∀ k W W', T k W → Below W.heap.size W W' → T k W') (en : Enters Tryz.prog fid)
    (hcall : ∀ k x W, l[k]? = some x → Below B w W → T k W → Calls Tryz.prog fid (val x :: caps.toList).toArray W fun e W' => e = .returned (.bool (p x)) ∧ Below B W W' ∧ T (k + 1) W') :
    Calls Tryz.prog 132 #[.slice a l.length cap, .func (.func fid) #[] caps] w fun e w' => ∃ v, e = .returned v ∧ Below B w w' ∧ v = .int .i64 (idxF p l) ∧ T (cntF p l) w' := by
  obtain ⟨a', cap', e', hcap, hmax, _⟩ := hS.form
  injection e' with e1 e2 e3
  subst e1; subst e3
  unfold maxLen at hmax
  refine fun_at 0 B w hB Tryz.func132 (args := [.val (.slice a l.length cap), .val (.func (.func fid) #[] caps)]) rfl rfl ?_
  refine LoopI.inv (α := Nat × World) (fun x => [(8, .val (.int .i64 x.1))]) (fun _ => []) (fun x => x.2) (fun x => x.1 ≤ l.length ∧ T x.1 x.2 ∧ Below B w x.2 ∧ ∀ j y, j < x.1 → l[j]? = some y → p y = false) (fun x => l.length - x.1) ?_ ?_
  · intro w1 h1
    exact ⟨(0, w1), Cov.mk (by repeat' (first | exact trivial | refine And.intro rfl ?_)) rfl rfl rfl rfl rfl, rfl, Nat.zero_le _, hst _ _ _ h0 h1.go, h1.below, fun j y hj => by omega⟩
  · rintro ⟨k, W⟩ ⟨hk, hT, hBw, hno⟩
    refine Branch.mk (fun hb => ?_) (fun hb => ?_)
    · have hlt : k < l.length := by simpa using hb
      obtain ⟨x, hx⟩ : ∃ x, l[k]? = some x := ⟨l[k], List.getElem?_eq_getElem hlt⟩
      refine hS.idx hx fun ad had => ?_
      refine hS.ld hx had hBw (by simp) ?_
      refine Need.mk en ?_
      refine CallI.mk fun w1 h1 => ?_
      have hT1 := hst _ _ _ hT h1.go
      refine (hcall k x w1 hx h1.below hT1).mono ?_
      rintro e w2 ⟨rfl, hB2, hT2⟩
      refine ⟨⟨hB2, by simp⟩, _, rfl, ?_⟩
      refine Branch.mk (fun hp => ?_) (fun hp => ?_)
      · refine EndI.mk fun w3 h3 => ?_
        obtain ⟨i1, i2⟩ := idxF_at p l k x hx hp hno
        refine ⟨by rw [i1], by rw [i2]; exact hst _ _ _ hT2 h3.go⟩
      · refine Need.mk (by show _ ∧ _; omega) (EndI.mk fun w3 h3 => ?_)
        refine ⟨(k + 1, w3), Cov.mk (by repeat' (first | exact trivial | refine And.intro rfl ?_)) rfl rfl rfl rfl rfl, rfl, ⟨hlt, hst _ _ _ hT2 h3.go, h3.below, fun j y hj hy => ?_⟩, by simp only; omega⟩
        by_cases hjk : j = k
        · subst hjk; rw [hx] at hy; injection hy with hy; subst hy; exact hp
        · exact hno j y (by omega) hy
    · have hge : k = l.length := by have : ¬ k < l.length := by simpa using hb
                                    omega
      subst hge
      refine EndI.mk fun w3 h3 => ?_
      obtain ⟨i1, i2⟩ := idxF_none p l fun j y hy => hno j y (List.getElem?_eq_some_iff.1 hy).1 hy
      exact ⟨by rw [i1], by rw [i2]; exact hst _ _ _ hT h3.go⟩

theorem containsZ_any (l : List Zn) (p : Zn → Bool) (a : Option Addr) (cap : Nat) (fid : FuncId) (caps : Array Value) (B : Nat) (w : World) (hB : B ≤ w.heap.size) (hS : Sl B w (.slice a l.length cap) l)
    (T : Nat → World → Prop) (h0 : T 0 w) (hst : ∀ k W W', T k W → Below W.heap.size W W' → T k W') (en : Enters Tryz.prog fid)
    (hcall : ∀ k x W, l[k]? = some x → Below B w W → T k W → Calls Tryz.prog fid (val x :: caps.toList).toArray W fun e W' => e = .returned (.bool (p x)) ∧ Below B W W' ∧ T (k + 1) W') :
    Calls Tryz.prog 68 #[.slice a l.length cap, .func (.func fid) #[] caps] w fun e w' => ∃ v, e = .returned v ∧ Below B w w' ∧ v = .bool (l.any p) ∧ T (cntF p l) w' := by
  refine fun_at 0 B w hB Tryz.func68 (args := [.val (.slice a l.length cap), .val (.func (.func fid) #[] caps)]) rfl rfl ?_
  refine CallI.mk fun w1 h1 => ?_
  have hB1 : B ≤ w1.heap.size := Nat.le_trans hB h1.size
  refine (indexZ_any l p a cap fid caps B w1 hB1 (hS.below h1.below) T (hst _ _ _ h0 h1.go) hst en fun k x W hx hW hT => hcall k x W hx (h1.below.trans hW) hT).mono ?_
  rintro e w2 ⟨v, rfl, hB2, rfl, hT⟩
  refine ⟨⟨hB2, by simp⟩, _, rfl, ?_⟩
  refine EndI.mk fun w3 h3 => ⟨?_, hst _ _ _ hT h3.go⟩
  rw [← idxF_any]

/-- with a function that leaves the memory alone. -/
theorem containsZ_pure (l : List Zn) (p : Zn → Bool) (a : Option Addr) (cap : Nat) (fid : FuncId) (caps : Array Value) (w : World) (hS : Sl w.heap.size w (.slice a l.length cap) l) (en : Enters Tryz.prog fid)
    (hcall : ∀ x W, x ∈ l → Below w.heap.size w W → Calls Tryz.prog fid (val x :: caps.toList).toArray W fun e W' => e = .returned (.bool (p x)) ∧ Below W.heap.size W W') :
    Calls Tryz.prog 68 #[.slice a l.length cap, .func (.func fid) #[] caps] w fun e w' => e = .returned (.bool (l.any p)) ∧ Below w.heap.size w w' := by
  refine (containsZ_any l p a cap fid caps w.heap.size w (Nat.le_refl _) hS (fun _ _ => True) trivial (fun _ _ _ _ _ => trivial) en fun k x W hx hB _ => ?_).mono ?_
  · refine (hcall x W (List.mem_of_getElem? hx) hB).mono ?_
    rintro e W' ⟨rfl, hB'⟩
    exact ⟨rfl, hB'.mono hB.size, trivial⟩
  · rintro e w' ⟨v, rfl, hB, rfl, _⟩
    exact ⟨rfl, hB⟩
end Go.Proofs.YtodpgcdandechaaGreat

/-
  slices.Clone at a list of api.Zone: a row of the call's own that shows the same list.
-/
namespace Go.Proofs.YtodpgcdandechaaGreat
set_option linter.unusedVariables false
set_option linter.unusedSimpArgs false
set_option maxRecDepth 100000
open Go.RowKit Go.Proofs.YtodpgcdandechaaGreat.Eng Enc

theorem cloneZ_any (l : List Zn) (a : Option Addr) (cap : Nat) (w : World) (hS : Sl w.heap.size w (.slice a l.length cap) l) (hlen : l.length ≤ 1000000) :
    Calls Tryz.prog 173 #[.slice a l.length cap] w (Ret w fun v w' => Own 39 w.heap.size w' v l) := by
  refine fun_ret 0 w Tryz.func173 (args := [.val (.slice a l.length cap)]) rfl rfl ?_
  refine GenV.to (fun w1 => Lib.run_eql_slice_nil w1 45 39 a l.length cap 0 0 Tryz.underlying45) fun w1 h1 => ?_
  refine Branch.mk (fun hb => ?_) (fun hb => ?_)
  · refine EndI.mk fun w2 h2 => ?_
    have ha : a = none := by cases a <;> simp_all
    obtain ⟨a', cap', e', hcap, hmax, hn⟩ := hS.form
    injection e' with e1 e2 e3
    subst e1; subst e3
    have h0 := hn ha
    obtain rfl : l = [] := List.eq_nil_of_length_eq_zero (by omega)
    exact Own.nil
  · refine NewI.mk fun b hb1 => ?_
    have hsrc : ∀ w2, At ⟨w, w.heap.size, Nat.le_refl _⟩ [⟨[], 39⟩] [b] [] w1 w2 → SrcC w2 (.slice a l.length cap) 6 l.length (cellsL l) := fun w2 h2 => (hS.below h2.below).src
    refine GenN.appF (α := Zn) elZ [] l w.heap.size rfl (fun w2 h2 => ?_) hsrc ?_ ?_ (fun w2 h2 => h2.below.size) fun v' w2 w3 h2 hB ho => ?_
    · exact ⟨rfl, .inr ⟨b, 0, #[], rfl, h2.fresh b (by simp), h2.blk 0 b _ rfl rfl, Nat.le_refl _, by simp [maxLen], rfl, rfl⟩⟩
    · simp [maxLen]; omega
    · simp; omega
    · exact EndI.mk fun w4 h4 => ho.below h4.go
end Go.Proofs.YtodpgcdandechaaGreat

/-
  The contracts of cover.checked and cover.In, by the engine.
-/
namespace Go.Proofs.YtodpgcdandechaaGreat
set_option linter.unusedVariables false
set_option linter.unusedSimpArgs false
set_option maxRecDepth 100000
open Go.RowKit Go.Proofs.YtodpgcdandechaaGreat.Eng Enc

namespace Cv
def odd (z : Zn) : Bool := decide (Zo.chk z ≠ 0)
/-- the error of lists of zones. -/
def checked (ls : List (List Zn)) : Int := if ls.any (fun l => decide (4096 < l.length)) = true then 4 else if ls.any (fun l => l.any odd) = true then 8 else 0
def in_ (z : Zn) (l : List Zn) : Bool × Int :=
  if checked [l, [z]] = 0 then (decide ((Mi.left z l).2 = 0) && decide ((Mi.left z l).1.length = 0), (Mi.left z l).2) else (false, checked [l, [z]])
end Cv
/-- lists of zones, each as it is shown. -/
def Shown (n : Nat) (W : World) (ss : List Svl) (ls : List (List Zn)) : Prop := ss.length = ls.length ∧ ∀ (k : Nat) (s : Svl) (l : List Zn), ss[k]? = some s → ls[k]? = some l → Sl n W (.slice s.a s.len s.cap) l ∧ s.len = l.length
theorem codd_any (z : Zn) (w : World) : Calls Tryz.prog 224 #[.agg #[.int .i64 z.a, .int .i64 z.b, .int .i64 z.c, .int .i64 z.d, .int .i64 z.e, .int .i64 z.f]] w fun e w' => e = .returned (.bool (Cv.odd z)) ∧ Below w.heap.size w w' := by
  refine fun_eq 0 w Tryz.func224 (args := [.agg [.val (.int .i64 z.a), .val (.int .i64 z.b), .val (.int .i64 z.c), .val (.int .i64 z.d), .val (.int .i64 z.e), .val (.int .i64 z.f)]]) rfl rfl ?_
  refine NewI.mk fun b1 hb1 => ?_
  refine CallI.to1 (fun w => zcheck_any z w) fun w2 => ?_
  exact EndI.mk fun w9 h9 => rfl
theorem checked_any (ss : List Svl) (ls : List (List Zn)) (a : Option Addr) (cap : Nat) (w : World) (hA : Shown w.heap.size w ss ls) (hS : Sl w.heap.size w (.slice a ss.length cap) ss) :
    Calls Tryz.prog 167 #[.slice a ss.length cap] w fun e w' => e = .returned (.int .i64 (Cv.checked ls)) ∧ Below w.heap.size w w' := by
  refine fun_eq 0 w Tryz.func167 (args := [.val (.slice a ss.length cap)]) rfl rfl ?_
  obtain ⟨hlen, hA⟩ := hA
  have hform := hS.form
  obtain ⟨_, _, hfe, hcap1, hcap2, _⟩ := hform
  injection hfe with _ _ hfe
  subst hfe
  unfold maxLen at hcap2
  unfold Cv.checked
  refine LoopI.invC (α := Nat × World) (fun y => [(10, .val (.int .i64 y.1))]) (fun y => y.2) (fun y => y.1 ≤ ss.length ∧ Below w.heap.size w y.2 ∧ ∀ l, l ∈ ls.take y.1 → l.length ≤ 4096) (fun y => ss.length - y.1) ?_ ?_
  · intro w1 h1
    exact ⟨(0, w1), Cov.mk (by repeat' (first | exact trivial | refine And.intro rfl ?_)) rfl rfl rfl rfl rfl, rfl, Nat.zero_le _, h1.below, by simp⟩
  rintro ⟨k, W⟩ ⟨hk, hW, hall⟩
  refine Branch.mk (fun hc => ?_) (fun hc => ?_)
  · have hlt : k < ss.length := by simpa using hc
    have hg := List.getElem?_eq_getElem (l := ss) (i := k) hlt
    have hl := List.getElem?_eq_getElem (l := ls) (i := k) (by omega)
    obtain ⟨hs1, hs2⟩ := hA k _ _ hg hl
    generalize ls[k]'(by omega) = l at hl hs1 hs2
    have hSW := hS.go hW hW.size
    refine hSW.idx hg fun ad had => ?_
    refine hSW.ldv hg rfl had (Below.refl _ _) (by simp) ?_
    refine Branch.mk (fun hc2 => ?_) (fun hc2 => ?_)
    · have h4 : 4096 < l.length := by have : (4096 : Int) < (ss[k]'hlt).len := by simpa using hc2
                                      omega
      rw [if_pos (by rw [List.any_eq_true]; exact ⟨l, List.mem_of_getElem? hl, by simpa using h4⟩)]
      exact EndI.mk fun w3 h3 => rfl
    · have hle : l.length ≤ 4096 := by have : ¬ (4096 : Int) < (ss[k]'hlt).len := by simpa using hc2
                                       omega
      refine Need.mk (by simp only [inK]; omega) (EndI.mk fun w7 h7 => ⟨(k + 1, w7), Cov.mk (by repeat' (first | exact trivial | refine And.intro rfl ?_)) rfl rfl rfl rfl rfl, rfl, ⟨hlt, h7.below, fun y hy => ?_⟩, by simp only; omega⟩)
      have e : ls.take (k + 1) = ls.take k ++ [l] := by rw [List.take_add_one, hl]; rfl
      rw [e] at hy
      rcases List.mem_append.1 hy with hy | hy
      · exact hall y hy
      · rw [List.mem_singleton.1 hy]; exact hle
  have hge : k = ls.length := by have : ¬ k < ss.length := by simpa using hc
                                 omega
  subst hge
  rw [List.take_length] at hall
  rw [if_neg (by rw [List.any_eq_true]; rintro ⟨x, hx, h⟩; have := hall x hx; simp at h; omega)]
  clear hall hc hk
  refine LoopI.invC (α := Nat × World) (fun y => [(20, .val (.int .i64 y.1))]) (fun y => y.2) (fun y => y.1 ≤ ss.length ∧ Below w.heap.size w y.2 ∧ ∀ l, l ∈ ls.take y.1 → l.any Cv.odd = false) (fun y => ss.length - y.1) ?_ ?_
  · intro w1 h1
    exact ⟨(0, w1), Cov.mk (by repeat' (first | exact trivial | refine And.intro rfl ?_)) rfl rfl rfl rfl rfl, rfl, Nat.zero_le _, h1.below, by simp⟩
  rintro ⟨k, V⟩ ⟨hk, hV, hall⟩
  refine Branch.mk (fun hc => ?_) (fun hc => ?_)
  · have hlt : k < ss.length := by simpa using hc
    have hg := List.getElem?_eq_getElem (l := ss) (i := k) hlt
    have hl := List.getElem?_eq_getElem (l := ls) (i := k) (by omega)
    obtain ⟨hs1, hs2⟩ := hA k _ _ hg hl
    generalize ls[k]'(by omega) = l at hl hs1 hs2
    rw [hs2] at hs1
    have hSW := hS.go hV hV.size
    refine hSW.idx hg fun ad had => ?_
    refine hSW.ldv hg rfl had (Below.refl _ _) (by simp) ?_
    rw [hs2]
    apply CallI.use1
    focus (exact fun w4 h4 => containsZ_pure l Cv.odd _ _ 224 #[] w4 (hs1.go h4.below h4.below.size) Tryz.call224 fun x W _ _ => codd_any x W)
    intro w4 v4 h4 hB4
    refine Branch.mk (fun hc2 => ?_) (fun hc2 => ?_)
    · have h4 : l.any Cv.odd = true := by simpa using hc2
      rw [if_pos (by rw [List.any_eq_true]; exact ⟨l, List.mem_of_getElem? hl, h4⟩)]
      exact EndI.mk fun w3 h3 => rfl
    · have hle : l.any Cv.odd = false := by simpa using hc2
      refine Need.mk (by simp only [inK]; omega) (EndI.mk fun w7 h7 => ⟨(k + 1, w7), Cov.mk (by repeat' (first | exact trivial | refine And.intro rfl ?_)) rfl rfl rfl rfl rfl, rfl, ⟨hlt, h7.below, fun y hy => ?_⟩, by simp only; omega⟩)
      have e : ls.take (k + 1) = ls.take k ++ [l] := by rw [List.take_add_one, hl]; rfl
      rw [e] at hy
      rcases List.mem_append.1 hy with hy | hy
      · exact hall y hy
      · rw [List.mem_singleton.1 hy]; exact hle
  have hge : k = ls.length := by have : ¬ k < ss.length := by simpa using hc
                                 omega
  subst hge
  rw [List.take_length] at hall
  rw [if_neg (by rw [List.any_eq_true]; rintro ⟨x, hx, h⟩; rw [hall x hx] at h; cases h)]
  exact EndI.mk fun w9 h9 => rfl
theorem shown_two {n : Nat} {W : World} {s t : Svl} {l m : List Zn} (h1 : Sl n W (.slice s.a s.len s.cap) l) (e1 : s.len = l.length) (h2 : Sl n W (.slice t.a t.len t.cap) m) (e2 : t.len = m.length) : Shown n W [s, t] [l, m] := by
  refine ⟨rfl, fun k s' l' hs hl => ?_⟩
  have hk : k < 2 := (List.getElem?_eq_some_iff.1 hs).1
  have : k = 0 ∨ k = 1 := by omega
  rcases this with rfl | rfl
  · simp at hs hl; subst hs; subst hl; exact ⟨h1, e1⟩
  · simp at hs hl; subst hs; subst hl; exact ⟨h2, e2⟩
theorem shown_one {n : Nat} {W : World} {s : Svl} {l : List Zn} (h1 : Sl n W (.slice s.a s.len s.cap) l) (e1 : s.len = l.length) : Shown n W [s] [l] := by
  refine ⟨rfl, fun k s' l' hs hl => ?_⟩
  have hk : k < 1 := (List.getElem?_eq_some_iff.1 hs).1
  have : k = 0 := by omega
  subst this
  simp at hs hl; subst hs; subst hl; exact ⟨h1, e1⟩
theorem cin_any (z : Zn) (l : List Zn) (a : Option Addr) (cap : Nat) (w : World) (hS : Sl w.heap.size w (.slice a l.length cap) l) :
    Calls Tryz.prog 174 #[.agg #[.int .i64 z.a, .int .i64 z.b, .int .i64 z.c, .int .i64 z.d, .int .i64 z.e, .int .i64 z.f], .slice a l.length cap] w fun e w' => e = .returned (.tuple #[.bool (Cv.in_ z l).1, .int .i64 (Cv.in_ z l).2]) ∧ Below w.heap.size w w' := by
  refine fun_eq 0 w Tryz.func174 (args := [.agg [.val (.int .i64 z.a), .val (.int .i64 z.b), .val (.int .i64 z.c), .val (.int .i64 z.d), .val (.int .i64 z.e), .val (.int .i64 z.f)], .val (.slice a l.length cap)]) rfl rfl ?_
  have st := Stay.first (w := w)
  refine NewI.mk fun b1 hb1 => ?_
  refine NewI.mk fun b2 hb2 => ?_
  refine NewI.mk fun b3 hb3 => ?_
  unfold Cv.in_
  apply CallI.use1
  · exact fun w1 h1 => checked_any [⟨a, l.length, cap⟩, ⟨some ⟨b2, 0, none⟩, 1, 1⟩] [l, [z]] _ _ w1 (shown_two (hS.go h1.below h1.below.size) rfl (Sl.own (l := [z]) h1 1 rfl rfl rfl (Nat.le_refl _) (by simp [maxLen])) rfl) (Sl.own (l := [(⟨a, l.length, cap⟩ : Svl), ⟨some ⟨b2, 0, none⟩, 1, 1⟩]) h1 2 rfl rfl rfl (Nat.le_refl _) (by simp [maxLen]))
  intro w1 v1 h1 hB1
  have hv1 : Below w.heap.size w v1 := h1.below.trans (hB1.mono h1.below.size)
  refine Branch.mk (fun hc => ?_) (fun hc => ?_)
  · have h0 : ¬ Cv.checked [l, [z]] = 0 := by simpa using hc
    rw [if_neg h0]
    exact EndI.mk fun w3 h3 => rfl
  have h0 : Cv.checked [l, [z]] = 0 := by simpa using hc
  rw [if_pos h0]
  apply CallI.use
  focus (exact fun w2 h2 => left_any z l a cap w2 (hS.go h2.below h2.below.size))
  rintro v w2 v2 h2 hB2 ⟨a2, c2, rfl, hS2⟩
  generalize Mi.left z l = X at *
  obtain ⟨x, e⟩ := X
  refine Branch.mk (fun hc2 => ?_) (fun hc2 => ?_)
  · have h1 : e = 0 := by simpa using hc2
    subst h1
    refine EndI.mk fun w3 h3 => ?_
    simp
  · have h1 : ¬ e = 0 := by simpa using hc2
    refine EndI.mk fun w3 h3 => ?_
    simp [h1]
end Go.Proofs.YtodpgcdandechaaGreat

/-
  The contract of rat.Mid, by the engine.
-/
namespace Go.Proofs.YtodpgcdandechaaGreat
set_option linter.unusedVariables false
set_option linter.unusedSimpArgs false
set_option maxRecDepth 100000
open Go.RowKit Go.Proofs.YtodpgcdandechaaGreat.Eng Enc

end Go.Proofs.YtodpgcdandechaaGreat

/-
  The contract of incl.Pick and what it calls, by the engine.
-/
namespace Go.Proofs.YtodpgcdandechaaGreat
set_option linter.unusedVariables false
set_option linter.unusedSimpArgs false
set_option maxRecDepth 100000
open Go.RowKit Go.Proofs.YtodpgcdandechaaGreat.Eng Enc

def Incl.End.val (x : Incl.End) : Value := .agg #[.bool x.is, .int .i64 x.at_.num, .int .i64 x.at_.den, .bool x.strict]

theorem value_bd (b : Int) : -2305843009213693952 ≤ (Bd.value b).1 ∧ (Bd.value b).1 ≤ 2305843009213693952 := by
  unfold Bd.value
  split
  · rename_i h
    split
    · simp
    · rename_i h2
      simp only [Bd.may, Bool.or_eq_true, beq_iff_eq, h2, false_or] at h
      exact Num.okB_iff.1 h
  · simp
end Go.Proofs.YtodpgcdandechaaGreat

/-
  What is picked of a closed matrix of three clocks keeps it: sums of small fractions are exact, each end holds what it should. No program is in sight.
-/
namespace Go.Proofs.YtodpgcdandechaaGreat
set_option linter.unusedVariables false
set_option linter.unusedSimpArgs false
namespace Fr
/-- a small fraction: what it is divided by is at most D, its value at most M. -/
structure Sm (D M : Int) (a : Rt) : Prop where
  ok : a.ok = true
  den : a.den ≤ D
  lo : -(M * a.den) ≤ a.num
  hi : a.num ≤ M * a.den
theorem Sm.mono {D D' M M' : Int} {a : Rt} (h : Sm D M a) (hD : D ≤ D') (hM : M ≤ M') : Sm D' M' a := by
  have o := ok_bd h.ok
  have hm : M * a.den ≤ M' * a.den := Int.mul_le_mul_of_nonneg_right hM (by omega)
  exact ⟨h.ok, Int.le_trans h.den hD, by have := h.lo; omega, by have := h.hi; omega⟩
theorem v_den {a : Rt} (ha : a.ok = true) : (a.den : Rat) ≠ 0 := by
  have oa := ok_bd ha
  intro h; have : a.den = 0 := by exact_mod_cast h
  omega
/-- a fraction in lowest terms out of a great one. -/
theorem low_sm {T D M d : Int} (hD : 1 ≤ D) (hd : D ≤ d) (hd2 : d ≤ 1048576) (hM : 0 ≤ M) (hM2 : M < 2305843009213693952) (hMd : M * d ≤ 9223372036854775807) (h1 : -(M * D) ≤ T) (h2 : T ≤ M * D) :
    okB (T / Int.gcd T D) (D / Int.gcd T D) = true ∧ inI (T / Int.gcd T D) = true ∧ Sm d M ⟨T / Int.gcd T D, D / Int.gcd T D⟩ ∧ T / Int.gcd T D * D = T * (D / Int.gcd T D) := by
  have hg : 1 ≤ (Int.gcd T D : Int) := by
    have : 0 < Int.gcd T D := Int.gcd_pos_of_ne_zero_right _ (by omega)
    omega
  have d1 : (Int.gcd T D : Int) ∣ T := Int.gcd_dvd_left ..
  have d2 : (Int.gcd T D : Int) ∣ D := Int.gcd_dvd_right ..
  have hcop : Int.gcd (T / Int.gcd T D) (D / Int.gcd T D) = 1 := Int.gcd_ediv_gcd_ediv_gcd (i := T) (j := D) (by omega)
  generalize (Int.gcd T D : Int) = g at *
  obtain ⟨u, rfl⟩ := d1
  obtain ⟨x, rfl⟩ := d2
  rw [Int.mul_ediv_cancel_left _ (by omega), Int.mul_ediv_cancel_left _ (by omega)] at *
  have hx : 1 ≤ x := by
    rcases Int.lt_or_le 0 x with h | h
    · omega
    · have := Int.mul_nonpos_of_nonneg_of_nonpos (a := g) (b := x) (by omega) h
      omega
  have hxd : x ≤ d := by
    have := Int.mul_le_mul_of_nonneg_right hg (show 0 ≤ x by omega)
    omega
  have k1 : -(M * x) ≤ u := by
    refine Int.le_of_mul_le_mul_left (a := g) ?_ (by omega)
    rw [Int.mul_neg, Int.mul_left_comm]; exact h1
  have k2 : u ≤ M * x := by
    refine Int.le_of_mul_le_mul_left (a := g) ?_ (by omega)
    rw [Int.mul_left_comm g M x]; exact h2
  have hMx : M * x ≤ M * d := Int.mul_le_mul_of_nonneg_left hxd hM
  have hin : inB u x = true := by
    apply in_iff.2
    have a1 : -M ≤ u / x := by
      refine (Int.le_ediv_iff_mul_le (by omega)).2 ?_
      rw [Int.neg_mul]; exact k1
    have a2 : u / x ≤ M := by
      have := Int.ediv_le_ediv (c := x) (by omega) k2
      rwa [Int.mul_ediv_cancel _ (by omega)] at this
    omega
  have hok : okB u x = true := by
    unfold okB
    rw [hin]
    have hc2 : Nat.gcd u.natAbs x.natAbs = 1 := hcop
    simp only [hc2]; simp; omega
  refine ⟨hok, ?_, ⟨hok, hxd, k1, k2⟩, ?_⟩
  · unfold inI; simp; omega
  · rw [Int.mul_left_comm, ← Int.mul_assoc]
theorem v_of_mul {a : Rt} (ha : a.ok = true) {T D : Int} (hD : 1 ≤ D) (h : a.num * D = T * a.den) : v a * (D : Rat) = T := by
  have h1 := v_den ha
  have h2 : (a.num : Rat) * (D : Rat) = (T : Rat) * (a.den : Rat) := by exact_mod_cast h
  unfold v
  grind
theorem sum_sm {a b : Rt} {k Da Db Ma Mb d M : Int} (ha : Sm Da Ma a) (hb : Sm Db Mb b) (hk : k = 1 ∨ k = 2) (hMa : 0 ≤ Ma) (hMb : 0 ≤ Mb) (hd : Da * Db * k ≤ d) (hd2 : d ≤ 1048576) (hM : Ma + Mb ≤ M * k) (hM2 : M < 2305843009213693952) (hMd : M * d ≤ 9223372036854775807) :
    (sum a b k).2 = 0 ∧ Sm d M (sum a b k).1 ∧ v (sum a b k).1 * (k : Rat) = v a + v b := by
  have oa := ok_bd ha.ok
  have ob := ok_bd hb.ok
  have hM0 : 0 ≤ M := by rcases hk with rfl | rfl <;> omega
  have e1 : a.den * b.den ≤ Da * Db := Int.mul_le_mul ha.den hb.den (by omega) (by have := ha.den; omega)
  have e2 : 1 ≤ a.den * b.den := by
    have := Int.mul_le_mul (a := 1) (b := 1) oa.1 ob.1 (by omega) (by omega)
    omega
  have hdn : 1 ≤ dn a b k ∧ dn a b k ≤ d := by
    unfold dn
    rcases hk with rfl | rfl <;> omega
  have hT : -(M * dn a b k) ≤ tn a b ∧ tn a b ≤ M * dn a b k := by
    have p1 : a.num * b.den ≤ Ma * a.den * b.den := Int.mul_le_mul_of_nonneg_right ha.hi (by omega)
    have p2 : b.num * a.den ≤ Mb * b.den * a.den := Int.mul_le_mul_of_nonneg_right hb.hi (by omega)
    have p3 : -(Ma * a.den) * b.den ≤ a.num * b.den := Int.mul_le_mul_of_nonneg_right ha.lo (by omega)
    have p4 : -(Mb * b.den) * a.den ≤ b.num * a.den := Int.mul_le_mul_of_nonneg_right hb.lo (by omega)
    have p5 : (Ma + Mb) * (a.den * b.den) ≤ M * k * (a.den * b.den) := Int.mul_le_mul_of_nonneg_right hM (by omega)
    have q1 : M * dn a b k = M * k * (a.den * b.den) := by unfold dn; grind
    have q2 : Ma * a.den * b.den + Mb * b.den * a.den = (Ma + Mb) * (a.den * b.den) := by grind
    have q3 : -(Ma * a.den) * b.den + -(Mb * b.den) * a.den = -((Ma + Mb) * (a.den * b.den)) := by grind
    rw [q1]; unfold tn
    omega
  obtain ⟨l1, l2, l3, l4⟩ := low_sm hdn.1 hdn.2 hd2 hM0 hM2 hMd hT.1 hT.2
  unfold sum
  rw [if_pos ⟨l1, l2⟩]
  refine ⟨rfl, l3, ?_⟩
  have hv := v_of_mul l3.ok hdn.1 l4
  have h1 := v_den ha.ok
  have h2 := v_den hb.ok
  simp only at hv ⊢
  have hk0 : (k : Rat) ≠ 0 := by rcases hk with rfl | rfl <;> decide
  generalize v (⟨tn a b / Int.gcd (tn a b) (dn a b k), dn a b k / Int.gcd (tn a b) (dn a b k)⟩ : Rt) = x at *
  unfold dn tn at hv
  push_cast at hv
  unfold v
  grind
theorem of_sm {c M : Int} (h : -M ≤ c ∧ c ≤ M) (hM : M < 2305843009213693952) : Sm 1 M (of c 1).1 ∧ v (of c 1).1 = c := by
  have hok : okB c 1 = true := by
    unfold okB
    have : inB c 1 = true := in_iff.2 (by simp; omega)
    rw [this]; simp
  have e : of c 1 = (⟨c, 1⟩, 0) := by
    unfold of low
    have hg : Int.gcd c 1 = 1 := by simp
    rw [if_neg (by omega), hg]
    simp only [Int.cast_ofNat_Int, Int.ediv_one]
    rw [if_pos hok]
  rw [e]
  refine ⟨⟨hok, by simp, by simp; omega, by simp; omega⟩, ?_⟩
  show (c : Rat) / ((1 : Int) : Rat) = c
  have h1 : ((1 : Int) : Rat) = 1 := rfl
  rw [h1]; grind
theorem shift_sm {a : Rt} {D M c m d : Int} (ha : Sm D M a) (hM : 0 ≤ M) (hc : -m ≤ c ∧ c ≤ m) (hd : D ≤ d) (hd2 : d ≤ 1048576) (hM2 : M + m < 2305843009213693952) (hMd : (M + m) * d ≤ 9223372036854775807) : Sm d (M + m) (shift a c) ∧ v (shift a c) = v a + c := by
  obtain ⟨h1, h2⟩ := of_sm hc (by omega)
  have h := sum_sm (k := 1) (d := d) (M := M + m) ha h1 (.inl rfl) hM (by omega) (by omega) hd2 (by omega) hM2 hMd
  unfold shift add
  rw [if_pos ⟨ha.ok, h1.ok⟩]
  refine ⟨h.2.1, ?_⟩
  have := h.2.2
  rw [h2] at this
  grind
theorem mid_sm {a b : Rt} {D M d : Int} (ha : Sm D M a) (hb : Sm D M b) (hM : 0 ≤ M) (hd : D * D * 2 ≤ d) (hd2 : d ≤ 1048576) (hM2 : M < 2305843009213693952) (hMd : M * d ≤ 9223372036854775807) : Sm d M (mid a b).1 ∧ v (mid a b).1 * 2 = v a + v b := by
  have h := sum_sm (k := 2) (d := d) (M := M) ha hb (.inr rfl) hM hM hd hd2 (by omega) hM2 hMd
  unfold mid
  rw [if_pos ⟨ha.ok, hb.ok⟩]
  exact ⟨h.2.1, by have := h.2.2; exact_mod_cast this⟩
theorem cmp_v {a b : Rt} (ha : a.ok = true) (hb : b.ok = true) : ((cmp a b).1 < 0 ∧ v a < v b) ∨ ((cmp a b).1 = 0 ∧ v a = v b) ∨ (0 < (cmp a b).1 ∧ v b < v a) := by
  unfold cmp
  rw [if_pos ⟨ha, hb⟩]
  simp only
  have hD := den_pos ha hb
  have hs := v_sub ha hb
  have key : ∀ x : Int, (v a - v b) * ((a.den * b.den : Int) : Rat) = ((a.num * b.den - b.num * a.den : Int) : Rat) := fun _ => by
    rw [hs]
    exact Rat.div_mul_cancel (by intro h; rw [h] at hD; exact absurd hD (by decide))
  have k0 := key 0
  unfold cmpR cmpI
  split
  · rename_i h
    refine .inl ⟨by omega, ?_⟩
    have : ((a.num * b.den - b.num * a.den : Int) : Rat) < 0 := by exact_mod_cast (by omega : a.num * b.den - b.num * a.den < 0)
    rw [← k0] at this
    rcases Classical.em (v a < v b) with hh | hh
    · exact hh
    · have h2 : 0 ≤ v a - v b := by grind
      have := Rat.mul_nonneg h2 (Rat.le_of_lt hD)
      grind
  · split
    · rename_i h
      refine .inr (.inr ⟨by omega, ?_⟩)
      have : (0 : Rat) < ((a.num * b.den - b.num * a.den : Int) : Rat) := by exact_mod_cast (by omega : 0 < a.num * b.den - b.num * a.den)
      rw [← k0] at this
      rcases Classical.em (v b < v a) with hh | hh
      · exact hh
      · have h2 : 0 ≤ v b - v a := by grind
        have := Rat.mul_nonneg h2 (Rat.le_of_lt hD)
        grind
    · refine .inr (.inl ⟨rfl, ?_⟩)
      have : ((a.num * b.den - b.num * a.den : Int) : Rat) = 0 := by exact_mod_cast (by omega : a.num * b.den - b.num * a.den = 0)
      rw [this] at k0
      rcases Rat.mul_eq_zero.1 k0 with h | h
      · grind
      · rw [h] at hD; exact absurd hD (by decide)
end Fr

namespace Incl
open Fr Dbm
/-- what a lower, an upper end says of a time. -/
def loQ (E : End) (x : Rat) : Prop := E.is = true → (if E.strict = true then v E.at_ < x else v E.at_ ≤ x)
def hiQ (E : End) (x : Rat) : Prop := E.is = true → (if E.strict = true then x < v E.at_ else x ≤ v E.at_)
/-- by what bound an end stands where it stands (s: the sign). -/
def Att (P : Rat → Int → Prop) (s : Int) (E : End) : Prop := E.is = true → ∃ r b, P r b ∧ b ≠ NO ∧ v E.at_ = r - (s : Rat) * ((b / 2 : Int) : Rat) ∧ (E.strict = true ↔ Bd.st b = true)
structure EOk (D M : Int) (P : Rat → Int → Prop) (s : Int) (E : End) : Prop where
  sm : E.is = true → Sm D M E.at_
  att : Att P s E
theorem value_no : Bd.value NO = (0, false, 6) := by decide
theorem value_of {b : Int} (h : lim 288230376151711744 b) (hn : b ≠ NO) : Bd.value b = (b / 2, Bd.st b, 0) := by
  have hb := h.resolve_left hn
  have hm : Bd.may b = true := by
    unfold Bd.may Num.okB
    simp; right; omega
  have hn' : ¬ b = 9223372036854775807 := hn
  unfold Bd.value
  rw [if_pos hm, if_neg hn']
theorem near_lo {P : Rat → Int → Prop} {E : End} {D M Dr Mr b : Int} {r : Rt} (hE : EOk D M P 1 E) (hr : Sm Dr Mr r) (hMr : 0 ≤ Mr) (hDr : Dr ≤ D) (hD : D ≤ 1048576) (hMM : Mr + 288230376151711744 ≤ M) (hM2 : M < 2305843009213693952) (hMd : M * D ≤ 9223372036854775807) (hb : lim 288230376151711744 b) (hP : P (v r) b) :
    EOk D M P 1 (nearer E b r 1) ∧ ∀ x, loQ (nearer E b r 1) x ↔ (loQ E x ∧ satO (v r - x) (ob b)) := by
  unfold nearer
  by_cases hn : b = NO
  · subst hn
    rw [value_no]
    rw [if_pos (by decide)]
    refine ⟨hE, fun x => ⟨fun h => ⟨h, ?_⟩, fun h => h.1⟩⟩
    simp [ob, satO]
  have hbb := hb.resolve_left hn
  rw [value_of hb hn]
  simp only [ne_eq, not_true_eq_false, if_false]
  have hDp : 1 ≤ D := by have := (ok_bd hr.ok).1; have := hr.den; omega
  have hMd2 : (Mr + 288230376151711744) * D ≤ 9223372036854775807 := Int.le_trans (Int.mul_le_mul_of_nonneg_right hMM (by omega)) hMd
  obtain ⟨s1, s2⟩ := shift_sm (c := -1 * (b / 2)) (m := 288230376151711744) (d := D) hr hMr (by omega) hDr hD (by omega) hMd2
  have s1 := s1.mono (Int.le_refl D) hMM
  have s3 : v (shift r (-1 * (b / 2))) = v r - ((b / 2 : Int) : Rat) := by rw [s2]; push_cast; grind
  generalize shift r (-1 * (b / 2)) = at_ at *
  have hob : ob b = some b := by unfold ob; rw [if_neg hn]
  rw [hob]
  have hnew : EOk D M P 1 ⟨true, at_, Bd.st b⟩ := ⟨fun _ => s1, fun _ => ⟨v r, b, hP, hn, by rw [s3]; push_cast; grind, Iff.rfl⟩⟩
  have hsat : ∀ x, satO (v r - x) (some b) ↔ (if Bd.st b = true then v at_ < x else v at_ ≤ x) := fun x => by
    simp only [satO, s3]
    cases Bd.st b <;> simp <;> constructor <;> intro h <;> grind
  by_cases hi : E.is = false
  · rw [if_pos (.inl hi)]
    refine ⟨hnew, fun x => ?_⟩
    rw [hsat]
    unfold loQ
    rw [hi]; simp
  have hi : E.is = true := by simpa using hi
  have hc := cmp_v s1.ok (hE.sm hi).ok
  rcases hc with ⟨c1, c2⟩ | ⟨c1, c2⟩ | ⟨c1, c2⟩
  · rw [if_neg (by rw [hi]; simp; omega), if_neg (by omega)]
    refine ⟨hE, fun x => ⟨fun h => ⟨h, ?_⟩, fun h => h.1⟩⟩
    rw [hsat]
    have h' := h hi
    split at h' <;> split <;> grind
  · rw [if_neg (by rw [hi, c1]; simp), if_pos c1]
    refine ⟨⟨fun _ => hE.sm hi, fun _ => ?_⟩, fun x => ?_⟩
    · obtain ⟨r', b', p1, p2, p3, p4⟩ := hE.att hi
      cases hs : Bd.st b
      · exact ⟨r', b', p1, p2, p3, by simp only [Bool.or_false]; exact p4⟩
      · exact ⟨v r, b, hP, hn, by simp only; rw [← c2, s3]; push_cast; grind, by simp [hs]⟩
    · rw [hsat]
      unfold loQ
      simp only [hi, true_implies]
      cases hs : E.strict <;> cases hs2 : Bd.st b <;> simp <;> rw [c2] <;> (try constructor) <;> grind
  · rw [if_pos (.inr (by omega))]
    refine ⟨hnew, fun x => ?_⟩
    rw [hsat]
    unfold loQ
    simp only [hi, true_implies]
    constructor
    · intro h
      refine ⟨?_, h⟩
      split at h <;> split <;> grind
    · exact fun h => h.2
theorem near_hi {P : Rat → Int → Prop} {E : End} {D M Dr Mr b : Int} {r : Rt} (hE : EOk D M P (-1) E) (hr : Sm Dr Mr r) (hMr : 0 ≤ Mr) (hDr : Dr ≤ D) (hD : D ≤ 1048576) (hMM : Mr + 288230376151711744 ≤ M) (hM2 : M < 2305843009213693952) (hMd : M * D ≤ 9223372036854775807) (hb : lim 288230376151711744 b) (hP : P (v r) b) :
    EOk D M P (-1) (nearer E b r (-1)) ∧ ∀ x, hiQ (nearer E b r (-1)) x ↔ (hiQ E x ∧ satO (x - v r) (ob b)) := by
  unfold nearer
  by_cases hn : b = NO
  · subst hn
    rw [value_no]
    rw [if_pos (by decide)]
    refine ⟨hE, fun x => ⟨fun h => ⟨h, ?_⟩, fun h => h.1⟩⟩
    simp [ob, satO]
  have hbb := hb.resolve_left hn
  rw [value_of hb hn]
  simp only [ne_eq, not_true_eq_false, if_false]
  have hDp : 1 ≤ D := by have := (ok_bd hr.ok).1; have := hr.den; omega
  have hMd2 : (Mr + 288230376151711744) * D ≤ 9223372036854775807 := Int.le_trans (Int.mul_le_mul_of_nonneg_right hMM (by omega)) hMd
  obtain ⟨s1, s2⟩ := shift_sm (c := - -1 * (b / 2)) (m := 288230376151711744) (d := D) hr hMr (by omega) hDr hD (by omega) hMd2
  have s1 := s1.mono (Int.le_refl D) hMM
  have s3 : v (shift r (- -1 * (b / 2))) = v r + ((b / 2 : Int) : Rat) := by rw [s2]; push_cast; grind
  generalize shift r (- -1 * (b / 2)) = at_ at *
  have hob : ob b = some b := by unfold ob; rw [if_neg hn]
  rw [hob]
  have hnew : EOk D M P (-1) ⟨true, at_, Bd.st b⟩ := ⟨fun _ => s1, fun _ => ⟨v r, b, hP, hn, by rw [s3]; push_cast; grind, Iff.rfl⟩⟩
  have hsat : ∀ x, satO (x - v r) (some b) ↔ (if Bd.st b = true then x < v at_ else x ≤ v at_) := fun x => by
    simp only [satO, s3]
    cases Bd.st b <;> simp <;> constructor <;> intro h <;> grind
  by_cases hi : E.is = false
  · rw [if_pos (.inl hi)]
    refine ⟨hnew, fun x => ?_⟩
    rw [hsat]
    unfold hiQ
    rw [hi]; simp
  have hi : E.is = true := by simpa using hi
  have hc := cmp_v s1.ok (hE.sm hi).ok
  rcases hc with ⟨c1, c2⟩ | ⟨c1, c2⟩ | ⟨c1, c2⟩
  · rw [if_pos (.inr (by omega))]
    refine ⟨hnew, fun x => ?_⟩
    rw [hsat]
    unfold hiQ
    simp only [hi, true_implies]
    constructor
    · intro h
      refine ⟨?_, h⟩
      split at h <;> split <;> grind
    · exact fun h => h.2
  · rw [if_neg (by rw [hi, c1]; simp), if_pos c1]
    refine ⟨⟨fun _ => hE.sm hi, fun _ => ?_⟩, fun x => ?_⟩
    · obtain ⟨r', b', p1, p2, p3, p4⟩ := hE.att hi
      cases hs : Bd.st b
      · exact ⟨r', b', p1, p2, p3, by simp only [Bool.or_false]; exact p4⟩
      · exact ⟨v r, b, hP, hn, by simp only; rw [← c2, s3]; push_cast; grind, by simp [hs]⟩
    · rw [hsat]
      unfold hiQ
      simp only [hi, true_implies]
      cases hs : E.strict <;> cases hs2 : Bd.st b <;> simp <;> rw [c2] <;> (try constructor) <;> grind
  · rw [if_neg (by rw [hi]; simp; omega), if_neg (by omega)]
    refine ⟨hE, fun x => ⟨fun h => ⟨h, ?_⟩, fun h => h.1⟩⟩
    rw [hsat]
    have h' := h hi
    split at h' <;> split <;> grind
theorem st_bsum (u v : Int) : Bd.st (bsum u v) = true ↔ (Bd.st u = true ∨ Bd.st v = true) := by
  rw [st_iff, st_iff, st_iff]
  unfold bsum
  rcases parity u with h1 | h1 <;> rcases parity v with h2 | h2 <;> rw [h1, h2] <;> constructor <;> intro h <;> omega
/-- the ends leave room. -/
theorem ends_room {P Q : Rat → Int → Prop} {l h : End} {D M : Int} (hl : EOk D M P 1 l) (hh : EOk D M Q (-1) h) (hc : ∀ r b r' b', P r b → Q r' b' → b ≠ NO → b' ≠ NO → satO (r - r') (some (bsum b b'))) (h1 : l.is = true) (h2 : h.is = true) :
    v l.at_ ≤ v h.at_ ∧ ((l.strict = true ∨ h.strict = true) → v l.at_ < v h.at_) := by
  obtain ⟨r, b, p1, p2, p3, p4⟩ := hl.att h1
  obtain ⟨r', b', q1, q2, q3, q4⟩ := hh.att h2
  have hs := hc r b r' b' p1 q1 p2 q2
  have hst := st_bsum b b'
  rw [← p4, ← q4] at hst
  simp only [satO, bsum_half] at hs
  rw [p3, q3]
  push_cast at hs ⊢
  generalize ((b / 2 : Int) : Rat) = x at *
  generalize ((b' / 2 : Int) : Rat) = y at *
  split at hs
  · rename_i hk
    exact ⟨by grind, fun _ => by grind⟩
  · rename_i hk
    exact ⟨by grind, fun hh => absurd (hst.2 hh) hk⟩
theorem choose_ok {P Q : Rat → Int → Prop} {l h : End} {D M : Int} (hl : EOk D M P 1 l) (hh : EOk D M Q (-1) h) (hc : ∀ r b r' b', P r b → Q r' b' → b ≠ NO → b' ≠ NO → satO (r - r') (some (bsum b b')))
    (hD : 1 ≤ D) (hD2 : D * D * 2 ≤ 1048576) (hM : 0 ≤ M) (hM2 : M + 1 < 2305843009213693952) (hMd : (M + 1) * (D * D * 2) ≤ 9223372036854775807) :
    Sm (D * D * 2) (M + 1) (choose l h) ∧ loQ l (v (choose l h)) ∧ hiQ h (v (choose l h)) := by
  have hDD : D ≤ D * D * 2 := by
    have := Int.mul_le_mul_of_nonneg_right hD (show 0 ≤ D by omega)
    omega
  have hroom := ends_room hl hh hc
  unfold choose
  split
  · rename_i h1
    refine ⟨(hl.sm h1.1).mono hDD (by omega), fun _ => by rw [h1.2]; simp, fun h2 => ?_⟩
    obtain ⟨r1, r2⟩ := hroom h1.1 h2
    split
    · exact r2 (.inr (by assumption))
    · exact r1
  · rename_i n1
    split
    · rename_i h2
      refine ⟨(hh.sm h2.1).mono hDD (by omega), fun h1 => ?_, fun _ => by rw [h2.2]; simp⟩
      obtain ⟨r1, r2⟩ := hroom h1 h2.1
      split
      · exact r2 (.inl (by assumption))
      · exact r1
    · rename_i n2
      split
      · rename_i h3
        obtain ⟨r1, r2⟩ := hroom h3.1 h3.2
        have s1 : l.strict = true := by
          cases hs : l.strict
          · exact absurd ⟨h3.1, hs⟩ n1
          · rfl
        have r3 := r2 (.inl s1)
        obtain ⟨m1, m2⟩ := mid_sm (d := D * D * 2) (hl.sm h3.1) (hh.sm h3.2) hM (Int.le_refl _) hD2 (by omega) (Int.le_trans (Int.mul_le_mul_of_nonneg_right (show M ≤ M + 1 by omega) (by omega)) hMd)
        refine ⟨m1.mono (Int.le_refl _) (by omega), fun _ => ?_, fun _ => ?_⟩
        · split <;> grind
        · split <;> grind
      · rename_i n3
        split
        · rename_i h1
          have h2 : h.is = false := by
            cases hs : h.is
            · rfl
            · exact absurd ⟨h1, hs⟩ n3
          obtain ⟨m1, m2⟩ := shift_sm (c := 1) (m := 1) (d := D * D * 2) (hl.sm h1) hM (by omega) hDD hD2 hM2 hMd
          refine ⟨m1, fun _ => ?_, fun hh2 => by rw [h2] at hh2; cases hh2⟩
          rw [m2]
          split <;> grind
        · rename_i n4
          have h1 : l.is = false := by simpa using n4
          split
          · rename_i h2
            obtain ⟨m1, m2⟩ := shift_sm (c := -1) (m := 1) (d := D * D * 2) (hh.sm h2) hM (by omega) hDD hD2 hM2 hMd
            refine ⟨m1, fun hh2 => absurd hh2 (by rw [h1]; decide), fun _ => ?_⟩
            rw [m2]
            split <;> grind
          · rename_i n5
            have h2 : h.is = false := by simpa using n5
            refine ⟨⟨by decide, by simp only; omega, by simp only; omega, by simp only; omega⟩, fun hh2 => absurd hh2 (by rw [h1]; decide), fun hh2 => absurd hh2 (by rw [h2]; decide)⟩
theorem ends_ok {n : Nat} {C : List Int} {so : List Rt} {D M Dr Mr : Int} (hso : ∀ j, j < so.length → Sm Dr Mr (so[j]?.getD ⟨0, 1⟩)) (hMr : 0 ≤ Mr) (hDr : Dr ≤ D) (hD : D ≤ 1048576) (hMM : Mr + 288230376151711744 ≤ M) (hM2 : M < 2305843009213693952) (hMd : M * D ≤ 9223372036854775807)
    (hb : ∀ j, j < so.length → lim 288230376151711744 (C[j * n + so.length]?.getD 0) ∧ lim 288230376151711744 (C[so.length * n + j]?.getD 0)) : ∀ k, k ≤ so.length →
    (EOk D M (fun r b => ∃ j, j < so.length ∧ r = v (so[j]?.getD ⟨0, 1⟩) ∧ b = C[j * n + so.length]?.getD 0) 1 (ends n C so k).1 ∧ ∀ x, loQ (ends n C so k).1 x ↔ ∀ j, j < k → satO (v (so[j]?.getD ⟨0, 1⟩) - x) (ob (C[j * n + so.length]?.getD 0))) ∧
    (EOk D M (fun r b => ∃ j, j < so.length ∧ r = v (so[j]?.getD ⟨0, 1⟩) ∧ b = C[so.length * n + j]?.getD 0) (-1) (ends n C so k).2 ∧ ∀ x, hiQ (ends n C so k).2 x ↔ ∀ j, j < k → satO (x - v (so[j]?.getD ⟨0, 1⟩)) (ob (C[so.length * n + j]?.getD 0)))
  | 0, _ => by
    exact ⟨⟨⟨fun h => by simp [ends, End.none] at h, fun h => by simp [ends, End.none] at h⟩, fun x => ⟨fun _ j hj => by omega, fun _ h => by simp [ends, End.none] at h⟩⟩, ⟨⟨fun h => by simp [ends, End.none] at h, fun h => by simp [ends, End.none] at h⟩, fun x => ⟨fun _ j hj => by omega, fun _ h => by simp [ends, End.none] at h⟩⟩⟩
  | k + 1, hk => by
    obtain ⟨⟨l1, l2⟩, ⟨h1, h2⟩⟩ := ends_ok hso hMr hDr hD hMM hM2 hMd hb k (by omega)
    obtain ⟨a1, a2⟩ := near_lo l1 (hso k (by omega)) hMr hDr hD hMM hM2 hMd (hb k (by omega)).1 ⟨k, by omega, rfl, rfl⟩
    obtain ⟨b1, b2⟩ := near_hi h1 (hso k (by omega)) hMr hDr hD hMM hM2 hMd (hb k (by omega)).2 ⟨k, by omega, rfl, rfl⟩
    have key : ∀ (p : Nat → Prop), (∀ j, j < k + 1 → p j) ↔ ((∀ j, j < k → p j) ∧ p k) := fun p => by
      constructor
      · exact fun h => ⟨fun j hj => h j (by omega), h k (by omega)⟩
      · rintro ⟨h, h'⟩ j hj
        rcases Nat.lt_succ_iff_lt_or_eq.1 hj with hj | rfl
        · exact h j hj
        · exact h'
    refine ⟨⟨a1, fun x => ?_⟩, ⟨b1, fun x => ?_⟩⟩
    · show loQ (nearer _ _ _ 1) x ↔ _
      rw [a2, l2, key (fun j => satO (v (so[j]?.getD ⟨0, 1⟩) - x) (ob (C[j * n + so.length]?.getD 0)))]
    · show hiQ (nearer _ _ _ (-1)) x ↔ _
      rw [b2, h2, key (fun j => satO (x - v (so[j]?.getD ⟨0, 1⟩)) (ob (C[so.length * n + j]?.getD 0)))]
/-- one clock more. -/
theorem pick_ok {N : Nat} {C : List Int} {so : List Rt} {D M : Int} (hC : Clo N C) (hlim : ∀ i j, i < N → j < N → lim 288230376151711744 (C[i * N + j]?.getD 0)) (hm : so.length < N) (hso : ∀ j, j < so.length → Sm D M (so[j]?.getD ⟨0, 1⟩))
    (hf : ∀ i j, i < so.length → j < so.length → satO (v (so[i]?.getD ⟨0, 1⟩) - v (so[j]?.getD ⟨0, 1⟩)) (mx N C i j)) (hM : 0 ≤ M) (hD : 1 ≤ D) (hD2 : D * D * 2 ≤ 1048576) (hM2 : M + 288230376151711744 + 1 < 2305843009213693952) (hMd : (M + 288230376151711744 + 1) * (D * D * 2) ≤ 9223372036854775807) :
    Sm (D * D * 2) (M + 288230376151711744 + 1) (pick N C so) ∧ ∀ j, j < so.length → satO (v (so[j]?.getD ⟨0, 1⟩) - v (pick N C so)) (mx N C j so.length) ∧ satO (v (pick N C so) - v (so[j]?.getD ⟨0, 1⟩)) (mx N C so.length j) := by
  have hDD : D ≤ D * D * 2 := by
    have := Int.mul_le_mul_of_nonneg_right hD (show 0 ≤ D by omega)
    omega
  have hq : (M + 288230376151711744) * D ≤ 9223372036854775807 := Int.le_trans (Int.mul_le_mul (show M + 288230376151711744 ≤ M + 288230376151711744 + 1 by omega) hDD (by omega) (by omega)) hMd
  obtain ⟨⟨l1, l2⟩, ⟨h1, h2⟩⟩ := ends_ok (n := N) (C := C) (D := D) (M := M + 288230376151711744) hso hM (Int.le_refl _) (by omega) (Int.le_refl _) (by omega) hq (fun j hj => ⟨hlim j _ (by omega) hm, hlim _ j hm (by omega)⟩) so.length (Nat.le_refl _)
  have hc : ∀ r b r' b', (∃ j, j < so.length ∧ r = v (so[j]?.getD ⟨0, 1⟩) ∧ b = C[j * N + so.length]?.getD 0) → (∃ j, j < so.length ∧ r' = v (so[j]?.getD ⟨0, 1⟩) ∧ b' = C[so.length * N + j]?.getD 0) → b ≠ NO → b' ≠ NO → satO (r - r') (some (bsum b b')) := by
    rintro r b r' b' ⟨j, hj, rfl, rfl⟩ ⟨i, hi, rfl, rfl⟩ n1 n2
    have ht := hC.tri j i so.length (by omega) (by omega) hm
    have := satO_mono ht (hf j i hj hi)
    have e1 : mx N C j so.length = some (C[j * N + so.length]?.getD 0) := by unfold mx ob; rw [if_neg n1]
    have e2 : mx N C so.length i = some (C[so.length * N + i]?.getD 0) := by unfold mx ob; rw [if_neg n2]
    rw [e1, e2] at this
    exact this
  obtain ⟨c1, c2, c3⟩ := choose_ok l1 h1 hc hD hD2 (by omega) hM2 hMd
  exact ⟨c1, fun j hj => ⟨(l2 _).1 c2 j hj, (h2 _).1 c3 j hj⟩⟩
/-- what is picked of a closed matrix of three clocks keeps it. -/
theorem picks_in {C : List Int} (hc : chk 3 C = 0) (hC : Clo 3 C) : ∃ t u : Rt, picks 3 C = ([t, u], 0) ∧ t.ok = true ∧ u.ok = true ∧ Fits 3 (mx 3 C) (tvs [t, u]) := by
  have hlen : C.length = 9 := hC.len
  have hlim : ∀ i j, i < 3 → j < 3 → lim 288230376151711744 (C[i * 3 + j]?.getD 0) := fun i j hi hj => chk_lim hc _ (by omega)
  have s0 : Sm 1 0 ⟨0, 1⟩ := ⟨by decide, by decide, by decide, by decide⟩
  have v0 : v ⟨0, 1⟩ = 0 := by
    show ((0 : Int) : Rat) / ((1 : Int) : Rat) = 0
    have h1 : ((1 : Int) : Rat) = 1 := rfl
    have h2 : ((0 : Int) : Rat) = 0 := rfl
    rw [h1, h2]; grind
  have d1 : ∀ i, i < 3 → satO 0 (mx 3 C i i) := fun i hi => by
    unfold mx ob
    rw [hC.diag i hi]
    exact satO_zero.2 (by omega)
  obtain ⟨a1, a2⟩ := pick_ok (so := [⟨0, 1⟩]) (D := 1) (M := 0) hC hlim (by decide) (fun j hj => by
      have hj : j < 1 := hj
      have e0 : j = 0 := by omega
      rw [e0]; exact s0)
    (fun i j hi hj => by
      have hi : i < 1 := hi
      have hj : j < 1 := hj
      have e0 : i = 0 := by omega
      have e1 : j = 0 := by omega
      rw [e0, e1, Rat.sub_self]; exact d1 0 (by decide)) (by decide) (by decide) (by decide) (by decide) (by decide)
  generalize ht : pick 3 C [⟨0, 1⟩] = t at *
  have b1 := a2 0 (by decide)
  have a1' : Sm 2 288230376151711745 t := a1
  have s0' := s0.mono (show (1 : Int) ≤ 2 by decide) (show (0 : Int) ≤ 288230376151711745 by decide)
  obtain ⟨c1, c2⟩ := pick_ok (so := [⟨0, 1⟩, t]) (D := 2) (M := 288230376151711745) hC hlim (by simp) (fun j hj => by
      have hj : j < 2 := hj
      have : j = 0 ∨ j = 1 := by omega
      rcases this with rfl | rfl
      · exact s0'
      · exact a1')
    (fun i j hi hj => by
      have hi : i < 2 := hi
      have hj : j < 2 := hj
      have : i = 0 ∨ i = 1 := by omega
      have : j = 0 ∨ j = 1 := by omega
      rcases ‹i = 0 ∨ _› with rfl | rfl <;> rcases ‹j = 0 ∨ _› with rfl | rfl
      · rw [Rat.sub_self]; exact d1 0 (by decide)
      · exact b1.1
      · exact b1.2
      · rw [Rat.sub_self]; exact d1 1 (by decide)) (by decide) (by decide) (by decide) (by decide) (by decide)
  generalize hu : pick 3 C [⟨0, 1⟩, t] = u at *
  have b2 := c2 0 (by simp)
  have b3 := c2 1 (by simp)
  have hp : picked 3 C = [t, u] := by
    unfold picked
    show (sofar 3 C 2).drop 1 = _
    simp only [sofar, List.singleton_append, List.cons_append, List.nil_append, ht, hu, List.drop_succ_cons, List.drop_zero]
  refine ⟨t, u, ?_, a1.ok, c1.ok, ?_⟩
  · unfold picks
    rw [if_pos hc]
    have e3 : Int.toNat 3 = 3 := rfl
    rw [e3, hC.close]
    simp only [hp]
  · intro i j hi hj
    have : i = 0 ∨ i = 1 ∨ i = 2 := by omega
    have : j = 0 ∨ j = 1 ∨ j = 2 := by omega
    rcases ‹i = 0 ∨ _› with rfl | rfl | rfl <;> rcases ‹j = 0 ∨ _› with rfl | rfl | rfl
    · rw [Rat.sub_self]; exact d1 0 (by decide)
    · exact b1.1
    · exact b2.1
    · exact b1.2
    · rw [Rat.sub_self]; exact d1 1 (by decide)
    · exact b3.1
    · exact b2.2
    · exact b3.2
    · rw [Rat.sub_self]; exact d1 2 (by decide)
end Incl
end Go.Proofs.YtodpgcdandechaaGreat

/-
  The contracts of zone.Pick and cover.Witness, by the engine.
-/
namespace Go.Proofs.YtodpgcdandechaaGreat
set_option linter.unusedVariables false
set_option linter.unusedSimpArgs false
set_option maxRecDepth 100000
open Go.RowKit Go.Proofs.YtodpgcdandechaaGreat.Eng Enc

namespace Zo
theorem clo {z : Zn} (h : chk z = 0) : Dbm.chk 3 (matL z) = 0 ∧ Dbm.Clo 3 (matL z) := by
  have hk := chk_eq.1 h
  unfold Dbm.close at hk
  split at hk
  · rename_i h0
    split at hk
    · rename_i C hC
      have : C = matL z := by simpa using hk
      subst this
      exact ⟨h0, Dbm.close_clo h0 hC⟩
    · simp at hk
  · simp at hk
def pick (z : Zn) : Pt × Int := if chk z = 0 then (match (Incl.picks 3 (matL z)).1 with | [t, u] => (⟨t, u⟩, 0) | _ => (⟨⟨0, 0⟩, ⟨0, 0⟩⟩, 0)) else (⟨⟨0, 0⟩, ⟨0, 0⟩⟩, 8)
end Zo
/-- a load of a row that is none of the blocks that are written. -/
theorem ld_row {α : Type} [Enc α] {w : World} {L : List Nat} {a : Option Addr} {ad : Addr} {m cap : Nat} {l : List α} (h : Sl w.heap.size w (.slice a m cap) l) {k : Nat} {x : α} (hk : l[k]? = some x) (had : a = some ad) (hL : ad.block ∉ L) {K : List Value → Prop} (hK : K (enc x)) :
    LoadA w L (size α) (ad.add ((k : Int).toNat * size α)) K := by
  subst had
  obtain ⟨h1, h2⟩ := h.cell hk (Below.refl _ _)
  have hb : (ad.add ((k : Int).toNat * size α)).block = ad.block := by unfold Addr.add; split <;> rfl
  exact ⟨⟨enc x, ⟨len x, pos, by rw [hb]; exact hL, fun j c hj => h2 j c hj⟩, hK⟩⟩
namespace Cv
def witness (z : Zn) (l : List Zn) : Pt × Int :=
  if checked [l, [z]] = 0 then (if (Mi.left z l).2 = 0 then (match (Mi.left z l).1 with | [] => (⟨⟨0, 0⟩, ⟨0, 0⟩⟩, 6) | x :: _ => Zo.pick x) else (⟨⟨0, 0⟩, ⟨0, 0⟩⟩, (Mi.left z l).2)) else (⟨⟨0, 0⟩, ⟨0, 0⟩⟩, checked [l, [z]])
end Cv
end Go.Proofs.YtodpgcdandechaaGreat

/-
  What the examples and the questions of chapter 12 mean, in plain words. No program is in sight.
-/
namespace Go.Proofs.YtodpgcdandechaaGreat
set_option linter.unusedVariables false
namespace Cv
def of (lo hi : Int) : Zn := (Zo.make ⟨lo, false, hi, false, false⟩ ⟨0, false, 4, false, false⟩ ⟨0, true, 0, false, true⟩).1
theorem alive_in : in_ (of 0 4) [of 0 1, of 1 4] = (true, 0) := by decide +kernel
theorem alive_not : in_ (of 0 4) [of 0 1] = (false, 0) := by decide +kernel
end Cv
namespace Cv
def among (l : List Zn) (p : Pt) : Bool × Bool := if l.any (fun b => decide ((Zo.has b p).2 ≠ 0)) = true then (false, false) else (l.any (fun b => (Zo.has b p).1), true)
end Cv
end Go.Proofs.YtodpgcdandechaaGreat

/-
  What is left of zones, as sets of points; the plain law of CoverWitness.
-/
namespace Go.Proofs.YtodpgcdandechaaGreat
set_option linter.unusedVariables false
set_option linter.unusedSimpArgs false
open Go.RowKit Go.Proofs.YtodpgcdandechaaGreat.Eng Enc
namespace Mi
open Dbm
/-- times that are a zone's. -/
def Fz (z : Zn) (t : Nat → Rat) : Prop := Fits 3 (mx 3 (Zo.matL z)) t
/-- the difference that a zone's bound speaks of. -/
def dif (i : Nat) (t : Nat → Rat) : Rat := if i = 0 then t 1 - t 0 else if i = 1 then t 0 - t 1 else if i = 2 then t 2 - t 0 else if i = 3 then t 0 - t 2 else if i = 4 then t 2 - t 1 else t 1 - t 2
theorem six {k : Nat} (h : k < 6) : k = 0 ∨ k = 1 ∨ k = 2 ∨ k = 3 ∨ k = 4 ∨ k = 5 := by omega
theorem fz_iff (z : Zn) (t : Nat → Rat) : Fz z t ↔ ∀ i, i < 6 → satO (dif i t) (ob (Zo.get z i)) := by
  have o1 : ob 1 = some 1 := by decide
  constructor
  · intro h i hi
    rcases six hi with rfl | rfl | rfl | rfl | rfl | rfl
    · exact h 1 0 (by decide) (by decide)
    · exact h 0 1 (by decide) (by decide)
    · exact h 2 0 (by decide) (by decide)
    · exact h 0 2 (by decide) (by decide)
    · exact h 2 1 (by decide) (by decide)
    · exact h 1 2 (by decide) (by decide)
  · intro h i j hi hj
    have : i = 0 ∨ i = 1 ∨ i = 2 := by omega
    have : j = 0 ∨ j = 1 ∨ j = 2 := by omega
    rcases ‹i = 0 ∨ _› with rfl | rfl | rfl <;> rcases ‹j = 0 ∨ _› with rfl | rfl | rfl
    · rw [Rat.sub_self]; show satO 0 (ob 1); rw [o1]; exact satO_zero.2 (by omega)
    · exact h 1 (by decide)
    · exact h 3 (by decide)
    · exact h 0 (by decide)
    · rw [Rat.sub_self]; show satO 0 (ob 1); rw [o1]; exact satO_zero.2 (by omega)
    · exact h 5 (by decide)
    · exact h 2 (by decide)
    · exact h 4 (by decide)
    · rw [Rat.sub_self]; show satO 0 (ob 1); rw [o1]; exact satO_zero.2 (by omega)
theorem satO_min (d : Rat) (x b : Int) : (x = NO ∨ x < NO) → (b = NO ∨ b < NO) → (satO d (ob (min x b)) ↔ satO d (ob x) ∧ satO d (ob b)) := by
  intro hx hb
  have mono : ∀ u v : Int, u ≤ v → (v = NO ∨ v < NO) → satO d (ob u) → satO d (ob v) := fun u v huv hv h => by
    refine satO_mono ?_ h
    unfold ob
    split
    · rename_i hu
      have : v = NO := by omega
      rw [if_pos this]; trivial
    · split
      · trivial
      · exact huv
  rcases Int.le_total x b with h | h
  · rw [Int.min_eq_left h]
    exact ⟨fun k => ⟨k, mono _ _ h hb k⟩, fun k => k.1⟩
  · rw [Int.min_eq_right h]
    exact ⟨fun k => ⟨mono _ _ h hx k, k⟩, fun k => k.2⟩
theorem get_set (z : Zn) {i j : Nat} (hi : i < 6) (hj : j < 6) (x : Int) : Zo.get (Zo.set z i x) j = if j = i then x else Zo.get z j := by
  rcases six hi with rfl | rfl | rfl | rfl | rfl | rfl <;> rcases six hj with rfl | rfl | rfl | rfl | rfl | rfl <;> rfl
theorem lim_lt {m b : Int} (h : lim m b) (hm : m ≤ 2305843009213693951) : b = NO ∨ b < NO := by
  rcases h with h | h
  · exact .inl h
  · right; unfold NO; omega
theorem get_lim {z : Zn} (h : chk 3 (Zo.matL z) = 0) {i : Nat} (hi : i < 6) : lim 288230376151711744 (Zo.get z i) := by
  have g : ∀ q, q < 9 → lim 288230376151711744 ((Zo.matL z)[q]?.getD 0) := fun q hq => chk_lim h q hq
  rcases six hi with rfl | rfl | rfl | rfl | rfl | rfl
  · exact g 3 (by decide)
  · exact g 1 (by decide)
  · exact g 6 (by decide)
  · exact g 2 (by decide)
  · exact g 7 (by decide)
  · exact g 5 (by decide)
theorem cut_fz {z : Zn} (hz : chk 3 (Zo.matL z) = 0) {i : Nat} (hi : i < 6) {b : Int} (hb : b = NO ∨ b < NO) (t : Nat → Rat) : Fz (cut z i b) t ↔ Fz z t ∧ satO (dif i t) (ob b) := by
  have hm := satO_min (dif i t) (Zo.get z i) b (lim_lt (get_lim hz hi) (by omega)) hb
  rw [fz_iff, fz_iff]
  unfold cut
  constructor
  · intro h
    have hi' := h i hi
    rw [get_set z hi hi, if_pos rfl] at hi'
    refine ⟨fun j hj => ?_, (hm.1 hi').2⟩
    by_cases e : j = i
    · subst e; exact (hm.1 hi').1
    · have := h j hj
      rwa [get_set z hi hj, if_neg e] at this
  · rintro ⟨h1, h2⟩ j hj
    rw [get_set z hi hj]
    by_cases e : j = i
    · subst e; rw [if_pos rfl]; exact hm.2 ⟨h1 j hj, h2⟩
    · rw [if_neg e]; exact h1 j hj
/-- a zone out of a matrix. -/
theorem of_ok {L : List Int} (h : (Zo.of 3 L).2 = 0) : Zo.chk (Zo.of 3 L).1 = 0 ∧ ∀ t, Fz (Zo.of 3 L).1 t ↔ Fits 3 (mx 3 L) t := by
  unfold Zo.of at h ⊢
  by_cases h0 : chk 3 L = 0
  case neg => rw [if_neg h0] at h; cases h
  rw [if_pos h0, if_pos rfl] at h ⊢
  have hcl : close 3 L = (match closeL 3 L with | some L' => (3, L', 0) | none => (0, [], 6)) := by unfold close; rw [if_pos h0]; rfl
  cases hC : closeL 3 L with
  | none => rw [hC] at hcl; rw [hcl] at h; rw [if_neg (by decide)] at h; cases h
  | some C =>
    rw [hC] at hcl
    rw [hcl] at h ⊢
    rw [if_pos rfl] at h ⊢
    unfold Zo.told at h ⊢
    by_cases h1 : chk 3 C = 0
    case neg =>
      have : (if chk 3 C = 0 then (Zo.ofL C, (0 : Int)) else (Zo.nought, 8)).2 = 0 := h
      rw [if_neg h1] at this; cases this
    have e1 : (if chk 3 C = 0 then (Zo.ofL C, (0 : Int)) else (Zo.nought, 8)) = (Zo.ofL C, 0) := if_pos h1
    show Zo.chk (if chk 3 C = 0 then (Zo.ofL C, (0 : Int)) else (Zo.nought, 8)).1 = 0 ∧ ∀ t, Fz (if chk 3 C = 0 then (Zo.ofL C, (0 : Int)) else (Zo.nought, 8)).1 t ↔ _
    rw [e1]
    have clo := close_clo h0 hC
    have hm : Zo.matL (Zo.ofL C) = C := by
      have hlen : C.length = 9 := clo.len
      have d0 := clo.diag 0 (by decide)
      have d1 := clo.diag 1 (by decide)
      have d2 := clo.diag 2 (by decide)
      match C, hlen with
      | [c0, c1, c2, c3, c4, c5, c6, c7, c8], _ =>
        simp at d0 d1 d2
        subst d0; subst d1; subst d2
        rfl
    refine ⟨?_, fun t => ?_⟩
    · unfold Zo.chk
      rw [hm]
      have : close 3 C = (3, C, 0) := by
        unfold close
        rw [if_pos h1]
        show (match closeL 3 C with | some L' => ((3 : Int), L', (0 : Int)) | none => (0, [], 6)) = _
        rw [clo.close]
      rw [if_pos this]
    · unfold Fz
      rw [hm]
      exact close_fits h0 hC t
theorem wth_ok {z : Zn} (hz : chk 3 (Zo.matL z) = 0) {i : Nat} (hi : i < 6) {b : Int} (hb : b = NO ∨ b < NO) (h : (wth z i b).2 = 0) : Zo.chk (wth z i b).1 = 0 ∧ ∀ t, Fz (wth z i b).1 t ↔ Fz z t ∧ satO (dif i t) (ob b) := by
  unfold wth at h ⊢
  by_cases h0 : chk 3 (Zo.matL (cut z i b)) = 0
  case neg => rw [if_neg h0] at h; cases h
  rw [if_pos h0] at h ⊢
  obtain ⟨h1, h2⟩ := of_ok h
  exact ⟨h1, fun t => (h2 t).trans (cut_fz hz hi hb t)⟩
theorem dif_other {i : Nat} (hi : i < 6) (t : Nat → Rat) : dif (other i) t = - dif i t := by
  rcases six hi with rfl | rfl | rfl | rfl | rfl | rfl <;> simp [dif, other] <;> grind
theorem not_lt {b : Int} (h : (Bd.not b).2 = 0) (hl : lim 288230376151711744 b) : b ≠ NO ∧ (Bd.not b).1 < NO ∧ ∀ d : Rat, satO (-d) (ob (Bd.not b).1) ↔ ¬ satO d (ob b) := by
  unfold Bd.not at h ⊢
  by_cases hn : b = NO
  · subst hn
    rw [Incl.value_no] at h
    rw [if_neg (by decide)] at h; cases h
  rw [Incl.value_of hl hn] at h ⊢
  simp only [if_true] at h ⊢
  have hb := hl.resolve_left hn
  have hok : Num.okB (-(b / 2)) = true := Num.okB_iff.2 (by omega)
  unfold Bd.made at h ⊢
  rw [if_pos hok] at h ⊢
  simp only
  refine ⟨hn, ?_, fun d => ?_⟩
  · unfold Bd.mk NO; split <;> omega
  · have hob : ob b = some b := by unfold ob; rw [if_neg hn]
    rw [hob]
    have hm : Bd.mk (-(b / 2)) (!Bd.st b) < NO ∧ -1000000000000000000 ≤ Bd.mk (-(b / 2)) (!Bd.st b) := by unfold Bd.mk NO; split <;> omega
    have hob2 : ob (Bd.mk (-(b / 2)) (!Bd.st b)) = some (Bd.mk (-(b / 2)) (!Bd.st b)) := by unfold ob; rw [if_neg (by omega)]
    rw [hob2]
    simp only [satO]
    cases hs : Bd.st b
    · have e1 : Bd.mk (-(b / 2)) (!false) = -(b / 2) * 2 := rfl
      have e2 : Bd.st (-(b / 2) * 2) = true := (st_iff _).2 (by omega)
      have e3 : -(b / 2) * 2 / 2 = -(b / 2) := by omega
      rw [e1, e2, e3, Rat.intCast_neg]
      simp only [Bool.false_eq_true, if_true, if_false]
      constructor <;> intro h <;> grind
    · have e1 : Bd.mk (-(b / 2)) (!true) = -(b / 2) * 2 + 1 := rfl
      have e2 : Bd.st (-(b / 2) * 2 + 1) = false := by
        cases hh : Bd.st (-(b / 2) * 2 + 1)
        · rfl
        · have := (st_iff _).1 hh; omega
      have e3 : (-(b / 2) * 2 + 1) / 2 = -(b / 2) := by omega
      rw [e1, e2, e3, Rat.intCast_neg]
      simp only [Bool.false_eq_true, if_true, if_false]
      constructor <;> intro h <;> grind
/-- each of what is told is of the one, and breaks one of the other's bounds. -/
theorem go_ok {b : Zn} (hb : chk 3 (Zo.matL b) = 0) : ∀ (l : List Nat) (x : Zn), (∀ i, i ∈ l → i < 6) → chk 3 (Zo.matL x) = 0 → (∀ y, y ∈ go b l x → y.2 = 0) →
    ∀ y, y ∈ go b l x → Zo.chk y.1 = 0 ∧ ∀ t, Fz y.1 t → Fz x t ∧ ∃ i, i < 6 ∧ ¬ satO (dif i t) (ob (Zo.get b i))
  | [], x, _, _, _, y, hy => by simp [go] at hy
  | i :: l, x, hl, hx, h0, y, hy => by
    have hi := hl i (by simp)
    have hll : ∀ j, j ∈ l → j < 6 := fun j hj => hl j (by simp [hj])
    unfold go at h0 hy
    by_cases hn : (Bd.not (Zo.get b i)).2 ≠ 0
    · rw [if_pos hn] at h0 hy
      exact go_ok hb l x hll hx h0 y hy
    rw [if_neg hn] at h0 hy
    have hn : (Bd.not (Zo.get b i)).2 = 0 := by simpa using hn
    obtain ⟨n1, n2, n3⟩ := not_lt hn (get_lim hb hi)
    have ho : other i < 6 := by unfold other; split <;> omega
    rcases List.mem_append.1 hy with hy' | hy'
    · by_cases h6 : (wth x (other i) (Bd.not (Zo.get b i)).1).2 = 6
      · rw [if_pos h6] at hy'; simp at hy'
      · rw [if_neg h6] at hy'
        have e := List.mem_singleton.1 hy'
        have hz := h0 _ (by rw [if_neg h6]; exact List.mem_append.2 (.inl (List.mem_singleton.2 rfl)))
        obtain ⟨w1, w2⟩ := wth_ok hx ho (.inr n2) hz
        rw [e]
        refine ⟨w1, fun t ht => ?_⟩
        obtain ⟨k1, k2⟩ := (w2 t).1 ht
        rw [dif_other hi] at k2
        exact ⟨k1, i, hi, (n3 _).1 k2⟩
    · by_cases h6 : (wth x i (Zo.get b i)).2 = 6
      · rw [if_pos h6] at hy'; simp at hy'
      · rw [if_neg h6] at hy' h0
        have hz : (wth x i (Zo.get b i)).2 = 0 := by
          by_cases e : (wth x i (Zo.get b i)).2 = 0
          · exact e
          · exact h0 _ (List.mem_append.2 (.inr (List.mem_append.2 (.inl (by rw [if_neg e]; exact List.mem_singleton.2 rfl)))))
        rw [if_pos hz, List.nil_append] at hy' h0
        obtain ⟨w1, w2⟩ := wth_ok hx hi (lim_lt (get_lim hb hi) (by omega)) hz
        obtain ⟨g1, g2⟩ := go_ok hb l _ hll (Zo.clo w1).1 (fun y hy => h0 y (List.mem_append.2 (.inr hy))) y hy'
        refine ⟨g1, fun t ht => ?_⟩
        obtain ⟨k1, k2⟩ := g2 t ht
        exact ⟨((w2 t).1 k1).1, k2⟩
/-- zones that may be, and lie in a set. -/
def Within (S : (Nat → Rat) → Prop) (l : List Zn) : Prop := ∀ z, z ∈ l → Zo.chk z = 0 ∧ ∀ t, Fz z t → S t
theorem minus_ok {a b : Zn} (ha : Zo.chk a = 0) (hb : Zo.chk b = 0) (h : (minus a b).2 = 0) : Within (fun t => Fz a t ∧ ¬ Fz b t) (minus a b).1 := by
  unfold minus at h ⊢
  rw [if_pos ⟨ha, hb⟩] at h ⊢
  cases hf : (parts a b).find? (fun x => decide (x.2 ≠ 0)) with
  | some x =>
    rw [hf] at h
    have := List.find?_some hf
    simp at this h
    exact absurd h this
  | none =>
    have h0 : ∀ y, y ∈ parts a b → y.2 = 0 := fun y hy => by have := List.find?_eq_none.1 hf y hy; simpa using this
    intro z hz
    simp only [List.mem_map] at hz
    obtain ⟨y, hy, rfl⟩ := hz
    obtain ⟨g1, g2⟩ := go_ok (Zo.clo hb).1 [0, 1, 2, 3, 4, 5] a (by simp) (Zo.clo ha).1 h0 y hy
    refine ⟨g1, fun t ht => ?_⟩
    obtain ⟨k1, i, hi, k2⟩ := g2 t ht
    exact ⟨k1, fun hbt => k2 ((fz_iff b t).1 hbt i hi)⟩
theorem inner_ok {b : Zn} (hb : Zo.chk b = 0) {A : (Nat → Rat) → Prop} : ∀ (out next : List Zn), Within A out → Within (fun t => A t ∧ ¬ Fz b t) next → (inner b out next).2 = 0 → Within (fun t => A t ∧ ¬ Fz b t) (inner b out next).1
  | [], next, _, hn, _ => hn
  | z :: t, next, ho, hn, h => by
    rw [inner_cons] at h ⊢
    by_cases h1 : (minus z b).2 ≠ 0
    · rw [if_pos h1] at h; exact absurd h h1
    rw [if_neg h1] at h ⊢
    by_cases h2 : 4096 < (next ++ (minus z b).1).length
    · rw [if_pos h2] at h; cases h
    rw [if_neg h2] at h ⊢
    obtain ⟨z1, z2⟩ := ho z (by simp)
    refine inner_ok hb t _ (fun y hy => ho y (by simp [hy])) (fun y hy => ?_) h
    rcases List.mem_append.1 hy with hy | hy
    · exact hn y hy
    · obtain ⟨k1, k2⟩ := minus_ok z1 hb (by simpa using h1) y hy
      exact ⟨k1, fun t ht => ⟨z2 t (k2 t ht).1, (k2 t ht).2⟩⟩
theorem outer_ok : ∀ (l out : List Zn) {A : (Nat → Rat) → Prop}, (∀ b, b ∈ l → Zo.chk b = 0) → Within A out → (outer l out).2 = 0 → Within (fun t => A t ∧ ∀ b, b ∈ l → ¬ Fz b t) (outer l out).1
  | [], out, A, _, ho, _ => fun z hz => ⟨(ho z hz).1, fun t ht => ⟨(ho z hz).2 t ht, by simp⟩⟩
  | b :: l, out, A, hl, ho, h => by
    rw [outer_cons] at h ⊢
    by_cases h1 : (inner b out []).2 ≠ 0
    · rw [if_pos h1] at h; exact absurd h h1
    rw [if_neg h1] at h ⊢
    have hi := inner_ok (hl b (by simp)) out [] ho (fun z hz => by simp at hz) (by simpa using h1)
    have ho' := outer_ok l _ (fun y hy => hl y (by simp [hy])) hi h
    intro z hz
    obtain ⟨k1, k2⟩ := ho' z hz
    refine ⟨k1, fun t ht => ?_⟩
    obtain ⟨⟨q1, q2⟩, q3⟩ := k2 t ht
    refine ⟨q1, fun y hy => ?_⟩
    rcases List.mem_cons.1 hy with rfl | hy
    · exact q2
    · exact q3 y hy
theorem left_ok {a : Zn} {l : List Zn} (h : (left a l).2 = 0) : Zo.chk a = 0 ∧ (∀ b, b ∈ l → Zo.chk b = 0) ∧ left a l = outer l [a] ∧ Within (fun t => Fz a t ∧ ∀ b, b ∈ l → ¬ Fz b t) (left a l).1 := by
  unfold left at h ⊢
  by_cases ha : Zo.chk a ≠ 0
  · rw [if_pos ha] at h; cases h
  rw [if_neg ha] at h ⊢
  have ha : Zo.chk a = 0 := by simpa using ha
  by_cases hl : l.any (fun b => decide (Zo.chk b ≠ 0)) = true
  · rw [if_pos hl] at h; cases h
  rw [if_neg hl] at h ⊢
  have hl : ∀ b, b ∈ l → Zo.chk b = 0 := fun b hb => by
    rcases Classical.em (Zo.chk b = 0) with e | e
    · exact e
    · exact absurd (List.any_eq_true.2 ⟨b, hb, by simpa using e⟩) hl
  exact ⟨ha, hl, rfl, outer_ok l [a] hl (fun z hz => by rw [List.mem_singleton.1 hz]; exact ⟨ha, fun t ht => ht⟩) h⟩
theorem outer_app : ∀ (l m out : List Zn), (outer l out).2 = 0 → outer (l ++ m) out = outer m (outer l out).1
  | [], m, out, _ => rfl
  | b :: l, m, out, h => by
    rw [outer_cons] at h
    rw [List.cons_append, outer_cons, outer_cons]
    by_cases h1 : (inner b out []).2 ≠ 0
    · rw [if_pos h1] at h; exact absurd h h1
    rw [if_neg h1] at h ⊢
    rw [if_neg h1]
    exact outer_app l m _ h
end Mi
theorem Zo.has_ok {z : Zn} {p : Pt} (hz : Zo.chk z = 0) (ht : p.t.ok = true) (hu : p.u.ok = true) : (Zo.has z p).2 = 0 ∧ ((Zo.has z p).1 = true ↔ Mi.Fz z (Dbm.tvs [p.t, p.u])) := by
  obtain ⟨c1, c2⟩ := Zo.clo hz
  have hT : ([p.t, p.u] : List Rt).all Rt.ok = true := by simp [ht, hu]
  unfold Zo.has
  rw [if_pos ⟨hz, ht, hu⟩]
  unfold Dbm.keeps
  rw [if_pos ⟨c1, hT⟩, if_pos (by simp)]
  exact ⟨rfl, Dbm.kept_fitsK (N := 3) (fun i j hi hj => Dbm.chk_limK c1 i j hi hj) hT⟩
theorem Zo.pick_ok {z : Zn} (hz : Zo.chk z = 0) : (Zo.pick z).2 = 0 ∧ (Zo.pick z).1.t.ok = true ∧ (Zo.pick z).1.u.ok = true ∧ Mi.Fz z (Dbm.tvs [(Zo.pick z).1.t, (Zo.pick z).1.u]) := by
  obtain ⟨c1, c2⟩ := Zo.clo hz
  obtain ⟨t, u, hp, ht, hu, hf⟩ := Incl.picks_in c1 c2
  unfold Zo.pick
  rw [if_pos hz, hp]
  exact ⟨rfl, ht, hu, hf⟩
namespace Cv
/-- what the law of witnesses wants. -/
structure WitLaw (z : Zn) (l : List Zn) (more : Zn) : Prop where
  err : (in_ z l).2 ≠ 0 → (witness z l).2 = (in_ z l).2 ∧ (in_ z l).1 = false
  yes : (in_ z l).2 = 0 → (in_ z l).1 = true → (witness z l).2 = 6 ∧ ((in_ z (l ++ [more])).2 = 0 → (in_ z (l ++ [more])).1 = true)
  no : (in_ z l).2 = 0 → (in_ z l).1 = false → (witness z l).2 = 0 ∧ Zo.has z (witness z l).1 = (true, 0) ∧ among l (witness z l).1 = (false, true)
  ins : (witness z l).1.ins
theorem in_split (z : Zn) (l : List Zn) : (checked [l, [z]] ≠ 0 ∧ in_ z l = (false, checked [l, [z]])) ∨ (checked [l, [z]] = 0 ∧ in_ z l = (decide ((Mi.left z l).2 = 0) && decide ((Mi.left z l).1.length = 0), (Mi.left z l).2)) := by
  unfold in_
  by_cases h : checked [l, [z]] = 0
  · right; rw [if_pos h]; exact ⟨h, rfl⟩
  · left; rw [if_neg h]; exact ⟨h, rfl⟩
theorem ok_ins {a : Rt} (h : a.ok = true) (hs : -4611686018427387904 ≤ a.num ∧ a.num ≤ 4611686018427387904) : a.ins := by
  have := Fr.ok_bd h
  refine ⟨?_, ?_⟩
  · simp only [inK]; omega
  · simp only [inK]; omega
theorem pick_ins (z : Zn) : (Zo.pick z).1.ins := by
  have z0 : (⟨⟨0, 0⟩, ⟨0, 0⟩⟩ : Pt).ins := ⟨Fr.ins_zero, Fr.ins_zero⟩
  unfold Zo.pick
  split
  · rename_i hz
    obtain ⟨c1, c2⟩ := Zo.clo hz
    obtain ⟨t, u, hp, ht, hu, hf⟩ := Incl.picks_in c1 c2
    have hp2 := hp
    unfold Incl.picks at hp2
    have e3 : Int.toNat 3 = 3 := rfl
    rw [if_pos c1, e3, c2.close] at hp2
    have hp3 : Incl.picked 3 (Zo.matL z) = [t, u] := (Prod.mk.inj hp2).1
    have hm := fun x (hx : x ∈ Incl.picked 3 (Zo.matL z)) => Incl.sofar_ins 3 (Zo.matL z) 2 x (List.mem_of_mem_drop hx)
    rw [hp3] at hm
    rw [hp]
    exact ⟨hm t (by simp), hm u (by simp)⟩
  · exact z0
theorem witLaw (z : Zn) (l : List Zn) (more : Zn) : WitLaw z l more where
  err := fun h => by
    rcases in_split z l with ⟨h0, e⟩ | ⟨h0, e⟩
    · rw [e]; unfold witness; rw [if_neg h0]; exact ⟨rfl, rfl⟩
    · rw [e] at h ⊢
      simp only at h
      unfold witness
      rw [if_pos h0, if_neg h]
      simp [h]
  yes := fun h h1 => by
    rcases in_split z l with ⟨h0, e⟩ | ⟨h0, e⟩
    · rw [e] at h; exact absurd h h0
    rw [e] at h h1
    simp only [Bool.and_eq_true, decide_eq_true_eq] at h h1
    have hnil : (Mi.left z l).1 = [] := List.eq_nil_of_length_eq_zero h1.2
    refine ⟨?_, fun h2 => ?_⟩
    · unfold witness
      rw [if_pos h0, if_pos h, hnil]
    · obtain ⟨ha, hl, hlo, _⟩ := Mi.left_ok h
      rcases in_split z (l ++ [more]) with ⟨h3, e3⟩ | ⟨h3, e3⟩
      · rw [e3] at h2; exact absurd h2 h3
      rw [e3] at h2 ⊢
      simp only at h2 ⊢
      obtain ⟨_, _, hlo2, _⟩ := Mi.left_ok h2
      rw [h2]
      rw [hlo] at h hnil
      rw [hlo2, Mi.outer_app l [more] [z] h, hnil]
      rfl
  no := fun h h1 => by
    rcases in_split z l with ⟨h0, e⟩ | ⟨h0, e⟩
    · rw [e] at h; exact absurd h h0
    rw [e] at h h1
    simp only at h h1
    rw [h] at h1
    have hne : ¬ (Mi.left z l).1.length = 0 := by simpa using h1
    obtain ⟨ha, hl, hlo, hw⟩ := Mi.left_ok h
    unfold witness
    rw [if_pos h0, if_pos h]
    cases hx : (Mi.left z l).1 with
    | nil => rw [hx] at hne; simp at hne
    | cons x t =>
      simp only
      obtain ⟨x1, x2⟩ := hw x (by rw [hx]; simp)
      obtain ⟨p1, p2, p3, p4⟩ := Zo.pick_ok x1
      obtain ⟨q1, q2⟩ := x2 _ p4
      obtain ⟨r1, r2⟩ := Zo.has_ok ha p2 p3
      have hm : ∀ b, b ∈ l → (Zo.has b (Zo.pick x).1).2 = 0 ∧ (Zo.has b (Zo.pick x).1).1 = false := fun b hb => by
        obtain ⟨s1, s2⟩ := Zo.has_ok (hl b hb) p2 p3
        refine ⟨s1, ?_⟩
        cases hh : (Zo.has b (Zo.pick x).1).1 with
        | false => rfl
        | true => exact absurd (s2.1 hh) (q2 b hb)
      refine ⟨p1, Prod.ext (r2.2 q1) r1, ?_⟩
      unfold among
      rw [if_neg (by rw [List.any_eq_true]; rintro ⟨b, hb, hh⟩; simp [(hm b hb).1] at hh)]
      have : l.any (fun b => (Zo.has b (Zo.pick x).1).1) = false := by
        rw [List.any_eq_false]
        exact fun b hb => by simp [(hm b hb).2]
      rw [this]
  ins := by
    have z0 : (⟨⟨0, 0⟩, ⟨0, 0⟩⟩ : Pt).ins := ⟨Fr.ins_zero, Fr.ins_zero⟩
    unfold witness
    split
    · split
      · split
        · exact z0
        · exact pick_ins _
      · exact z0
    · exact z0
end Cv
end Go.Proofs.YtodpgcdandechaaGreat

/-
  What is left of zones is all that is not the others' (the other half of XPlainWit); what cover.In tells, in points.
-/
namespace Go.Proofs.YtodpgcdandechaaGreat
set_option linter.unusedVariables false
set_option linter.unusedSimpArgs false
open Go.RowKit Go.Proofs.YtodpgcdandechaaGreat.Eng Enc
namespace Mi
open Dbm
theorem of_none {L : List Int} (h : (Zo.of 3 L).2 = 6) (t : Nat → Rat) : ¬ Fits 3 (mx 3 L) t := by
  intro ht
  unfold Zo.of at h
  by_cases h0 : chk 3 L = 0
  case neg => rw [if_neg h0] at h; cases h
  rw [if_pos h0, if_pos rfl] at h
  obtain ⟨C, hC⟩ := close_some h0 ht
  have hcl : close 3 L = (3, C, 0) := by
    unfold close; rw [if_pos h0]
    show (match closeL 3 L with | some L' => ((3 : Int), L', (0 : Int)) | none => (0, [], 6)) = _
    rw [hC]
  rw [hcl] at h
  rw [if_pos rfl] at h
  unfold Zo.told at h
  by_cases h1 : chk 3 C = 0
  · have : (if chk 3 C = 0 then (Zo.ofL C, (0 : Int)) else (Zo.nought, 8)).2 = 6 := h
    rw [if_pos h1] at this; cases this
  · have : (if chk 3 C = 0 then (Zo.ofL C, (0 : Int)) else (Zo.nought, 8)).2 = 6 := h
    rw [if_neg h1] at this; cases this
theorem wth_none {z : Zn} (hz : chk 3 (Zo.matL z) = 0) {i : Nat} (hi : i < 6) {b : Int} (hb : b = NO ∨ b < NO) (h : (wth z i b).2 = 6) (t : Nat → Rat) : ¬ (Fz z t ∧ satO (dif i t) (ob b)) := by
  unfold wth at h
  by_cases h0 : chk 3 (Zo.matL (cut z i b)) = 0
  case neg => rw [if_neg h0] at h; cases h
  rw [if_pos h0] at h
  intro ht
  exact of_none h t ((cut_fz hz hi hb t).2 ht)
theorem not_err {b : Int} (h : (Bd.not b).2 ≠ 0) (hl : lim 288230376151711744 b) : b = NO := by
  by_cases hn : b = NO
  · exact hn
  exfalso
  apply h
  unfold Bd.not
  rw [Incl.value_of hl hn]
  have hb := hl.resolve_left hn
  have hok : Num.okB (-(b / 2)) = true := Num.okB_iff.2 (by omega)
  simp only [if_true]
  unfold Bd.made
  rw [if_pos hok]
theorem go_all {b : Zn} (hb : chk 3 (Zo.matL b) = 0) : ∀ (l : List Nat) (x : Zn), (∀ i, i ∈ l → i < 6) → chk 3 (Zo.matL x) = 0 → (∀ y, y ∈ go b l x → y.2 = 0) →
    ∀ t, Fz x t → (∃ i, i ∈ l ∧ ¬ satO (dif i t) (ob (Zo.get b i))) → ∃ y, y ∈ go b l x ∧ Fz y.1 t
  | [], x, _, _, _, t, _, ⟨i, hi, _⟩ => by simp at hi
  | i :: l, x, hl, hx, h0, t, ht, hi0 => by
    have hi := hl i (by simp)
    have hll : ∀ j, j ∈ l → j < 6 := fun j hj => hl j (by simp [hj])
    unfold go at h0 ⊢
    by_cases hn : (Bd.not (Zo.get b i)).2 ≠ 0
    · rw [if_pos hn] at h0 ⊢
      have hno := not_err hn (get_lim hb hi)
      obtain ⟨j, hj, hs⟩ := hi0
      rcases List.mem_cons.1 hj with rfl | hj
      · exfalso; apply hs; rw [hno]; trivial
      · exact go_all hb l x hll hx h0 t ht ⟨j, hj, hs⟩
    rw [if_neg hn] at h0 ⊢
    have hn : (Bd.not (Zo.get b i)).2 = 0 := by simpa using hn
    obtain ⟨n1, n2, n3⟩ := not_lt hn (get_lim hb hi)
    have ho : other i < 6 := by unfold other; split <;> omega
    by_cases hs : satO (dif i t) (ob (Zo.get b i))
    · have h6 : (wth x i (Zo.get b i)).2 ≠ 6 := fun e => wth_none hx hi (lim_lt (get_lim hb hi) (by omega)) e t ⟨ht, hs⟩
      rw [if_neg h6] at h0 ⊢
      have hz : (wth x i (Zo.get b i)).2 = 0 := by
        by_cases e : (wth x i (Zo.get b i)).2 = 0
        · exact e
        · exact h0 _ (List.mem_append.2 (.inr (List.mem_append.2 (.inl (by rw [if_neg e]; exact List.mem_singleton.2 rfl)))))
      rw [if_pos hz, List.nil_append] at h0 ⊢
      obtain ⟨w1, w2⟩ := wth_ok hx hi (lim_lt (get_lim hb hi) (by omega)) hz
      obtain ⟨j, hj, hsj⟩ := hi0
      rcases List.mem_cons.1 hj with rfl | hj
      · exact absurd hs hsj
      obtain ⟨y, hy, hyt⟩ := go_all hb l _ hll (Zo.clo w1).1 (fun y hy => h0 y (List.mem_append.2 (.inr hy))) t ((w2 t).2 ⟨ht, hs⟩) ⟨j, hj, hsj⟩
      exact ⟨y, List.mem_append.2 (.inr hy), hyt⟩
    · have hsn : satO (dif (other i) t) (ob (Bd.not (Zo.get b i)).1) := by rw [dif_other hi]; exact (n3 _).2 hs
      have h6 : (wth x (other i) (Bd.not (Zo.get b i)).1).2 ≠ 6 := fun e => wth_none hx ho (.inr n2) e t ⟨ht, hsn⟩
      rw [if_neg h6] at h0 ⊢
      have hm : wth x (other i) (Bd.not (Zo.get b i)).1 ∈ [wth x (other i) (Bd.not (Zo.get b i)).1] ++ (if (wth x i (Zo.get b i)).2 = 6 then [] else (if (wth x i (Zo.get b i)).2 = 0 then [] else [wth x i (Zo.get b i)]) ++ go b l (wth x i (Zo.get b i)).1) := List.mem_append.2 (.inl (List.mem_singleton.2 rfl))
      obtain ⟨w1, w2⟩ := wth_ok hx ho (.inr n2) (h0 _ hm)
      exact ⟨_, hm, (w2 t).2 ⟨ht, hsn⟩⟩
theorem minus_all {a b : Zn} (ha : Zo.chk a = 0) (hb : Zo.chk b = 0) (h : (minus a b).2 = 0) {t : Nat → Rat} (ht : Fz a t) (hn : ¬ Fz b t) : ∃ y, y ∈ (minus a b).1 ∧ Fz y t := by
  unfold minus at h ⊢
  rw [if_pos ⟨ha, hb⟩] at h ⊢
  cases hf : (parts a b).find? (fun x => decide (x.2 ≠ 0)) with
  | some x =>
    rw [hf] at h
    have := List.find?_some hf
    simp at this h
    exact absurd h this
  | none =>
    have h0 : ∀ y, y ∈ parts a b → y.2 = 0 := fun y hy => by have := List.find?_eq_none.1 hf y hy; simpa using this
    have hex : ∃ i, i < 6 ∧ ¬ satO (dif i t) (ob (Zo.get b i)) := by
      apply Classical.byContradiction
      intro hall
      exact hn ((fz_iff b t).2 fun i hi => Classical.byContradiction fun hs => hall ⟨i, hi, hs⟩)
    obtain ⟨i, hi, hs⟩ := hex
    obtain ⟨y, hy, hyt⟩ := go_all (Zo.clo hb).1 [0, 1, 2, 3, 4, 5] a (by simp) (Zo.clo ha).1 h0 t ht ⟨i, by rcases six hi with rfl | rfl | rfl | rfl | rfl | rfl <;> simp, hs⟩
    exact ⟨y.1, List.mem_map.2 ⟨y, hy, rfl⟩, hyt⟩
theorem inner_all {b : Zn} (hb : Zo.chk b = 0) : ∀ (out next : List Zn), (∀ z, z ∈ out → Zo.chk z = 0) → (inner b out next).2 = 0 → ∀ t, ((∃ y, y ∈ next ∧ Fz y t) ∨ ((∃ y, y ∈ out ∧ Fz y t) ∧ ¬ Fz b t)) → ∃ y, y ∈ (inner b out next).1 ∧ Fz y t
  | [], next, _, _, t, h => by
    rcases h with h | ⟨⟨y, hy, _⟩, _⟩
    · exact h
    · simp at hy
  | z :: o, next, ho, h, t, hm => by
    rw [inner_cons] at h ⊢
    by_cases h1 : (minus z b).2 ≠ 0
    · rw [if_pos h1] at h; exact absurd h h1
    rw [if_neg h1] at h ⊢
    by_cases h2 : 4096 < (next ++ (minus z b).1).length
    · rw [if_pos h2] at h; cases h
    rw [if_neg h2] at h ⊢
    refine inner_all hb o _ (fun y hy => ho y (by simp [hy])) h t ?_
    rcases hm with ⟨y, hy, hyt⟩ | ⟨⟨y, hy, hyt⟩, hnb⟩
    · exact .inl ⟨y, List.mem_append.2 (.inl hy), hyt⟩
    · rcases List.mem_cons.1 hy with rfl | hy
      · obtain ⟨x, hx, hxt⟩ := minus_all (ho y (by simp)) hb (by simpa using h1) hyt hnb
        exact .inl ⟨x, List.mem_append.2 (.inr hx), hxt⟩
      · exact .inr ⟨⟨y, hy, hyt⟩, hnb⟩
theorem outer_all : ∀ (l out : List Zn), (∀ b, b ∈ l → Zo.chk b = 0) → (∀ b, b ∈ out → Zo.chk b = 0) → (outer l out).2 = 0 → ∀ t, (∃ y, y ∈ out ∧ Fz y t) → (∀ b, b ∈ l → ¬ Fz b t) → ∃ y, y ∈ (outer l out).1 ∧ Fz y t
  | [], out, _, _, _, t, h, _ => h
  | b :: l, out, hl, ho, h, t, hm, hn => by
    rw [outer_cons] at h ⊢
    by_cases h1 : (inner b out []).2 ≠ 0
    · rw [if_pos h1] at h; exact absurd h h1
    rw [if_neg h1] at h ⊢
    have hb := hl b (by simp)
    have hi := inner_ok hb (A := fun _ => True) out [] (fun z hz => ⟨ho z hz, fun _ _ => trivial⟩) (fun z hz => by simp at hz) (by simpa using h1)
    exact outer_all l _ (fun y hy => hl y (by simp [hy])) (fun y hy => (hi y hy).1) h t (inner_all hb out [] ho (by simpa using h1) t (.inr ⟨hm, hn b (by simp)⟩)) fun y hy => hn y (by simp [hy])
theorem left_all {a : Zn} {l : List Zn} (h : (left a l).2 = 0) {t : Nat → Rat} (ht : Fz a t) (hn : ∀ b, b ∈ l → ¬ Fz b t) : ∃ y, y ∈ (left a l).1 ∧ Fz y t := by
  obtain ⟨ha, hl, hlo, _⟩ := left_ok h
  rw [hlo] at h ⊢
  exact outer_all l [a] hl (fun b hb => by rw [List.mem_singleton.1 hb]; exact ha) h t ⟨a, by simp, ht⟩ hn
theorem fz_ex {z : Zn} (hz : Zo.chk z = 0) : ∃ t, Fz z t := ⟨_, (Zo.pick_ok hz).2.2.2⟩
end Mi
namespace Cv
open Mi
/-- all points of a zone are of some. -/
def Cov (z : Zn) (l : List Zn) : Prop := ∀ t, Fz z t → ∃ b, b ∈ l ∧ Fz b t
theorem Cov.mono {z : Zn} {l m : List Zn} (h : Cov z l) (hs : ∀ x, x ∈ l → x ∈ m) : Cov z m := fun t ht => by
  obtain ⟨b, hb, hbt⟩ := h t ht
  exact ⟨b, hs b hb, hbt⟩
theorem in_ok {z : Zn} {l : List Zn} (h : (in_ z l).2 = 0) : Zo.chk z = 0 ∧ (∀ b, b ∈ l → Zo.chk b = 0) ∧ ((in_ z l).1 = true ↔ Cov z l) := by
  rcases in_split z l with ⟨h0, e⟩ | ⟨h0, e⟩
  · rw [e] at h; exact absurd h h0
  rw [e] at h ⊢
  simp only at h
  obtain ⟨ha, hl, hlo, hw⟩ := left_ok h
  refine ⟨ha, hl, ?_⟩
  simp only [h, decide_true, Bool.true_and, decide_eq_true_eq]
  constructor
  · intro hlen t ht
    apply Classical.byContradiction
    intro hno
    obtain ⟨y, hy, _⟩ := left_all h ht fun b hb hbt => hno ⟨b, hb, hbt⟩
    rw [List.eq_nil_of_length_eq_zero hlen] at hy
    simp at hy
  · intro hc
    cases hx : (left z l).1 with
    | nil => rfl
    | cons x r =>
      exfalso
      obtain ⟨x1, x2⟩ := hw x (by rw [hx]; simp)
      obtain ⟨t, ht⟩ := fz_ex x1
      obtain ⟨q1, q2⟩ := x2 t ht
      obtain ⟨b, hb, hbt⟩ := hc t q1
      exact q2 b hb hbt
end Cv
end Go.Proofs.YtodpgcdandechaaGreat

/-
  rallentandoref02.Other: not a bound.
-/
namespace Go.Proofs.YtodpgcdandechaaGreat
set_option linter.unusedVariables false
open Go.RowKit

theorem rother02_any (b : Int) (h1 : -4611686018427387903 ≤ b / 2) (h2 : b / 2 ≤ 4611686018427387903) (w : World) :
    Calls Tryz.prog 298 #[.int .i64 b] w fun e w' => e = .returned (.int .i64 (Bd.mk (-(b / 2)) (!(Bd.st b)))) ∧ w = w' := by
  go_enter Tryz.func298, Tryz.ntmps298
  go_wp2_with (first
    | (go_at_call 203; refine (rnumber_any _ (by omega) (by omega) _).mono ?_; rintro e w' ⟨rfl, rfl⟩)
    | (go_at_call 250; refine (rstrict_any _ _).mono ?_; rintro e w' ⟨rfl, rfl⟩)
    | (go_at_call 182; refine (rmade_any _ _ (by omega) (by omega) _).mono ?_; rintro e w' ⟨rfl, rfl⟩))
  go_ret
  exact ⟨rfl, rfl⟩

end Go.Proofs.YtodpgcdandechaaGreat

/-
  The document's answer of layer 11, by the engine: With, Less, Rest.
-/
namespace Go.Proofs.YtodpgcdandechaaGreat
set_option linter.unusedVariables false
set_option linter.unusedSimpArgs false
set_option maxRecDepth 100000
open Go.RowKit Go.Proofs.YtodpgcdandechaaGreat.Eng Enc

namespace Mi
open Dbm
def none6 : Zn := ⟨NO, NO, NO, NO, NO, NO⟩
theorem min_no {x : Int} (h : lim 288230376151711744 x) : min x NO = x := by
  rcases h with h | h
  · rw [h]; exact Int.min_self _
  · unfold NO; omega
theorem lessr_cut {z : Zn} (hz : chk 3 (Zo.matL z) = 0) {i : Nat} (hi : i < 6) (b : Int) : lessr (Zo.matL z) (Zo.matL (Zo.set none6 i b)) = Zo.matL (cut z i b) := by
  have m0 : min z.a NO = z.a := min_no (get_lim hz (show 0 < 6 by decide))
  have m1 : min z.b NO = z.b := min_no (get_lim hz (show 1 < 6 by decide))
  have m2 : min z.c NO = z.c := min_no (get_lim hz (show 2 < 6 by decide))
  have m3 : min z.d NO = z.d := min_no (get_lim hz (show 3 < 6 by decide))
  have m4 : min z.e NO = z.e := min_no (get_lim hz (show 4 < 6 by decide))
  have m5 : min z.f NO = z.f := min_no (get_lim hz (show 5 < 6 by decide))
  rcases six hi with rfl | rfl | rfl | rfl | rfl | rfl
  all_goals
    simp [lessr, Zo.matL, Zo.set, none6, cut, Zo.get, List.range, List.range.loop]
    simp [m0, m1, m2, m3, m4, m5]
theorem mayC_min {x b : Int} (hx : mayC x = true) (hb : mayC b = true) : mayC (min x b) = true := by
  rcases Int.le_total x b with h | h
  · rw [Int.min_eq_left h]; exact hx
  · rw [Int.min_eq_right h]; exact hb
theorem chk_cut {z : Zn} (hz : chk 3 (Zo.matL z) = 0) {i : Nat} (hi : i < 6) {b : Int} (hb : mayC b = true) : chk 3 (Zo.matL (cut z i b)) = 0 := by
  obtain ⟨_, _, _, c4⟩ := chk_iff.1 hz
  have hm : ∀ x, x ∈ Zo.matL z → mayC x = true := fun x hx => by have := List.any_eq_false.1 c4 x hx; simpa using this
  have o1 : mayC 1 = true := by decide
  have ha := hm z.a (by simp [Zo.matL])
  have hbb := hm z.b (by simp [Zo.matL])
  have hc := hm z.c (by simp [Zo.matL])
  have hd := hm z.d (by simp [Zo.matL])
  have he := hm z.e (by simp [Zo.matL])
  have hf := hm z.f (by simp [Zo.matL])
  refine chk_iff.2 ⟨by omega, by omega, rfl, ?_⟩
  rw [List.any_eq_false]
  rcases six hi with rfl | rfl | rfl | rfl | rfl | rfl
  all_goals
    intro x hx
    simp [Zo.matL, cut, Zo.set, Zo.get] at hx
    rcases hx with rfl | rfl | rfl | rfl | rfl | rfl | rfl | rfl | rfl <;> simp [ha, hbb, hc, hd, he, hf, o1, mayC_min, hb]
theorem clo_int64 {C : List Int} (h : Clo 3 C) : ∀ x, x ∈ C → Dbm.int64 x := fun x hx => by
  obtain ⟨q, hq, rfl⟩ := List.mem_iff_getElem.1 hx
  have := lim_q h.lim q (by rw [h.len] at hq; exact hq)
  rw [List.getElem?_eq_getElem hq] at this
  exact (lim_int64 (lim_mono this (by omega))).1
/-- With, by the document's closing. -/
theorem wth_rc {z : Zn} {i : Nat} {b : Int} (h0 : chk 3 (Zo.matL (cut z i b)) = 0) :
    ((rc 3 (Zo.matL (cut z i b))).2.2 = false ∧ wth z i b = (Zo.nought, 6)) ∨ ((rc 3 (Zo.matL (cut z i b))).2.2 = true ∧ (rc 3 (Zo.matL (cut z i b))).1 = 3 ∧ (rc 3 (Zo.matL (cut z i b))).2.1.length = 9 ∧ (∀ x, x ∈ (rc 3 (Zo.matL (cut z i b))).2.1 → Dbm.int64 x) ∧ wth z i b = if chk 3 (rc 3 (Zo.matL (cut z i b))).2.1 = 0 then (Zo.ofL (rc 3 (Zo.matL (cut z i b))).2.1, 0) else (Zo.nought, 8)) := by
  unfold wth
  rw [if_pos h0]
  generalize Zo.matL (cut z i b) = L at h0 ⊢
  have hcl : close 3 L = (match closeL 3 L with | some L' => (3, L', 0) | none => (0, [], 6)) := by unfold close; rw [if_pos h0]; rfl
  unfold Zo.of rc
  rw [if_pos h0, if_pos rfl]
  cases hC : closeL 3 L with
  | none =>
    rw [hC] at hcl; rw [hcl]
    left; exact ⟨rfl, rfl⟩
  | some C =>
    rw [hC] at hcl; rw [hcl]
    right
    have clo := close_clo (N := 3) h0 hC
    exact ⟨rfl, rfl, clo.len, clo_int64 clo, rfl⟩
end Mi
theorem rnone_any (w : World) : Calls Tryz.prog 301 #[] w fun e w' => e = .returned (.agg #[.int .i64 Mi.none6.a, .int .i64 Mi.none6.b, .int .i64 Mi.none6.c, .int .i64 Mi.none6.d, .int .i64 Mi.none6.e, .int .i64 Mi.none6.f]) ∧ Below w.heap.size w w' := by
  refine fun_eq 0 w Tryz.func301 (args := []) rfl rfl ?_
  refine NewI.mk fun b1 hb1 => ?_
  exact EndI.mk fun w9 h9 => rfl
theorem rother11_any (i : Nat) (hi : i < 6) (w : World) : Calls Tryz.prog 297 #[.int .i64 (i : Nat)] w fun e w' => e = .returned (.int .i64 (Mi.other i : Nat)) ∧ Below w.heap.size w w' := by
  rcases Mi.six hi with rfl | rfl | rfl | rfl | rfl | rfl
  all_goals (refine fun_eq 0 w Tryz.func297 (args := [.val (.int .i64 _)]) rfl rfl ?_)
  all_goals
    refine Need.mk (by simp) ?_
    first | refine Branch.yes rfl ?_ | refine Branch.no rfl ?_
    refine Need.mk (by simp [inK]) ?_
    exact EndI.mk fun w9 h9 => rfl
set_option maxHeartbeats 16000000 in
theorem rwith_any (z : Zn) (hz : Dbm.chk 3 (Zo.matL z) = 0) (i : Nat) (hi : i < 6) (b : Int) (hb : Dbm.mayC b = true) (w : World) :
    Calls Tryz.prog 296 #[.agg #[.int .i64 z.a, .int .i64 z.b, .int .i64 z.c, .int .i64 z.d, .int .i64 z.e, .int .i64 z.f], .int .i64 (i : Nat), .int .i64 b] w fun e w' => e = .returned (.tuple #[.agg #[.int .i64 (Mi.wth z i b).1.a, .int .i64 (Mi.wth z i b).1.b, .int .i64 (Mi.wth z i b).1.c, .int .i64 (Mi.wth z i b).1.d, .int .i64 (Mi.wth z i b).1.e, .int .i64 (Mi.wth z i b).1.f], .int .i64 (Mi.wth z i b).2]) ∧ Below w.heap.size w w' := by
  have hst : ∀ w1 : World, True := fun _ => trivial
  have hcut := Mi.lessr_cut hz hi b
  have hnone := fun w => rnone_any w
  generalize Mi.none6 = n6 at hcut hnone
  have h0 := Mi.chk_cut hz hi hb
  have hcom := fun (a c : Option Addr) (ca cc : Nat) (w : World) h k => rcommon_any 3 3 a c ca cc (Zo.matL z) (Zo.matL (Zo.set n6 i b)) (by rw [hcut]; exact h0) (Nat.le_refl 9) w h k
  rw [hcut] at hcom
  have hor := Mi.wth_rc h0
  generalize Dbm.rc 3 (Zo.matL (Mi.cut z i b)) = R at hcom hor
  generalize hW : Mi.wth z i b = W at hor ⊢
  obtain ⟨n3, C, is⟩ := R
  simp only at hcom hor
  rcases Mi.six hi with rfl | rfl | rfl | rfl | rfl | rfl
  · refine fun_eq 0 w Tryz.func296 (args := [.agg [.val (.int .i64 z.a), .val (.int .i64 z.b), .val (.int .i64 z.c), .val (.int .i64 z.d), .val (.int .i64 z.e), .val (.int .i64 z.f)], .val (.int .i64 0), .val (.int .i64 b)]) rfl rfl ?_
    refine NewI.mk fun b1 hb1 => ?_
    refine NewI.mk fun b2 hb2 => ?_
    refine CallI.to1 (fun w => hnone w) fun w1 => ?_
    refine NewI.mk fun b3 hb3 => ?_
    have hb3' : w1.heap.size ≤ b3 := hb3
    refine Need.mk (by decide) ?_
    refine DrawI.go (.tk 0 (.tk 2 (.two 1 (.two 3 (.two 4 (.tk 5 (.tk 6 (.tk 7 (.ev 8 (.ev 9 (.tk 10 .done)))))) 8 (.ev 4 (.tk 5 (.tk 6 (.tk 7 (.ev 9 (.tk 10 .done))))))) 8 (.ev 3 (.ev 4 (.tk 5 (.tk 6 (.tk 7 (.ev 9 (.tk 10 .done)))))))) 8 (.ev 1 (.ev 3 (.ev 4 (.tk 5 (.tk 6 (.tk 7 (.ev 9 (.tk 10 .done))))))))))) (by kernel_rfl) fun w2 h2 => ?_
    have hb3w : b3 < w2.heap.size := h2.lt b3 (by simp)
    have hb2w : b2 < w2.heap.size := h2.lt b2 (by simp)
    have st := Stay.start h2.below
    refine Both.mk ?_ ?_
    · skip
      apply CallI.use
      focus (exact fun w3 h3 => rfull_any z w3)
      rintro v w3 v3 h3 hB3 ⟨a1, c1, rfl, hS1⟩
      have st := st.next h3 (fun x hx => by simp at hx <;> omega) hB3
      refine Both.mk ?_ ?_
      · skip
        apply CallI.use
        focus (exact fun w4 h4 => rfull_any ⟨b, n6.b, n6.c, n6.d, n6.e, n6.f⟩ w4)
        rintro v w4 v4 h4 hB4 ⟨a2, c2, rfl, hS2⟩
        have st := st.next h4 (fun x hx => by simp at hx <;> omega) hB4
        refine Both.mk ?_ ?_
        · skip
          apply CallI.use
          focus (exact fun w5 h5 => hcom a1 a2 c1 c2 w5 (hS1.st (st.at h5 (fun x hx => by simp at hx <;> omega))) (hS2.st (st.at h5 (fun x hx => by simp at hx <;> omega))))
          rintro v w5 v5 h5 hB5 ⟨a3, c3, rfl, hO3⟩
          have st := st.next h5 (fun x hx => by simp at hx <;> omega) hB5
          refine NewI.mk fun b9 hb9 => ?_
          rcases hor with ⟨e1, e2⟩ | ⟨e1, e2, e3, e5, e4⟩
          · subst e1; subst e2
            refine Branch.yes rfl ?_
            exact EndI.mk fun w9 h9 => rfl
          · subst e1; subst e2
            refine Branch.no rfl ?_
            have pO : ∀ (hp : List LB) (r L : List Nat) (w6 : World), At ⟨w, w.heap.size, Nat.le_refl _⟩ hp r L v5 w6 → (∀ x, x ∈ L → x = b9) → Own TB w5.heap.size w6 (.slice a3 C.length c3) C := fun hp r L w6 h6 hL => by
              first
                | exact hO3.below (atB h6 (fun x hx => by rw [hL x hx]; exact hb9))
                | exact hO3.at h6 (fun x hx => by rw [hL x hx]; exact h5.lt b9 (by simp))
            apply CallI.use1
            focus (exact fun w6 h6 => rmay04_any 3 C ⟨by omega, by omega⟩ e5 a3 c3 w6 (pO _ _ _ w6 h6 (by simp)).sl)
            intro w6 v6 h6 hB6
            have hO6 := (pO _ _ _ w6 h6 (by simp)).below hB6
            by_cases hk : Dbm.chk 3 C = 0
            · rw [decide_eq_true hk]
              rw [if_pos hk] at e4
              subst e4
              refine Branch.no rfl ?_
              apply CallI.use1
              focus (exact fun w7 h7 => rshort_any 3 a3 c3 C e3 w7 (hO6.below (atB h7 (by simp))).sl)
              intro w7 v7 h7 hB7
              exact EndI.mk fun w9 h9 => rfl
            · rw [decide_eq_false hk]
              rw [if_neg hk] at e4
              subst e4
              refine Branch.yes rfl ?_
              exact EndI.mk fun w9 h9 => rfl
        · skip
          refine NewI.mk fun b9 hb9 => ?_
          apply CallI.use
          focus (exact fun w5 h5 => hcom a1 a2 c1 c2 w5 (hS1.st (st.at h5 (fun x hx => by simp at hx <;> omega))) (hS2.st (st.at h5 (fun x hx => by simp at hx <;> omega))))
          rintro v w5 v5 h5 hB5 ⟨a3, c3, rfl, hO3⟩
          have st := st.next h5 (fun x hx => by simp at hx <;> omega) hB5
          rcases hor with ⟨e1, e2⟩ | ⟨e1, e2, e3, e5, e4⟩
          · subst e1; subst e2
            refine Branch.yes rfl ?_
            exact EndI.mk fun w9 h9 => rfl
          · subst e1; subst e2
            refine Branch.no rfl ?_
            have pO : ∀ (hp : List LB) (r L : List Nat) (w6 : World), At ⟨w, w.heap.size, Nat.le_refl _⟩ hp r L v5 w6 → (∀ x, x ∈ L → x = b9) → Own TB w5.heap.size w6 (.slice a3 C.length c3) C := fun hp r L w6 h6 hL => by
              first
                | exact hO3.below (atB h6 (fun x hx => by rw [hL x hx]; exact hb9))
                | exact hO3.at h6 (fun x hx => by rw [hL x hx]; exact h5.lt b9 (by simp))
            apply CallI.use1
            focus (exact fun w6 h6 => rmay04_any 3 C ⟨by omega, by omega⟩ e5 a3 c3 w6 (pO _ _ _ w6 h6 (by simp)).sl)
            intro w6 v6 h6 hB6
            have hO6 := (pO _ _ _ w6 h6 (by simp)).below hB6
            by_cases hk : Dbm.chk 3 C = 0
            · rw [decide_eq_true hk]
              rw [if_pos hk] at e4
              subst e4
              refine Branch.no rfl ?_
              apply CallI.use1
              focus (exact fun w7 h7 => rshort_any 3 a3 c3 C e3 w7 (hO6.below (atB h7 (by simp))).sl)
              intro w7 v7 h7 hB7
              exact EndI.mk fun w9 h9 => rfl
            · rw [decide_eq_false hk]
              rw [if_neg hk] at e4
              subst e4
              refine Branch.yes rfl ?_
              exact EndI.mk fun w9 h9 => rfl
      · skip
        refine NewI.mk fun b9 hb9 => ?_
        apply CallI.use
        focus (exact fun w4 h4 => rfull_any ⟨b, n6.b, n6.c, n6.d, n6.e, n6.f⟩ w4)
        rintro v w4 v4 h4 hB4 ⟨a2, c2, rfl, hS2⟩
        have st := st.next h4 (fun x hx => by simp at hx <;> omega) hB4
        apply CallI.use
        focus (exact fun w5 h5 => hcom a1 a2 c1 c2 w5 (hS1.st (st.at h5 (fun x hx => by simp at hx <;> omega))) (hS2.st (st.at h5 (fun x hx => by simp at hx <;> omega))))
        rintro v w5 v5 h5 hB5 ⟨a3, c3, rfl, hO3⟩
        have st := st.next h5 (fun x hx => by simp at hx <;> omega) hB5
        rcases hor with ⟨e1, e2⟩ | ⟨e1, e2, e3, e5, e4⟩
        · subst e1; subst e2
          refine Branch.yes rfl ?_
          exact EndI.mk fun w9 h9 => rfl
        · subst e1; subst e2
          refine Branch.no rfl ?_
          have pO : ∀ (hp : List LB) (r L : List Nat) (w6 : World), At ⟨w, w.heap.size, Nat.le_refl _⟩ hp r L v5 w6 → (∀ x, x ∈ L → x = b9) → Own TB w5.heap.size w6 (.slice a3 C.length c3) C := fun hp r L w6 h6 hL => by
            first
              | exact hO3.below (atB h6 (fun x hx => by rw [hL x hx]; exact hb9))
              | exact hO3.at h6 (fun x hx => by rw [hL x hx]; exact h5.lt b9 (by simp))
          apply CallI.use1
          focus (exact fun w6 h6 => rmay04_any 3 C ⟨by omega, by omega⟩ e5 a3 c3 w6 (pO _ _ _ w6 h6 (by simp)).sl)
          intro w6 v6 h6 hB6
          have hO6 := (pO _ _ _ w6 h6 (by simp)).below hB6
          by_cases hk : Dbm.chk 3 C = 0
          · rw [decide_eq_true hk]
            rw [if_pos hk] at e4
            subst e4
            refine Branch.no rfl ?_
            apply CallI.use1
            focus (exact fun w7 h7 => rshort_any 3 a3 c3 C e3 w7 (hO6.below (atB h7 (by simp))).sl)
            intro w7 v7 h7 hB7
            exact EndI.mk fun w9 h9 => rfl
          · rw [decide_eq_false hk]
            rw [if_neg hk] at e4
            subst e4
            refine Branch.yes rfl ?_
            exact EndI.mk fun w9 h9 => rfl
    · skip
      refine NewI.mk fun b9 hb9 => ?_
      apply CallI.use
      focus (exact fun w3 h3 => rfull_any z w3)
      rintro v w3 v3 h3 hB3 ⟨a1, c1, rfl, hS1⟩
      have st := st.next h3 (fun x hx => by simp at hx <;> omega) hB3
      apply CallI.use
      focus (exact fun w4 h4 => rfull_any ⟨b, n6.b, n6.c, n6.d, n6.e, n6.f⟩ w4)
      rintro v w4 v4 h4 hB4 ⟨a2, c2, rfl, hS2⟩
      have st := st.next h4 (fun x hx => by simp at hx <;> omega) hB4
      apply CallI.use
      focus (exact fun w5 h5 => hcom a1 a2 c1 c2 w5 (hS1.st (st.at h5 (fun x hx => by simp at hx <;> omega))) (hS2.st (st.at h5 (fun x hx => by simp at hx <;> omega))))
      rintro v w5 v5 h5 hB5 ⟨a3, c3, rfl, hO3⟩
      have st := st.next h5 (fun x hx => by simp at hx <;> omega) hB5
      rcases hor with ⟨e1, e2⟩ | ⟨e1, e2, e3, e5, e4⟩
      · subst e1; subst e2
        refine Branch.yes rfl ?_
        exact EndI.mk fun w9 h9 => rfl
      · subst e1; subst e2
        refine Branch.no rfl ?_
        have pO : ∀ (hp : List LB) (r L : List Nat) (w6 : World), At ⟨w, w.heap.size, Nat.le_refl _⟩ hp r L v5 w6 → (∀ x, x ∈ L → x = b9) → Own TB w5.heap.size w6 (.slice a3 C.length c3) C := fun hp r L w6 h6 hL => by
          first
            | exact hO3.below (atB h6 (fun x hx => by rw [hL x hx]; exact hb9))
            | exact hO3.at h6 (fun x hx => by rw [hL x hx]; exact h5.lt b9 (by simp))
        apply CallI.use1
        focus (exact fun w6 h6 => rmay04_any 3 C ⟨by omega, by omega⟩ e5 a3 c3 w6 (pO _ _ _ w6 h6 (by simp)).sl)
        intro w6 v6 h6 hB6
        have hO6 := (pO _ _ _ w6 h6 (by simp)).below hB6
        by_cases hk : Dbm.chk 3 C = 0
        · rw [decide_eq_true hk]
          rw [if_pos hk] at e4
          subst e4
          refine Branch.no rfl ?_
          apply CallI.use1
          focus (exact fun w7 h7 => rshort_any 3 a3 c3 C e3 w7 (hO6.below (atB h7 (by simp))).sl)
          intro w7 v7 h7 hB7
          exact EndI.mk fun w9 h9 => rfl
        · rw [decide_eq_false hk]
          rw [if_neg hk] at e4
          subst e4
          refine Branch.yes rfl ?_
          exact EndI.mk fun w9 h9 => rfl
  · refine fun_eq 0 w Tryz.func296 (args := [.agg [.val (.int .i64 z.a), .val (.int .i64 z.b), .val (.int .i64 z.c), .val (.int .i64 z.d), .val (.int .i64 z.e), .val (.int .i64 z.f)], .val (.int .i64 1), .val (.int .i64 b)]) rfl rfl ?_
    refine NewI.mk fun b1 hb1 => ?_
    refine NewI.mk fun b2 hb2 => ?_
    refine CallI.to1 (fun w => hnone w) fun w1 => ?_
    refine NewI.mk fun b3 hb3 => ?_
    have hb3' : w1.heap.size ≤ b3 := hb3
    refine Need.mk (by decide) ?_
    refine DrawI.go (.tk 0 (.tk 2 (.two 1 (.two 3 (.two 4 (.tk 5 (.tk 6 (.tk 7 (.ev 8 (.ev 9 (.tk 10 .done)))))) 8 (.ev 4 (.tk 5 (.tk 6 (.tk 7 (.ev 9 (.tk 10 .done))))))) 8 (.ev 3 (.ev 4 (.tk 5 (.tk 6 (.tk 7 (.ev 9 (.tk 10 .done)))))))) 8 (.ev 1 (.ev 3 (.ev 4 (.tk 5 (.tk 6 (.tk 7 (.ev 9 (.tk 10 .done))))))))))) (by kernel_rfl) fun w2 h2 => ?_
    have hb3w : b3 < w2.heap.size := h2.lt b3 (by simp)
    have hb2w : b2 < w2.heap.size := h2.lt b2 (by simp)
    have st := Stay.start h2.below
    refine Both.mk ?_ ?_
    · skip
      apply CallI.use
      focus (exact fun w3 h3 => rfull_any z w3)
      rintro v w3 v3 h3 hB3 ⟨a1, c1, rfl, hS1⟩
      have st := st.next h3 (fun x hx => by simp at hx <;> omega) hB3
      refine Both.mk ?_ ?_
      · skip
        apply CallI.use
        focus (exact fun w4 h4 => rfull_any ⟨n6.a, b, n6.c, n6.d, n6.e, n6.f⟩ w4)
        rintro v w4 v4 h4 hB4 ⟨a2, c2, rfl, hS2⟩
        have st := st.next h4 (fun x hx => by simp at hx <;> omega) hB4
        refine Both.mk ?_ ?_
        · skip
          apply CallI.use
          focus (exact fun w5 h5 => hcom a1 a2 c1 c2 w5 (hS1.st (st.at h5 (fun x hx => by simp at hx <;> omega))) (hS2.st (st.at h5 (fun x hx => by simp at hx <;> omega))))
          rintro v w5 v5 h5 hB5 ⟨a3, c3, rfl, hO3⟩
          have st := st.next h5 (fun x hx => by simp at hx <;> omega) hB5
          refine NewI.mk fun b9 hb9 => ?_
          rcases hor with ⟨e1, e2⟩ | ⟨e1, e2, e3, e5, e4⟩
          · subst e1; subst e2
            refine Branch.yes rfl ?_
            exact EndI.mk fun w9 h9 => rfl
          · subst e1; subst e2
            refine Branch.no rfl ?_
            have pO : ∀ (hp : List LB) (r L : List Nat) (w6 : World), At ⟨w, w.heap.size, Nat.le_refl _⟩ hp r L v5 w6 → (∀ x, x ∈ L → x = b9) → Own TB w5.heap.size w6 (.slice a3 C.length c3) C := fun hp r L w6 h6 hL => by
              first
                | exact hO3.below (atB h6 (fun x hx => by rw [hL x hx]; exact hb9))
                | exact hO3.at h6 (fun x hx => by rw [hL x hx]; exact h5.lt b9 (by simp))
            apply CallI.use1
            focus (exact fun w6 h6 => rmay04_any 3 C ⟨by omega, by omega⟩ e5 a3 c3 w6 (pO _ _ _ w6 h6 (by simp)).sl)
            intro w6 v6 h6 hB6
            have hO6 := (pO _ _ _ w6 h6 (by simp)).below hB6
            by_cases hk : Dbm.chk 3 C = 0
            · rw [decide_eq_true hk]
              rw [if_pos hk] at e4
              subst e4
              refine Branch.no rfl ?_
              apply CallI.use1
              focus (exact fun w7 h7 => rshort_any 3 a3 c3 C e3 w7 (hO6.below (atB h7 (by simp))).sl)
              intro w7 v7 h7 hB7
              exact EndI.mk fun w9 h9 => rfl
            · rw [decide_eq_false hk]
              rw [if_neg hk] at e4
              subst e4
              refine Branch.yes rfl ?_
              exact EndI.mk fun w9 h9 => rfl
        · skip
          refine NewI.mk fun b9 hb9 => ?_
          apply CallI.use
          focus (exact fun w5 h5 => hcom a1 a2 c1 c2 w5 (hS1.st (st.at h5 (fun x hx => by simp at hx <;> omega))) (hS2.st (st.at h5 (fun x hx => by simp at hx <;> omega))))
          rintro v w5 v5 h5 hB5 ⟨a3, c3, rfl, hO3⟩
          have st := st.next h5 (fun x hx => by simp at hx <;> omega) hB5
          rcases hor with ⟨e1, e2⟩ | ⟨e1, e2, e3, e5, e4⟩
          · subst e1; subst e2
            refine Branch.yes rfl ?_
            exact EndI.mk fun w9 h9 => rfl
          · subst e1; subst e2
            refine Branch.no rfl ?_
            have pO : ∀ (hp : List LB) (r L : List Nat) (w6 : World), At ⟨w, w.heap.size, Nat.le_refl _⟩ hp r L v5 w6 → (∀ x, x ∈ L → x = b9) → Own TB w5.heap.size w6 (.slice a3 C.length c3) C := fun hp r L w6 h6 hL => by
              first
                | exact hO3.below (atB h6 (fun x hx => by rw [hL x hx]; exact hb9))
                | exact hO3.at h6 (fun x hx => by rw [hL x hx]; exact h5.lt b9 (by simp))
            apply CallI.use1
            focus (exact fun w6 h6 => rmay04_any 3 C ⟨by omega, by omega⟩ e5 a3 c3 w6 (pO _ _ _ w6 h6 (by simp)).sl)
            intro w6 v6 h6 hB6
            have hO6 := (pO _ _ _ w6 h6 (by simp)).below hB6
            by_cases hk : Dbm.chk 3 C = 0
            · rw [decide_eq_true hk]
              rw [if_pos hk] at e4
              subst e4
              refine Branch.no rfl ?_
              apply CallI.use1
              focus (exact fun w7 h7 => rshort_any 3 a3 c3 C e3 w7 (hO6.below (atB h7 (by simp))).sl)
              intro w7 v7 h7 hB7
              exact EndI.mk fun w9 h9 => rfl
            · rw [decide_eq_false hk]
              rw [if_neg hk] at e4
              subst e4
              refine Branch.yes rfl ?_
              exact EndI.mk fun w9 h9 => rfl
      · skip
        refine NewI.mk fun b9 hb9 => ?_
        apply CallI.use
        focus (exact fun w4 h4 => rfull_any ⟨n6.a, b, n6.c, n6.d, n6.e, n6.f⟩ w4)
        rintro v w4 v4 h4 hB4 ⟨a2, c2, rfl, hS2⟩
        have st := st.next h4 (fun x hx => by simp at hx <;> omega) hB4
        apply CallI.use
        focus (exact fun w5 h5 => hcom a1 a2 c1 c2 w5 (hS1.st (st.at h5 (fun x hx => by simp at hx <;> omega))) (hS2.st (st.at h5 (fun x hx => by simp at hx <;> omega))))
        rintro v w5 v5 h5 hB5 ⟨a3, c3, rfl, hO3⟩
        have st := st.next h5 (fun x hx => by simp at hx <;> omega) hB5
        rcases hor with ⟨e1, e2⟩ | ⟨e1, e2, e3, e5, e4⟩
        · subst e1; subst e2
          refine Branch.yes rfl ?_
          exact EndI.mk fun w9 h9 => rfl
        · subst e1; subst e2
          refine Branch.no rfl ?_
          have pO : ∀ (hp : List LB) (r L : List Nat) (w6 : World), At ⟨w, w.heap.size, Nat.le_refl _⟩ hp r L v5 w6 → (∀ x, x ∈ L → x = b9) → Own TB w5.heap.size w6 (.slice a3 C.length c3) C := fun hp r L w6 h6 hL => by
            first
              | exact hO3.below (atB h6 (fun x hx => by rw [hL x hx]; exact hb9))
              | exact hO3.at h6 (fun x hx => by rw [hL x hx]; exact h5.lt b9 (by simp))
          apply CallI.use1
          focus (exact fun w6 h6 => rmay04_any 3 C ⟨by omega, by omega⟩ e5 a3 c3 w6 (pO _ _ _ w6 h6 (by simp)).sl)
          intro w6 v6 h6 hB6
          have hO6 := (pO _ _ _ w6 h6 (by simp)).below hB6
          by_cases hk : Dbm.chk 3 C = 0
          · rw [decide_eq_true hk]
            rw [if_pos hk] at e4
            subst e4
            refine Branch.no rfl ?_
            apply CallI.use1
            focus (exact fun w7 h7 => rshort_any 3 a3 c3 C e3 w7 (hO6.below (atB h7 (by simp))).sl)
            intro w7 v7 h7 hB7
            exact EndI.mk fun w9 h9 => rfl
          · rw [decide_eq_false hk]
            rw [if_neg hk] at e4
            subst e4
            refine Branch.yes rfl ?_
            exact EndI.mk fun w9 h9 => rfl
    · skip
      refine NewI.mk fun b9 hb9 => ?_
      apply CallI.use
      focus (exact fun w3 h3 => rfull_any z w3)
      rintro v w3 v3 h3 hB3 ⟨a1, c1, rfl, hS1⟩
      have st := st.next h3 (fun x hx => by simp at hx <;> omega) hB3
      apply CallI.use
      focus (exact fun w4 h4 => rfull_any ⟨n6.a, b, n6.c, n6.d, n6.e, n6.f⟩ w4)
      rintro v w4 v4 h4 hB4 ⟨a2, c2, rfl, hS2⟩
      have st := st.next h4 (fun x hx => by simp at hx <;> omega) hB4
      apply CallI.use
      focus (exact fun w5 h5 => hcom a1 a2 c1 c2 w5 (hS1.st (st.at h5 (fun x hx => by simp at hx <;> omega))) (hS2.st (st.at h5 (fun x hx => by simp at hx <;> omega))))
      rintro v w5 v5 h5 hB5 ⟨a3, c3, rfl, hO3⟩
      have st := st.next h5 (fun x hx => by simp at hx <;> omega) hB5
      rcases hor with ⟨e1, e2⟩ | ⟨e1, e2, e3, e5, e4⟩
      · subst e1; subst e2
        refine Branch.yes rfl ?_
        exact EndI.mk fun w9 h9 => rfl
      · subst e1; subst e2
        refine Branch.no rfl ?_
        have pO : ∀ (hp : List LB) (r L : List Nat) (w6 : World), At ⟨w, w.heap.size, Nat.le_refl _⟩ hp r L v5 w6 → (∀ x, x ∈ L → x = b9) → Own TB w5.heap.size w6 (.slice a3 C.length c3) C := fun hp r L w6 h6 hL => by
          first
            | exact hO3.below (atB h6 (fun x hx => by rw [hL x hx]; exact hb9))
            | exact hO3.at h6 (fun x hx => by rw [hL x hx]; exact h5.lt b9 (by simp))
        apply CallI.use1
        focus (exact fun w6 h6 => rmay04_any 3 C ⟨by omega, by omega⟩ e5 a3 c3 w6 (pO _ _ _ w6 h6 (by simp)).sl)
        intro w6 v6 h6 hB6
        have hO6 := (pO _ _ _ w6 h6 (by simp)).below hB6
        by_cases hk : Dbm.chk 3 C = 0
        · rw [decide_eq_true hk]
          rw [if_pos hk] at e4
          subst e4
          refine Branch.no rfl ?_
          apply CallI.use1
          focus (exact fun w7 h7 => rshort_any 3 a3 c3 C e3 w7 (hO6.below (atB h7 (by simp))).sl)
          intro w7 v7 h7 hB7
          exact EndI.mk fun w9 h9 => rfl
        · rw [decide_eq_false hk]
          rw [if_neg hk] at e4
          subst e4
          refine Branch.yes rfl ?_
          exact EndI.mk fun w9 h9 => rfl
  · refine fun_eq 0 w Tryz.func296 (args := [.agg [.val (.int .i64 z.a), .val (.int .i64 z.b), .val (.int .i64 z.c), .val (.int .i64 z.d), .val (.int .i64 z.e), .val (.int .i64 z.f)], .val (.int .i64 2), .val (.int .i64 b)]) rfl rfl ?_
    refine NewI.mk fun b1 hb1 => ?_
    refine NewI.mk fun b2 hb2 => ?_
    refine CallI.to1 (fun w => hnone w) fun w1 => ?_
    refine NewI.mk fun b3 hb3 => ?_
    have hb3' : w1.heap.size ≤ b3 := hb3
    refine Need.mk (by decide) ?_
    refine DrawI.go (.tk 0 (.tk 2 (.two 1 (.two 3 (.two 4 (.tk 5 (.tk 6 (.tk 7 (.ev 8 (.ev 9 (.tk 10 .done)))))) 8 (.ev 4 (.tk 5 (.tk 6 (.tk 7 (.ev 9 (.tk 10 .done))))))) 8 (.ev 3 (.ev 4 (.tk 5 (.tk 6 (.tk 7 (.ev 9 (.tk 10 .done)))))))) 8 (.ev 1 (.ev 3 (.ev 4 (.tk 5 (.tk 6 (.tk 7 (.ev 9 (.tk 10 .done))))))))))) (by kernel_rfl) fun w2 h2 => ?_
    have hb3w : b3 < w2.heap.size := h2.lt b3 (by simp)
    have hb2w : b2 < w2.heap.size := h2.lt b2 (by simp)
    have st := Stay.start h2.below
    refine Both.mk ?_ ?_
    · skip
      apply CallI.use
      focus (exact fun w3 h3 => rfull_any z w3)
      rintro v w3 v3 h3 hB3 ⟨a1, c1, rfl, hS1⟩
      have st := st.next h3 (fun x hx => by simp at hx <;> omega) hB3
      refine Both.mk ?_ ?_
      · skip
        apply CallI.use
        focus (exact fun w4 h4 => rfull_any ⟨n6.a, n6.b, b, n6.d, n6.e, n6.f⟩ w4)
        rintro v w4 v4 h4 hB4 ⟨a2, c2, rfl, hS2⟩
        have st := st.next h4 (fun x hx => by simp at hx <;> omega) hB4
        refine Both.mk ?_ ?_
        · skip
          apply CallI.use
          focus (exact fun w5 h5 => hcom a1 a2 c1 c2 w5 (hS1.st (st.at h5 (fun x hx => by simp at hx <;> omega))) (hS2.st (st.at h5 (fun x hx => by simp at hx <;> omega))))
          rintro v w5 v5 h5 hB5 ⟨a3, c3, rfl, hO3⟩
          have st := st.next h5 (fun x hx => by simp at hx <;> omega) hB5
          refine NewI.mk fun b9 hb9 => ?_
          rcases hor with ⟨e1, e2⟩ | ⟨e1, e2, e3, e5, e4⟩
          · subst e1; subst e2
            refine Branch.yes rfl ?_
            exact EndI.mk fun w9 h9 => rfl
          · subst e1; subst e2
            refine Branch.no rfl ?_
            have pO : ∀ (hp : List LB) (r L : List Nat) (w6 : World), At ⟨w, w.heap.size, Nat.le_refl _⟩ hp r L v5 w6 → (∀ x, x ∈ L → x = b9) → Own TB w5.heap.size w6 (.slice a3 C.length c3) C := fun hp r L w6 h6 hL => by
              first
                | exact hO3.below (atB h6 (fun x hx => by rw [hL x hx]; exact hb9))
                | exact hO3.at h6 (fun x hx => by rw [hL x hx]; exact h5.lt b9 (by simp))
            apply CallI.use1
            focus (exact fun w6 h6 => rmay04_any 3 C ⟨by omega, by omega⟩ e5 a3 c3 w6 (pO _ _ _ w6 h6 (by simp)).sl)
            intro w6 v6 h6 hB6
            have hO6 := (pO _ _ _ w6 h6 (by simp)).below hB6
            by_cases hk : Dbm.chk 3 C = 0
            · rw [decide_eq_true hk]
              rw [if_pos hk] at e4
              subst e4
              refine Branch.no rfl ?_
              apply CallI.use1
              focus (exact fun w7 h7 => rshort_any 3 a3 c3 C e3 w7 (hO6.below (atB h7 (by simp))).sl)
              intro w7 v7 h7 hB7
              exact EndI.mk fun w9 h9 => rfl
            · rw [decide_eq_false hk]
              rw [if_neg hk] at e4
              subst e4
              refine Branch.yes rfl ?_
              exact EndI.mk fun w9 h9 => rfl
        · skip
          refine NewI.mk fun b9 hb9 => ?_
          apply CallI.use
          focus (exact fun w5 h5 => hcom a1 a2 c1 c2 w5 (hS1.st (st.at h5 (fun x hx => by simp at hx <;> omega))) (hS2.st (st.at h5 (fun x hx => by simp at hx <;> omega))))
          rintro v w5 v5 h5 hB5 ⟨a3, c3, rfl, hO3⟩
          have st := st.next h5 (fun x hx => by simp at hx <;> omega) hB5
          rcases hor with ⟨e1, e2⟩ | ⟨e1, e2, e3, e5, e4⟩
          · subst e1; subst e2
            refine Branch.yes rfl ?_
            exact EndI.mk fun w9 h9 => rfl
          · subst e1; subst e2
            refine Branch.no rfl ?_
            have pO : ∀ (hp : List LB) (r L : List Nat) (w6 : World), At ⟨w, w.heap.size, Nat.le_refl _⟩ hp r L v5 w6 → (∀ x, x ∈ L → x = b9) → Own TB w5.heap.size w6 (.slice a3 C.length c3) C := fun hp r L w6 h6 hL => by
              first
                | exact hO3.below (atB h6 (fun x hx => by rw [hL x hx]; exact hb9))
                | exact hO3.at h6 (fun x hx => by rw [hL x hx]; exact h5.lt b9 (by simp))
            apply CallI.use1
            focus (exact fun w6 h6 => rmay04_any 3 C ⟨by omega, by omega⟩ e5 a3 c3 w6 (pO _ _ _ w6 h6 (by simp)).sl)
            intro w6 v6 h6 hB6
            have hO6 := (pO _ _ _ w6 h6 (by simp)).below hB6
            by_cases hk : Dbm.chk 3 C = 0
            · rw [decide_eq_true hk]
              rw [if_pos hk] at e4
              subst e4
              refine Branch.no rfl ?_
              apply CallI.use1
              focus (exact fun w7 h7 => rshort_any 3 a3 c3 C e3 w7 (hO6.below (atB h7 (by simp))).sl)
              intro w7 v7 h7 hB7
              exact EndI.mk fun w9 h9 => rfl
            · rw [decide_eq_false hk]
              rw [if_neg hk] at e4
              subst e4
              refine Branch.yes rfl ?_
              exact EndI.mk fun w9 h9 => rfl
      · skip
        refine NewI.mk fun b9 hb9 => ?_
        apply CallI.use
        focus (exact fun w4 h4 => rfull_any ⟨n6.a, n6.b, b, n6.d, n6.e, n6.f⟩ w4)
        rintro v w4 v4 h4 hB4 ⟨a2, c2, rfl, hS2⟩
        have st := st.next h4 (fun x hx => by simp at hx <;> omega) hB4
        apply CallI.use
        focus (exact fun w5 h5 => hcom a1 a2 c1 c2 w5 (hS1.st (st.at h5 (fun x hx => by simp at hx <;> omega))) (hS2.st (st.at h5 (fun x hx => by simp at hx <;> omega))))
        rintro v w5 v5 h5 hB5 ⟨a3, c3, rfl, hO3⟩
        have st := st.next h5 (fun x hx => by simp at hx <;> omega) hB5
        rcases hor with ⟨e1, e2⟩ | ⟨e1, e2, e3, e5, e4⟩
        · subst e1; subst e2
          refine Branch.yes rfl ?_
          exact EndI.mk fun w9 h9 => rfl
        · subst e1; subst e2
          refine Branch.no rfl ?_
          have pO : ∀ (hp : List LB) (r L : List Nat) (w6 : World), At ⟨w, w.heap.size, Nat.le_refl _⟩ hp r L v5 w6 → (∀ x, x ∈ L → x = b9) → Own TB w5.heap.size w6 (.slice a3 C.length c3) C := fun hp r L w6 h6 hL => by
            first
              | exact hO3.below (atB h6 (fun x hx => by rw [hL x hx]; exact hb9))
              | exact hO3.at h6 (fun x hx => by rw [hL x hx]; exact h5.lt b9 (by simp))
          apply CallI.use1
          focus (exact fun w6 h6 => rmay04_any 3 C ⟨by omega, by omega⟩ e5 a3 c3 w6 (pO _ _ _ w6 h6 (by simp)).sl)
          intro w6 v6 h6 hB6
          have hO6 := (pO _ _ _ w6 h6 (by simp)).below hB6
          by_cases hk : Dbm.chk 3 C = 0
          · rw [decide_eq_true hk]
            rw [if_pos hk] at e4
            subst e4
            refine Branch.no rfl ?_
            apply CallI.use1
            focus (exact fun w7 h7 => rshort_any 3 a3 c3 C e3 w7 (hO6.below (atB h7 (by simp))).sl)
            intro w7 v7 h7 hB7
            exact EndI.mk fun w9 h9 => rfl
          · rw [decide_eq_false hk]
            rw [if_neg hk] at e4
            subst e4
            refine Branch.yes rfl ?_
            exact EndI.mk fun w9 h9 => rfl
    · skip
      refine NewI.mk fun b9 hb9 => ?_
      apply CallI.use
      focus (exact fun w3 h3 => rfull_any z w3)
      rintro v w3 v3 h3 hB3 ⟨a1, c1, rfl, hS1⟩
      have st := st.next h3 (fun x hx => by simp at hx <;> omega) hB3
      apply CallI.use
      focus (exact fun w4 h4 => rfull_any ⟨n6.a, n6.b, b, n6.d, n6.e, n6.f⟩ w4)
      rintro v w4 v4 h4 hB4 ⟨a2, c2, rfl, hS2⟩
      have st := st.next h4 (fun x hx => by simp at hx <;> omega) hB4
      apply CallI.use
      focus (exact fun w5 h5 => hcom a1 a2 c1 c2 w5 (hS1.st (st.at h5 (fun x hx => by simp at hx <;> omega))) (hS2.st (st.at h5 (fun x hx => by simp at hx <;> omega))))
      rintro v w5 v5 h5 hB5 ⟨a3, c3, rfl, hO3⟩
      have st := st.next h5 (fun x hx => by simp at hx <;> omega) hB5
      rcases hor with ⟨e1, e2⟩ | ⟨e1, e2, e3, e5, e4⟩
      · subst e1; subst e2
        refine Branch.yes rfl ?_
        exact EndI.mk fun w9 h9 => rfl
      · subst e1; subst e2
        refine Branch.no rfl ?_
        have pO : ∀ (hp : List LB) (r L : List Nat) (w6 : World), At ⟨w, w.heap.size, Nat.le_refl _⟩ hp r L v5 w6 → (∀ x, x ∈ L → x = b9) → Own TB w5.heap.size w6 (.slice a3 C.length c3) C := fun hp r L w6 h6 hL => by
          first
            | exact hO3.below (atB h6 (fun x hx => by rw [hL x hx]; exact hb9))
            | exact hO3.at h6 (fun x hx => by rw [hL x hx]; exact h5.lt b9 (by simp))
        apply CallI.use1
        focus (exact fun w6 h6 => rmay04_any 3 C ⟨by omega, by omega⟩ e5 a3 c3 w6 (pO _ _ _ w6 h6 (by simp)).sl)
        intro w6 v6 h6 hB6
        have hO6 := (pO _ _ _ w6 h6 (by simp)).below hB6
        by_cases hk : Dbm.chk 3 C = 0
        · rw [decide_eq_true hk]
          rw [if_pos hk] at e4
          subst e4
          refine Branch.no rfl ?_
          apply CallI.use1
          focus (exact fun w7 h7 => rshort_any 3 a3 c3 C e3 w7 (hO6.below (atB h7 (by simp))).sl)
          intro w7 v7 h7 hB7
          exact EndI.mk fun w9 h9 => rfl
        · rw [decide_eq_false hk]
          rw [if_neg hk] at e4
          subst e4
          refine Branch.yes rfl ?_
          exact EndI.mk fun w9 h9 => rfl
  · refine fun_eq 0 w Tryz.func296 (args := [.agg [.val (.int .i64 z.a), .val (.int .i64 z.b), .val (.int .i64 z.c), .val (.int .i64 z.d), .val (.int .i64 z.e), .val (.int .i64 z.f)], .val (.int .i64 3), .val (.int .i64 b)]) rfl rfl ?_
    refine NewI.mk fun b1 hb1 => ?_
    refine NewI.mk fun b2 hb2 => ?_
    refine CallI.to1 (fun w => hnone w) fun w1 => ?_
    refine NewI.mk fun b3 hb3 => ?_
    have hb3' : w1.heap.size ≤ b3 := hb3
    refine Need.mk (by decide) ?_
    refine DrawI.go (.tk 0 (.tk 2 (.two 1 (.two 3 (.two 4 (.tk 5 (.tk 6 (.tk 7 (.ev 8 (.ev 9 (.tk 10 .done)))))) 8 (.ev 4 (.tk 5 (.tk 6 (.tk 7 (.ev 9 (.tk 10 .done))))))) 8 (.ev 3 (.ev 4 (.tk 5 (.tk 6 (.tk 7 (.ev 9 (.tk 10 .done)))))))) 8 (.ev 1 (.ev 3 (.ev 4 (.tk 5 (.tk 6 (.tk 7 (.ev 9 (.tk 10 .done))))))))))) (by kernel_rfl) fun w2 h2 => ?_
    have hb3w : b3 < w2.heap.size := h2.lt b3 (by simp)
    have hb2w : b2 < w2.heap.size := h2.lt b2 (by simp)
    have st := Stay.start h2.below
    refine Both.mk ?_ ?_
    · skip
      apply CallI.use
      focus (exact fun w3 h3 => rfull_any z w3)
      rintro v w3 v3 h3 hB3 ⟨a1, c1, rfl, hS1⟩
      have st := st.next h3 (fun x hx => by simp at hx <;> omega) hB3
      refine Both.mk ?_ ?_
      · skip
        apply CallI.use
        focus (exact fun w4 h4 => rfull_any ⟨n6.a, n6.b, n6.c, b, n6.e, n6.f⟩ w4)
        rintro v w4 v4 h4 hB4 ⟨a2, c2, rfl, hS2⟩
        have st := st.next h4 (fun x hx => by simp at hx <;> omega) hB4
        refine Both.mk ?_ ?_
        · skip
          apply CallI.use
          focus (exact fun w5 h5 => hcom a1 a2 c1 c2 w5 (hS1.st (st.at h5 (fun x hx => by simp at hx <;> omega))) (hS2.st (st.at h5 (fun x hx => by simp at hx <;> omega))))
          rintro v w5 v5 h5 hB5 ⟨a3, c3, rfl, hO3⟩
          have st := st.next h5 (fun x hx => by simp at hx <;> omega) hB5
          refine NewI.mk fun b9 hb9 => ?_
          rcases hor with ⟨e1, e2⟩ | ⟨e1, e2, e3, e5, e4⟩
          · subst e1; subst e2
            refine Branch.yes rfl ?_
            exact EndI.mk fun w9 h9 => rfl
          · subst e1; subst e2
            refine Branch.no rfl ?_
            have pO : ∀ (hp : List LB) (r L : List Nat) (w6 : World), At ⟨w, w.heap.size, Nat.le_refl _⟩ hp r L v5 w6 → (∀ x, x ∈ L → x = b9) → Own TB w5.heap.size w6 (.slice a3 C.length c3) C := fun hp r L w6 h6 hL => by
              first
                | exact hO3.below (atB h6 (fun x hx => by rw [hL x hx]; exact hb9))
                | exact hO3.at h6 (fun x hx => by rw [hL x hx]; exact h5.lt b9 (by simp))
            apply CallI.use1
            focus (exact fun w6 h6 => rmay04_any 3 C ⟨by omega, by omega⟩ e5 a3 c3 w6 (pO _ _ _ w6 h6 (by simp)).sl)
            intro w6 v6 h6 hB6
            have hO6 := (pO _ _ _ w6 h6 (by simp)).below hB6
            by_cases hk : Dbm.chk 3 C = 0
            · rw [decide_eq_true hk]
              rw [if_pos hk] at e4
              subst e4
              refine Branch.no rfl ?_
              apply CallI.use1
              focus (exact fun w7 h7 => rshort_any 3 a3 c3 C e3 w7 (hO6.below (atB h7 (by simp))).sl)
              intro w7 v7 h7 hB7
              exact EndI.mk fun w9 h9 => rfl
            · rw [decide_eq_false hk]
              rw [if_neg hk] at e4
              subst e4
              refine Branch.yes rfl ?_
              exact EndI.mk fun w9 h9 => rfl
        · skip
          refine NewI.mk fun b9 hb9 => ?_
          apply CallI.use
          focus (exact fun w5 h5 => hcom a1 a2 c1 c2 w5 (hS1.st (st.at h5 (fun x hx => by simp at hx <;> omega))) (hS2.st (st.at h5 (fun x hx => by simp at hx <;> omega))))
          rintro v w5 v5 h5 hB5 ⟨a3, c3, rfl, hO3⟩
          have st := st.next h5 (fun x hx => by simp at hx <;> omega) hB5
          rcases hor with ⟨e1, e2⟩ | ⟨e1, e2, e3, e5, e4⟩
          · subst e1; subst e2
            refine Branch.yes rfl ?_
            exact EndI.mk fun w9 h9 => rfl
          · subst e1; subst e2
            refine Branch.no rfl ?_
            have pO : ∀ (hp : List LB) (r L : List Nat) (w6 : World), At ⟨w, w.heap.size, Nat.le_refl _⟩ hp r L v5 w6 → (∀ x, x ∈ L → x = b9) → Own TB w5.heap.size w6 (.slice a3 C.length c3) C := fun hp r L w6 h6 hL => by
              first
                | exact hO3.below (atB h6 (fun x hx => by rw [hL x hx]; exact hb9))
                | exact hO3.at h6 (fun x hx => by rw [hL x hx]; exact h5.lt b9 (by simp))
            apply CallI.use1
            focus (exact fun w6 h6 => rmay04_any 3 C ⟨by omega, by omega⟩ e5 a3 c3 w6 (pO _ _ _ w6 h6 (by simp)).sl)
            intro w6 v6 h6 hB6
            have hO6 := (pO _ _ _ w6 h6 (by simp)).below hB6
            by_cases hk : Dbm.chk 3 C = 0
            · rw [decide_eq_true hk]
              rw [if_pos hk] at e4
              subst e4
              refine Branch.no rfl ?_
              apply CallI.use1
              focus (exact fun w7 h7 => rshort_any 3 a3 c3 C e3 w7 (hO6.below (atB h7 (by simp))).sl)
              intro w7 v7 h7 hB7
              exact EndI.mk fun w9 h9 => rfl
            · rw [decide_eq_false hk]
              rw [if_neg hk] at e4
              subst e4
              refine Branch.yes rfl ?_
              exact EndI.mk fun w9 h9 => rfl
      · skip
        refine NewI.mk fun b9 hb9 => ?_
        apply CallI.use
        focus (exact fun w4 h4 => rfull_any ⟨n6.a, n6.b, n6.c, b, n6.e, n6.f⟩ w4)
        rintro v w4 v4 h4 hB4 ⟨a2, c2, rfl, hS2⟩
        have st := st.next h4 (fun x hx => by simp at hx <;> omega) hB4
        apply CallI.use
        focus (exact fun w5 h5 => hcom a1 a2 c1 c2 w5 (hS1.st (st.at h5 (fun x hx => by simp at hx <;> omega))) (hS2.st (st.at h5 (fun x hx => by simp at hx <;> omega))))
        rintro v w5 v5 h5 hB5 ⟨a3, c3, rfl, hO3⟩
        have st := st.next h5 (fun x hx => by simp at hx <;> omega) hB5
        rcases hor with ⟨e1, e2⟩ | ⟨e1, e2, e3, e5, e4⟩
        · subst e1; subst e2
          refine Branch.yes rfl ?_
          exact EndI.mk fun w9 h9 => rfl
        · subst e1; subst e2
          refine Branch.no rfl ?_
          have pO : ∀ (hp : List LB) (r L : List Nat) (w6 : World), At ⟨w, w.heap.size, Nat.le_refl _⟩ hp r L v5 w6 → (∀ x, x ∈ L → x = b9) → Own TB w5.heap.size w6 (.slice a3 C.length c3) C := fun hp r L w6 h6 hL => by
            first
              | exact hO3.below (atB h6 (fun x hx => by rw [hL x hx]; exact hb9))
              | exact hO3.at h6 (fun x hx => by rw [hL x hx]; exact h5.lt b9 (by simp))
          apply CallI.use1
          focus (exact fun w6 h6 => rmay04_any 3 C ⟨by omega, by omega⟩ e5 a3 c3 w6 (pO _ _ _ w6 h6 (by simp)).sl)
          intro w6 v6 h6 hB6
          have hO6 := (pO _ _ _ w6 h6 (by simp)).below hB6
          by_cases hk : Dbm.chk 3 C = 0
          · rw [decide_eq_true hk]
            rw [if_pos hk] at e4
            subst e4
            refine Branch.no rfl ?_
            apply CallI.use1
            focus (exact fun w7 h7 => rshort_any 3 a3 c3 C e3 w7 (hO6.below (atB h7 (by simp))).sl)
            intro w7 v7 h7 hB7
            exact EndI.mk fun w9 h9 => rfl
          · rw [decide_eq_false hk]
            rw [if_neg hk] at e4
            subst e4
            refine Branch.yes rfl ?_
            exact EndI.mk fun w9 h9 => rfl
    · skip
      refine NewI.mk fun b9 hb9 => ?_
      apply CallI.use
      focus (exact fun w3 h3 => rfull_any z w3)
      rintro v w3 v3 h3 hB3 ⟨a1, c1, rfl, hS1⟩
      have st := st.next h3 (fun x hx => by simp at hx <;> omega) hB3
      apply CallI.use
      focus (exact fun w4 h4 => rfull_any ⟨n6.a, n6.b, n6.c, b, n6.e, n6.f⟩ w4)
      rintro v w4 v4 h4 hB4 ⟨a2, c2, rfl, hS2⟩
      have st := st.next h4 (fun x hx => by simp at hx <;> omega) hB4
      apply CallI.use
      focus (exact fun w5 h5 => hcom a1 a2 c1 c2 w5 (hS1.st (st.at h5 (fun x hx => by simp at hx <;> omega))) (hS2.st (st.at h5 (fun x hx => by simp at hx <;> omega))))
      rintro v w5 v5 h5 hB5 ⟨a3, c3, rfl, hO3⟩
      have st := st.next h5 (fun x hx => by simp at hx <;> omega) hB5
      rcases hor with ⟨e1, e2⟩ | ⟨e1, e2, e3, e5, e4⟩
      · subst e1; subst e2
        refine Branch.yes rfl ?_
        exact EndI.mk fun w9 h9 => rfl
      · subst e1; subst e2
        refine Branch.no rfl ?_
        have pO : ∀ (hp : List LB) (r L : List Nat) (w6 : World), At ⟨w, w.heap.size, Nat.le_refl _⟩ hp r L v5 w6 → (∀ x, x ∈ L → x = b9) → Own TB w5.heap.size w6 (.slice a3 C.length c3) C := fun hp r L w6 h6 hL => by
          first
            | exact hO3.below (atB h6 (fun x hx => by rw [hL x hx]; exact hb9))
            | exact hO3.at h6 (fun x hx => by rw [hL x hx]; exact h5.lt b9 (by simp))
        apply CallI.use1
        focus (exact fun w6 h6 => rmay04_any 3 C ⟨by omega, by omega⟩ e5 a3 c3 w6 (pO _ _ _ w6 h6 (by simp)).sl)
        intro w6 v6 h6 hB6
        have hO6 := (pO _ _ _ w6 h6 (by simp)).below hB6
        by_cases hk : Dbm.chk 3 C = 0
        · rw [decide_eq_true hk]
          rw [if_pos hk] at e4
          subst e4
          refine Branch.no rfl ?_
          apply CallI.use1
          focus (exact fun w7 h7 => rshort_any 3 a3 c3 C e3 w7 (hO6.below (atB h7 (by simp))).sl)
          intro w7 v7 h7 hB7
          exact EndI.mk fun w9 h9 => rfl
        · rw [decide_eq_false hk]
          rw [if_neg hk] at e4
          subst e4
          refine Branch.yes rfl ?_
          exact EndI.mk fun w9 h9 => rfl
  · refine fun_eq 0 w Tryz.func296 (args := [.agg [.val (.int .i64 z.a), .val (.int .i64 z.b), .val (.int .i64 z.c), .val (.int .i64 z.d), .val (.int .i64 z.e), .val (.int .i64 z.f)], .val (.int .i64 4), .val (.int .i64 b)]) rfl rfl ?_
    refine NewI.mk fun b1 hb1 => ?_
    refine NewI.mk fun b2 hb2 => ?_
    refine CallI.to1 (fun w => hnone w) fun w1 => ?_
    refine NewI.mk fun b3 hb3 => ?_
    have hb3' : w1.heap.size ≤ b3 := hb3
    refine Need.mk (by decide) ?_
    refine DrawI.go (.tk 0 (.tk 2 (.two 1 (.two 3 (.two 4 (.tk 5 (.tk 6 (.tk 7 (.ev 8 (.ev 9 (.tk 10 .done)))))) 8 (.ev 4 (.tk 5 (.tk 6 (.tk 7 (.ev 9 (.tk 10 .done))))))) 8 (.ev 3 (.ev 4 (.tk 5 (.tk 6 (.tk 7 (.ev 9 (.tk 10 .done)))))))) 8 (.ev 1 (.ev 3 (.ev 4 (.tk 5 (.tk 6 (.tk 7 (.ev 9 (.tk 10 .done))))))))))) (by kernel_rfl) fun w2 h2 => ?_
    have hb3w : b3 < w2.heap.size := h2.lt b3 (by simp)
    have hb2w : b2 < w2.heap.size := h2.lt b2 (by simp)
    have st := Stay.start h2.below
    refine Both.mk ?_ ?_
    · skip
      apply CallI.use
      focus (exact fun w3 h3 => rfull_any z w3)
      rintro v w3 v3 h3 hB3 ⟨a1, c1, rfl, hS1⟩
      have st := st.next h3 (fun x hx => by simp at hx <;> omega) hB3
      refine Both.mk ?_ ?_
      · skip
        apply CallI.use
        focus (exact fun w4 h4 => rfull_any ⟨n6.a, n6.b, n6.c, n6.d, b, n6.f⟩ w4)
        rintro v w4 v4 h4 hB4 ⟨a2, c2, rfl, hS2⟩
        have st := st.next h4 (fun x hx => by simp at hx <;> omega) hB4
        refine Both.mk ?_ ?_
        · skip
          apply CallI.use
          focus (exact fun w5 h5 => hcom a1 a2 c1 c2 w5 (hS1.st (st.at h5 (fun x hx => by simp at hx <;> omega))) (hS2.st (st.at h5 (fun x hx => by simp at hx <;> omega))))
          rintro v w5 v5 h5 hB5 ⟨a3, c3, rfl, hO3⟩
          have st := st.next h5 (fun x hx => by simp at hx <;> omega) hB5
          refine NewI.mk fun b9 hb9 => ?_
          rcases hor with ⟨e1, e2⟩ | ⟨e1, e2, e3, e5, e4⟩
          · subst e1; subst e2
            refine Branch.yes rfl ?_
            exact EndI.mk fun w9 h9 => rfl
          · subst e1; subst e2
            refine Branch.no rfl ?_
            have pO : ∀ (hp : List LB) (r L : List Nat) (w6 : World), At ⟨w, w.heap.size, Nat.le_refl _⟩ hp r L v5 w6 → (∀ x, x ∈ L → x = b9) → Own TB w5.heap.size w6 (.slice a3 C.length c3) C := fun hp r L w6 h6 hL => by
              first
                | exact hO3.below (atB h6 (fun x hx => by rw [hL x hx]; exact hb9))
                | exact hO3.at h6 (fun x hx => by rw [hL x hx]; exact h5.lt b9 (by simp))
            apply CallI.use1
            focus (exact fun w6 h6 => rmay04_any 3 C ⟨by omega, by omega⟩ e5 a3 c3 w6 (pO _ _ _ w6 h6 (by simp)).sl)
            intro w6 v6 h6 hB6
            have hO6 := (pO _ _ _ w6 h6 (by simp)).below hB6
            by_cases hk : Dbm.chk 3 C = 0
            · rw [decide_eq_true hk]
              rw [if_pos hk] at e4
              subst e4
              refine Branch.no rfl ?_
              apply CallI.use1
              focus (exact fun w7 h7 => rshort_any 3 a3 c3 C e3 w7 (hO6.below (atB h7 (by simp))).sl)
              intro w7 v7 h7 hB7
              exact EndI.mk fun w9 h9 => rfl
            · rw [decide_eq_false hk]
              rw [if_neg hk] at e4
              subst e4
              refine Branch.yes rfl ?_
              exact EndI.mk fun w9 h9 => rfl
        · skip
          refine NewI.mk fun b9 hb9 => ?_
          apply CallI.use
          focus (exact fun w5 h5 => hcom a1 a2 c1 c2 w5 (hS1.st (st.at h5 (fun x hx => by simp at hx <;> omega))) (hS2.st (st.at h5 (fun x hx => by simp at hx <;> omega))))
          rintro v w5 v5 h5 hB5 ⟨a3, c3, rfl, hO3⟩
          have st := st.next h5 (fun x hx => by simp at hx <;> omega) hB5
          rcases hor with ⟨e1, e2⟩ | ⟨e1, e2, e3, e5, e4⟩
          · subst e1; subst e2
            refine Branch.yes rfl ?_
            exact EndI.mk fun w9 h9 => rfl
          · subst e1; subst e2
            refine Branch.no rfl ?_
            have pO : ∀ (hp : List LB) (r L : List Nat) (w6 : World), At ⟨w, w.heap.size, Nat.le_refl _⟩ hp r L v5 w6 → (∀ x, x ∈ L → x = b9) → Own TB w5.heap.size w6 (.slice a3 C.length c3) C := fun hp r L w6 h6 hL => by
              first
                | exact hO3.below (atB h6 (fun x hx => by rw [hL x hx]; exact hb9))
                | exact hO3.at h6 (fun x hx => by rw [hL x hx]; exact h5.lt b9 (by simp))
            apply CallI.use1
            focus (exact fun w6 h6 => rmay04_any 3 C ⟨by omega, by omega⟩ e5 a3 c3 w6 (pO _ _ _ w6 h6 (by simp)).sl)
            intro w6 v6 h6 hB6
            have hO6 := (pO _ _ _ w6 h6 (by simp)).below hB6
            by_cases hk : Dbm.chk 3 C = 0
            · rw [decide_eq_true hk]
              rw [if_pos hk] at e4
              subst e4
              refine Branch.no rfl ?_
              apply CallI.use1
              focus (exact fun w7 h7 => rshort_any 3 a3 c3 C e3 w7 (hO6.below (atB h7 (by simp))).sl)
              intro w7 v7 h7 hB7
              exact EndI.mk fun w9 h9 => rfl
            · rw [decide_eq_false hk]
              rw [if_neg hk] at e4
              subst e4
              refine Branch.yes rfl ?_
              exact EndI.mk fun w9 h9 => rfl
      · skip
        refine NewI.mk fun b9 hb9 => ?_
        apply CallI.use
        focus (exact fun w4 h4 => rfull_any ⟨n6.a, n6.b, n6.c, n6.d, b, n6.f⟩ w4)
        rintro v w4 v4 h4 hB4 ⟨a2, c2, rfl, hS2⟩
        have st := st.next h4 (fun x hx => by simp at hx <;> omega) hB4
        apply CallI.use
        focus (exact fun w5 h5 => hcom a1 a2 c1 c2 w5 (hS1.st (st.at h5 (fun x hx => by simp at hx <;> omega))) (hS2.st (st.at h5 (fun x hx => by simp at hx <;> omega))))
        rintro v w5 v5 h5 hB5 ⟨a3, c3, rfl, hO3⟩
        have st := st.next h5 (fun x hx => by simp at hx <;> omega) hB5
        rcases hor with ⟨e1, e2⟩ | ⟨e1, e2, e3, e5, e4⟩
        · subst e1; subst e2
          refine Branch.yes rfl ?_
          exact EndI.mk fun w9 h9 => rfl
        · subst e1; subst e2
          refine Branch.no rfl ?_
          have pO : ∀ (hp : List LB) (r L : List Nat) (w6 : World), At ⟨w, w.heap.size, Nat.le_refl _⟩ hp r L v5 w6 → (∀ x, x ∈ L → x = b9) → Own TB w5.heap.size w6 (.slice a3 C.length c3) C := fun hp r L w6 h6 hL => by
            first
              | exact hO3.below (atB h6 (fun x hx => by rw [hL x hx]; exact hb9))
              | exact hO3.at h6 (fun x hx => by rw [hL x hx]; exact h5.lt b9 (by simp))
          apply CallI.use1
          focus (exact fun w6 h6 => rmay04_any 3 C ⟨by omega, by omega⟩ e5 a3 c3 w6 (pO _ _ _ w6 h6 (by simp)).sl)
          intro w6 v6 h6 hB6
          have hO6 := (pO _ _ _ w6 h6 (by simp)).below hB6
          by_cases hk : Dbm.chk 3 C = 0
          · rw [decide_eq_true hk]
            rw [if_pos hk] at e4
            subst e4
            refine Branch.no rfl ?_
            apply CallI.use1
            focus (exact fun w7 h7 => rshort_any 3 a3 c3 C e3 w7 (hO6.below (atB h7 (by simp))).sl)
            intro w7 v7 h7 hB7
            exact EndI.mk fun w9 h9 => rfl
          · rw [decide_eq_false hk]
            rw [if_neg hk] at e4
            subst e4
            refine Branch.yes rfl ?_
            exact EndI.mk fun w9 h9 => rfl
    · skip
      refine NewI.mk fun b9 hb9 => ?_
      apply CallI.use
      focus (exact fun w3 h3 => rfull_any z w3)
      rintro v w3 v3 h3 hB3 ⟨a1, c1, rfl, hS1⟩
      have st := st.next h3 (fun x hx => by simp at hx <;> omega) hB3
      apply CallI.use
      focus (exact fun w4 h4 => rfull_any ⟨n6.a, n6.b, n6.c, n6.d, b, n6.f⟩ w4)
      rintro v w4 v4 h4 hB4 ⟨a2, c2, rfl, hS2⟩
      have st := st.next h4 (fun x hx => by simp at hx <;> omega) hB4
      apply CallI.use
      focus (exact fun w5 h5 => hcom a1 a2 c1 c2 w5 (hS1.st (st.at h5 (fun x hx => by simp at hx <;> omega))) (hS2.st (st.at h5 (fun x hx => by simp at hx <;> omega))))
      rintro v w5 v5 h5 hB5 ⟨a3, c3, rfl, hO3⟩
      have st := st.next h5 (fun x hx => by simp at hx <;> omega) hB5
      rcases hor with ⟨e1, e2⟩ | ⟨e1, e2, e3, e5, e4⟩
      · subst e1; subst e2
        refine Branch.yes rfl ?_
        exact EndI.mk fun w9 h9 => rfl
      · subst e1; subst e2
        refine Branch.no rfl ?_
        have pO : ∀ (hp : List LB) (r L : List Nat) (w6 : World), At ⟨w, w.heap.size, Nat.le_refl _⟩ hp r L v5 w6 → (∀ x, x ∈ L → x = b9) → Own TB w5.heap.size w6 (.slice a3 C.length c3) C := fun hp r L w6 h6 hL => by
          first
            | exact hO3.below (atB h6 (fun x hx => by rw [hL x hx]; exact hb9))
            | exact hO3.at h6 (fun x hx => by rw [hL x hx]; exact h5.lt b9 (by simp))
        apply CallI.use1
        focus (exact fun w6 h6 => rmay04_any 3 C ⟨by omega, by omega⟩ e5 a3 c3 w6 (pO _ _ _ w6 h6 (by simp)).sl)
        intro w6 v6 h6 hB6
        have hO6 := (pO _ _ _ w6 h6 (by simp)).below hB6
        by_cases hk : Dbm.chk 3 C = 0
        · rw [decide_eq_true hk]
          rw [if_pos hk] at e4
          subst e4
          refine Branch.no rfl ?_
          apply CallI.use1
          focus (exact fun w7 h7 => rshort_any 3 a3 c3 C e3 w7 (hO6.below (atB h7 (by simp))).sl)
          intro w7 v7 h7 hB7
          exact EndI.mk fun w9 h9 => rfl
        · rw [decide_eq_false hk]
          rw [if_neg hk] at e4
          subst e4
          refine Branch.yes rfl ?_
          exact EndI.mk fun w9 h9 => rfl
  · refine fun_eq 0 w Tryz.func296 (args := [.agg [.val (.int .i64 z.a), .val (.int .i64 z.b), .val (.int .i64 z.c), .val (.int .i64 z.d), .val (.int .i64 z.e), .val (.int .i64 z.f)], .val (.int .i64 5), .val (.int .i64 b)]) rfl rfl ?_
    refine NewI.mk fun b1 hb1 => ?_
    refine NewI.mk fun b2 hb2 => ?_
    refine CallI.to1 (fun w => hnone w) fun w1 => ?_
    refine NewI.mk fun b3 hb3 => ?_
    have hb3' : w1.heap.size ≤ b3 := hb3
    refine Need.mk (by decide) ?_
    refine DrawI.go (.tk 0 (.tk 2 (.two 1 (.two 3 (.two 4 (.tk 5 (.tk 6 (.tk 7 (.ev 8 (.ev 9 (.tk 10 .done)))))) 8 (.ev 4 (.tk 5 (.tk 6 (.tk 7 (.ev 9 (.tk 10 .done))))))) 8 (.ev 3 (.ev 4 (.tk 5 (.tk 6 (.tk 7 (.ev 9 (.tk 10 .done)))))))) 8 (.ev 1 (.ev 3 (.ev 4 (.tk 5 (.tk 6 (.tk 7 (.ev 9 (.tk 10 .done))))))))))) (by kernel_rfl) fun w2 h2 => ?_
    have hb3w : b3 < w2.heap.size := h2.lt b3 (by simp)
    have hb2w : b2 < w2.heap.size := h2.lt b2 (by simp)
    have st := Stay.start h2.below
    refine Both.mk ?_ ?_
    · skip
      apply CallI.use
      focus (exact fun w3 h3 => rfull_any z w3)
      rintro v w3 v3 h3 hB3 ⟨a1, c1, rfl, hS1⟩
      have st := st.next h3 (fun x hx => by simp at hx <;> omega) hB3
      refine Both.mk ?_ ?_
      · skip
        apply CallI.use
        focus (exact fun w4 h4 => rfull_any ⟨n6.a, n6.b, n6.c, n6.d, n6.e, b⟩ w4)
        rintro v w4 v4 h4 hB4 ⟨a2, c2, rfl, hS2⟩
        have st := st.next h4 (fun x hx => by simp at hx <;> omega) hB4
        refine Both.mk ?_ ?_
        · skip
          apply CallI.use
          focus (exact fun w5 h5 => hcom a1 a2 c1 c2 w5 (hS1.st (st.at h5 (fun x hx => by simp at hx <;> omega))) (hS2.st (st.at h5 (fun x hx => by simp at hx <;> omega))))
          rintro v w5 v5 h5 hB5 ⟨a3, c3, rfl, hO3⟩
          have st := st.next h5 (fun x hx => by simp at hx <;> omega) hB5
          refine NewI.mk fun b9 hb9 => ?_
          rcases hor with ⟨e1, e2⟩ | ⟨e1, e2, e3, e5, e4⟩
          · subst e1; subst e2
            refine Branch.yes rfl ?_
            exact EndI.mk fun w9 h9 => rfl
          · subst e1; subst e2
            refine Branch.no rfl ?_
            have pO : ∀ (hp : List LB) (r L : List Nat) (w6 : World), At ⟨w, w.heap.size, Nat.le_refl _⟩ hp r L v5 w6 → (∀ x, x ∈ L → x = b9) → Own TB w5.heap.size w6 (.slice a3 C.length c3) C := fun hp r L w6 h6 hL => by
              first
                | exact hO3.below (atB h6 (fun x hx => by rw [hL x hx]; exact hb9))
                | exact hO3.at h6 (fun x hx => by rw [hL x hx]; exact h5.lt b9 (by simp))
            apply CallI.use1
            focus (exact fun w6 h6 => rmay04_any 3 C ⟨by omega, by omega⟩ e5 a3 c3 w6 (pO _ _ _ w6 h6 (by simp)).sl)
            intro w6 v6 h6 hB6
            have hO6 := (pO _ _ _ w6 h6 (by simp)).below hB6
            by_cases hk : Dbm.chk 3 C = 0
            · rw [decide_eq_true hk]
              rw [if_pos hk] at e4
              subst e4
              refine Branch.no rfl ?_
              apply CallI.use1
              focus (exact fun w7 h7 => rshort_any 3 a3 c3 C e3 w7 (hO6.below (atB h7 (by simp))).sl)
              intro w7 v7 h7 hB7
              exact EndI.mk fun w9 h9 => rfl
            · rw [decide_eq_false hk]
              rw [if_neg hk] at e4
              subst e4
              refine Branch.yes rfl ?_
              exact EndI.mk fun w9 h9 => rfl
        · skip
          refine NewI.mk fun b9 hb9 => ?_
          apply CallI.use
          focus (exact fun w5 h5 => hcom a1 a2 c1 c2 w5 (hS1.st (st.at h5 (fun x hx => by simp at hx <;> omega))) (hS2.st (st.at h5 (fun x hx => by simp at hx <;> omega))))
          rintro v w5 v5 h5 hB5 ⟨a3, c3, rfl, hO3⟩
          have st := st.next h5 (fun x hx => by simp at hx <;> omega) hB5
          rcases hor with ⟨e1, e2⟩ | ⟨e1, e2, e3, e5, e4⟩
          · subst e1; subst e2
            refine Branch.yes rfl ?_
            exact EndI.mk fun w9 h9 => rfl
          · subst e1; subst e2
            refine Branch.no rfl ?_
            have pO : ∀ (hp : List LB) (r L : List Nat) (w6 : World), At ⟨w, w.heap.size, Nat.le_refl _⟩ hp r L v5 w6 → (∀ x, x ∈ L → x = b9) → Own TB w5.heap.size w6 (.slice a3 C.length c3) C := fun hp r L w6 h6 hL => by
              first
                | exact hO3.below (atB h6 (fun x hx => by rw [hL x hx]; exact hb9))
                | exact hO3.at h6 (fun x hx => by rw [hL x hx]; exact h5.lt b9 (by simp))
            apply CallI.use1
            focus (exact fun w6 h6 => rmay04_any 3 C ⟨by omega, by omega⟩ e5 a3 c3 w6 (pO _ _ _ w6 h6 (by simp)).sl)
            intro w6 v6 h6 hB6
            have hO6 := (pO _ _ _ w6 h6 (by simp)).below hB6
            by_cases hk : Dbm.chk 3 C = 0
            · rw [decide_eq_true hk]
              rw [if_pos hk] at e4
              subst e4
              refine Branch.no rfl ?_
              apply CallI.use1
              focus (exact fun w7 h7 => rshort_any 3 a3 c3 C e3 w7 (hO6.below (atB h7 (by simp))).sl)
              intro w7 v7 h7 hB7
              exact EndI.mk fun w9 h9 => rfl
            · rw [decide_eq_false hk]
              rw [if_neg hk] at e4
              subst e4
              refine Branch.yes rfl ?_
              exact EndI.mk fun w9 h9 => rfl
      · skip
        refine NewI.mk fun b9 hb9 => ?_
        apply CallI.use
        focus (exact fun w4 h4 => rfull_any ⟨n6.a, n6.b, n6.c, n6.d, n6.e, b⟩ w4)
        rintro v w4 v4 h4 hB4 ⟨a2, c2, rfl, hS2⟩
        have st := st.next h4 (fun x hx => by simp at hx <;> omega) hB4
        apply CallI.use
        focus (exact fun w5 h5 => hcom a1 a2 c1 c2 w5 (hS1.st (st.at h5 (fun x hx => by simp at hx <;> omega))) (hS2.st (st.at h5 (fun x hx => by simp at hx <;> omega))))
        rintro v w5 v5 h5 hB5 ⟨a3, c3, rfl, hO3⟩
        have st := st.next h5 (fun x hx => by simp at hx <;> omega) hB5
        rcases hor with ⟨e1, e2⟩ | ⟨e1, e2, e3, e5, e4⟩
        · subst e1; subst e2
          refine Branch.yes rfl ?_
          exact EndI.mk fun w9 h9 => rfl
        · subst e1; subst e2
          refine Branch.no rfl ?_
          have pO : ∀ (hp : List LB) (r L : List Nat) (w6 : World), At ⟨w, w.heap.size, Nat.le_refl _⟩ hp r L v5 w6 → (∀ x, x ∈ L → x = b9) → Own TB w5.heap.size w6 (.slice a3 C.length c3) C := fun hp r L w6 h6 hL => by
            first
              | exact hO3.below (atB h6 (fun x hx => by rw [hL x hx]; exact hb9))
              | exact hO3.at h6 (fun x hx => by rw [hL x hx]; exact h5.lt b9 (by simp))
          apply CallI.use1
          focus (exact fun w6 h6 => rmay04_any 3 C ⟨by omega, by omega⟩ e5 a3 c3 w6 (pO _ _ _ w6 h6 (by simp)).sl)
          intro w6 v6 h6 hB6
          have hO6 := (pO _ _ _ w6 h6 (by simp)).below hB6
          by_cases hk : Dbm.chk 3 C = 0
          · rw [decide_eq_true hk]
            rw [if_pos hk] at e4
            subst e4
            refine Branch.no rfl ?_
            apply CallI.use1
            focus (exact fun w7 h7 => rshort_any 3 a3 c3 C e3 w7 (hO6.below (atB h7 (by simp))).sl)
            intro w7 v7 h7 hB7
            exact EndI.mk fun w9 h9 => rfl
          · rw [decide_eq_false hk]
            rw [if_neg hk] at e4
            subst e4
            refine Branch.yes rfl ?_
            exact EndI.mk fun w9 h9 => rfl
    · skip
      refine NewI.mk fun b9 hb9 => ?_
      apply CallI.use
      focus (exact fun w3 h3 => rfull_any z w3)
      rintro v w3 v3 h3 hB3 ⟨a1, c1, rfl, hS1⟩
      have st := st.next h3 (fun x hx => by simp at hx <;> omega) hB3
      apply CallI.use
      focus (exact fun w4 h4 => rfull_any ⟨n6.a, n6.b, n6.c, n6.d, n6.e, b⟩ w4)
      rintro v w4 v4 h4 hB4 ⟨a2, c2, rfl, hS2⟩
      have st := st.next h4 (fun x hx => by simp at hx <;> omega) hB4
      apply CallI.use
      focus (exact fun w5 h5 => hcom a1 a2 c1 c2 w5 (hS1.st (st.at h5 (fun x hx => by simp at hx <;> omega))) (hS2.st (st.at h5 (fun x hx => by simp at hx <;> omega))))
      rintro v w5 v5 h5 hB5 ⟨a3, c3, rfl, hO3⟩
      have st := st.next h5 (fun x hx => by simp at hx <;> omega) hB5
      rcases hor with ⟨e1, e2⟩ | ⟨e1, e2, e3, e5, e4⟩
      · subst e1; subst e2
        refine Branch.yes rfl ?_
        exact EndI.mk fun w9 h9 => rfl
      · subst e1; subst e2
        refine Branch.no rfl ?_
        have pO : ∀ (hp : List LB) (r L : List Nat) (w6 : World), At ⟨w, w.heap.size, Nat.le_refl _⟩ hp r L v5 w6 → (∀ x, x ∈ L → x = b9) → Own TB w5.heap.size w6 (.slice a3 C.length c3) C := fun hp r L w6 h6 hL => by
          first
            | exact hO3.below (atB h6 (fun x hx => by rw [hL x hx]; exact hb9))
            | exact hO3.at h6 (fun x hx => by rw [hL x hx]; exact h5.lt b9 (by simp))
        apply CallI.use1
        focus (exact fun w6 h6 => rmay04_any 3 C ⟨by omega, by omega⟩ e5 a3 c3 w6 (pO _ _ _ w6 h6 (by simp)).sl)
        intro w6 v6 h6 hB6
        have hO6 := (pO _ _ _ w6 h6 (by simp)).below hB6
        by_cases hk : Dbm.chk 3 C = 0
        · rw [decide_eq_true hk]
          rw [if_pos hk] at e4
          subst e4
          refine Branch.no rfl ?_
          apply CallI.use1
          focus (exact fun w7 h7 => rshort_any 3 a3 c3 C e3 w7 (hO6.below (atB h7 (by simp))).sl)
          intro w7 v7 h7 hB7
          exact EndI.mk fun w9 h9 => rfl
        · rw [decide_eq_false hk]
          rw [if_neg hk] at e4
          subst e4
          refine Branch.yes rfl ?_
          exact EndI.mk fun w9 h9 => rfl
end Go.Proofs.YtodpgcdandechaaGreat

/-
  slices.Values at []api.Zone: its contract (as XValues, at zones).
-/
namespace Go.Proofs.YtodpgcdandechaaGreat
set_option linter.unusedVariables false
open Go.RowKit Go.Shelf Go.Proofs.YtodpgcdandechaaGreat.Eng
attribute [local go_sem] Oper.semAt_some

namespace VZ
def firstN {α : Type} (f : Nat → α) (k : Nat) : List α := (List.range k).map f
theorem firstN_succ {α : Type} (f : Nat → α) (k : Nat) : firstN f (k + 1) = firstN f k ++ [f k] := by simp [firstN, List.range_succ]
theorem firstN_len {α : Type} (f : Nat → α) (k : Nat) : (firstN f k).length = k := by simp [firstN]
def nth (zs : List Zn) (j : Nat) : Zn := zs[j]?.getD ⟨0, 0, 0, 0, 0, 0⟩
theorem firstN_take (zs : List Zn) {k : Nat} (hk : k ≤ zs.length) : firstN (nth zs) k = zs.take k := by
  apply List.ext_getElem
  · simp [firstN, hk]
  · intro i h1 h2
    have : i < zs.length := by simp [firstN] at h1; omega
    simp [firstN, nth, this]
end VZ
open VZ
theorem grown_anyV {X Y : World} (h : X.grownBy Y none) (row : Option Nat) : X.grownBy Y row := ⟨h.os, h.tape, h.output, h.size, fun k hk _ => h.block k hk (fun e => nomatch e)⟩
set_option maxRecDepth 100000 in
set_option maxHeartbeats 2000000 in
theorem valuesZ1_in (n : Nat) (hn : 1 ≤ n) (l Bs n₀ b off len cap : Nat) (f : Nat → Zn) (hreach : len * 48 ≤ 140737488351232) (hb : b < n₀) (J Jx : List Zn → World → Prop) (hJg : ∀ pre A B, J pre A → A.grownBy B none → J pre B)
    (hY : ∀ pre x W, J pre W → pre.length < len → YieldAt Fence.wide (n - 1) Tryz.prog l #[.agg #[.int .i64 x.a, .int .i64 x.b, .int .i64 x.c, .int .i64 x.d, .int .i64 x.e, .int .i64 x.f]] W fun e W' =>
      (e = .returned (.bool true) ∧ J (pre ++ [x]) W' ∧ Below n₀ W W') ∨ (e = .returned (.bool false) ∧ Jx (pre ++ [x]) W'))
    (W : World) (hn0 : n₀ ≤ W.heap.size) (hBs : W.cell? ⟨Bs, 0, none⟩ = some (.slice (some ⟨b, off, none⟩) len cap))
    (c0 : ∀ j, j < len → W.cell? ⟨b, off + j * 6, none⟩ = some (.int .i64 (f j).a)) (c1 : ∀ j, j < len → W.cell? ⟨b, off + j * 6 + 1, none⟩ = some (.int .i64 (f j).b))
    (c2 : ∀ j, j < len → W.cell? ⟨b, off + j * 6 + 2, none⟩ = some (.int .i64 (f j).c)) (c3 : ∀ j, j < len → W.cell? ⟨b, off + j * 6 + 3, none⟩ = some (.int .i64 (f j).d))
    (c4 : ∀ j, j < len → W.cell? ⟨b, off + j * 6 + 4, none⟩ = some (.int .i64 (f j).e)) (c5 : ∀ j, j < len → W.cell? ⟨b, off + j * 6 + 5, none⟩ = some (.int .i64 (f j).f)) (h0 : J [] W) :
    CallsIn Fence.wide n Tryz.prog 227 #[.func (.yield l) #[] #[], .pointer (some ⟨Bs, 0, none⟩)] W fun e W' => (∃ v, e = .returned v) ∧
      ((∃ ys, ys = firstN f len ∧ J ys W') ∨ (∃ pre, (∃ k, k ≤ len ∧ pre = firstN f k) ∧ Jx pre W')) := by
  refine callsIn_of_wp Tryz.func227 rfl trivial ?_ rfl
  simp only [Tryz.ntmps227, List.size_toArray, List.length_cons, List.length_nil, Nat.reduceAdd, Nat.reduceSub, Array.replicate_succ, Array.replicate_zero, List.push_toArray, List.append_toArray, List.nil_append, List.cons_append]
  gi_wp2
  gi_loopw [7] (fun i wr => ∃ k : Nat, k ≤ len ∧ i = .int .i64 k ∧ J (firstN f k) wr ∧ Below n₀ W wr)
    (fun i _ => len - (intOf i).toNat)
  case atStart => exact ⟨0, Nat.zero_le _, rfl, h0, Below.refl _ _⟩
  case round =>
    obtain ⟨k, hk, rfl, hJs, hnx⟩ := hrel
    have g0 : k < len → wr.cell? ⟨b, off + k * 6, none⟩ = some (.int .i64 (f k).a) := fun h => (hnx.cell (p := ⟨b, off + k * 6, none⟩) hb).trans (c0 k h)
    have g1 : k < len → wr.cell? ⟨b, off + k * 6 + 1, none⟩ = some (.int .i64 (f k).b) := fun h => (hnx.cell (p := ⟨b, off + k * 6 + 1, none⟩) hb).trans (c1 k h)
    have g2 : k < len → wr.cell? ⟨b, off + k * 6 + 2, none⟩ = some (.int .i64 (f k).c) := fun h => (hnx.cell (p := ⟨b, off + k * 6 + 2, none⟩) hb).trans (c2 k h)
    have g3 : k < len → wr.cell? ⟨b, off + k * 6 + 3, none⟩ = some (.int .i64 (f k).d) := fun h => (hnx.cell (p := ⟨b, off + k * 6 + 3, none⟩) hb).trans (c3 k h)
    have g4 : k < len → wr.cell? ⟨b, off + k * 6 + 4, none⟩ = some (.int .i64 (f k).e) := fun h => (hnx.cell (p := ⟨b, off + k * 6 + 4, none⟩) hb).trans (c4 k h)
    have g5 : k < len → wr.cell? ⟨b, off + k * 6 + 5, none⟩ = some (.int .i64 (f k).f) := fun h => (hnx.cell (p := ⟨b, off + k * 6 + 5, none⟩) hb).trans (c5 k h)
    clear c0 c1 c2 c3 c4 c5
    by_cases hlt : k < len
    · obtain ⟨fn, tmps, assign, body, hy, hR⟩ := hY _ (f k) (wr.alloc (.cells #[.int .i64 (f k).a, .int .i64 (f k).b, .int .i64 (f k).c, .int .i64 (f k).d, .int .i64 (f k).e, .int .i64 (f k).f] 39)) (hJg _ _ _ hJs (World.grownBy_alloc _ _ none)) (by rw [firstN_len]; exact hlt)
      have g0 := g0 hlt
      have g1 := g1 hlt
      have g2 := g2 hlt
      have g3 := g3 hlt
      have g4 := g4 hlt
      have g5 := g5 hlt
      gi_wp2
      refine hR.mono ?_
      rintro e W3 (⟨rfl, hJ3, hk3⟩ | ⟨rfl, hJx3⟩)
      · gi_wp2
        go_roundw
        case rel => exact ⟨k + 1, by omega, by simp, by rw [firstN_succ]; exact hJ3, hnx.trans (((Below.refl n₀ wr).alloc (Nat.le_trans hn0 hnx.size) _).trans hk3)⟩
        case measure => simp [intOf]; omega
      · gi_wp2
        refine bodyPost_ret (results_none rfl _ _ _) rfl ?_
        exact ⟨⟨_, rfl⟩, .inr ⟨_, ⟨k + 1, by omega, (firstN_succ _ _).symm⟩, hJx3⟩⟩
    · obtain rfl : k = len := by omega
      gi_wp2
      go_end0
      exact ⟨⟨_, rfl⟩, .inl ⟨_, rfl, hJs⟩⟩

set_option maxRecDepth 100000 in
set_option maxHeartbeats 1000000 in
theorem valuesZ1_nil_in (n : Nat) (l Bs : Nat) (a : Option Addr) (cap : Nat) (J : List Zn → World → Prop) (W : World) (hBs : W.cell? ⟨Bs, 0, none⟩ = some (.slice a 0 cap)) (h0 : J [] W) :
    CallsIn Fence.wide n Tryz.prog 227 #[.func (.yield l) #[] #[], .pointer (some ⟨Bs, 0, none⟩)] W fun e W' => (∃ v, e = .returned v) ∧ J [] W' := by
  refine callsIn_of_wp Tryz.func227 rfl trivial ?_ rfl
  simp only [Tryz.ntmps227, List.size_toArray, List.length_cons, List.length_nil, Nat.reduceAdd, Nat.reduceSub, Array.replicate_succ, Array.replicate_zero, List.push_toArray, List.append_toArray, List.nil_append, List.cons_append]
  gi_wp2
  gi_loopw [7] (fun i wr => i = .int .i64 0 ∧ J [] wr) (fun _ _ => 0)
  case atStart => exact ⟨rfl, h0⟩
  case round =>
    obtain ⟨rfl, hJs⟩ := hrel
    gi_wp2
    go_end0
    exact ⟨⟨_, rfl⟩, hJs⟩

set_option maxHeartbeats 1000000 in
theorem valuesZ_in (n : Nat) (a : Option Addr) (len cap : Nat) (w : World) :
    CallsIn Fence.wide n Tryz.prog 170 #[.slice a len cap] w fun e w' => e = .returned (.func (.func 227) #[] #[.pointer (some ⟨w.heap.size, 0, none⟩)]) ∧ w' = w.alloc (.cells #[.slice a len cap] 45) := by
  refine callsIn_of_wp Tryz.func170 rfl trivial ?_ rfl
  simp only [Tryz.ntmps170, List.size_toArray, List.length_cons, List.length_nil, Nat.reduceAdd, Nat.reduceSub, Array.replicate_succ, Array.replicate_zero, List.push_toArray, List.append_toArray, List.nil_append, List.cons_append]
  gi_wp2
  go_ret
  exact ⟨rfl, rfl⟩

theorem valuesZ_stops (n : Nat) (hn : 1 ≤ n) (Bs n₀ : Nat) (a : Option Addr) (cap : Nat) (zs : List Zn) (hreach : zs.length * 48 ≤ 140737488351232) (w : World) (hBs : Bs < w.heap.size) (hn₀ : n₀ ≤ w.heap.size)
    (hc : w.cell? ⟨Bs, 0, none⟩ = some (.slice a zs.length cap)) (hI : Sl n₀ w (.slice a zs.length cap) zs) :
    SeqStopsK Fence.wide n Tryz.prog 227 #[.pointer (some ⟨Bs, 0, none⟩)] (fun x : Zn => #[.agg #[.int .i64 x.a, .int .i64 x.b, .int .i64 x.c, .int .i64 x.d, .int .i64 x.e, .int .i64 x.f]]) (Below n₀) (fun ys => ys = zs) (fun pre => pre <+: zs) zs.length w := fun l J Jx W hW hJa _ hY h0 => by
  have hc' := (hW.cell (p := ⟨Bs, 0, none⟩) hBs).trans hc
  have hI' := hI.below (hW.mono hn₀)
  by_cases hz : zs = []
  · subst hz
    exact (valuesZ1_nil_in n l Bs a cap J W hc' h0).mono fun e W' ⟨he, hj⟩ => ⟨he, .inl ⟨_, rfl, hj⟩⟩
  · have hp : 0 < zs.length := List.length_pos_iff.2 hz
    obtain ⟨a', cap', e0, _, _, _, h4⟩ := hI'
    injection e0 with e1 e2 e3
    subst e1; subst e3
    obtain ⟨b, off, rfl, hb, _⟩ := h4 0 _ (List.getElem?_eq_getElem hp)
    have hcs : ∀ j, j < zs.length → ∀ i v, (Enc.enc (nth zs j))[i]? = some v → W.cell? ⟨b, off + j * 6 + i, none⟩ = some v := fun j hj i v hv => by
      obtain ⟨b', o', e, _, hcell⟩ := h4 j _ (List.getElem?_eq_getElem hj)
      injection e with e; injection e with e1 e2
      subst e1; subst e2
      have e5 : nth zs j = zs[j] := by unfold nth; rw [List.getElem?_eq_getElem hj]; rfl
      rw [e5] at hv
      have := hcell i v hv
      rwa [← Nat.add_assoc] at this
    refine (valuesZ1_in n hn l Bs n₀ b off zs.length cap (nth zs) hreach hb J Jx (fun pre A B h hg => hJa pre A B none h hg (fun r e => nomatch e)) hY W (Nat.le_trans hn₀ hW.size) hc' (fun j hj => hcs j hj 0 _ rfl) (fun j hj => hcs j hj 1 _ rfl) (fun j hj => hcs j hj 2 _ rfl) (fun j hj => hcs j hj 3 _ rfl) (fun j hj => hcs j hj 4 _ rfl) (fun j hj => hcs j hj 5 _ rfl) h0).mono ?_
    rintro e W' ⟨he, ⟨ys, rfl, hj⟩ | ⟨pre, ⟨k, hk, rfl⟩, hj⟩⟩
    · exact ⟨he, .inl ⟨_, by rw [firstN_take zs (Nat.le_refl _), List.take_length], hj⟩⟩
    · exact ⟨he, .inr ⟨_, by rw [firstN_take zs hk]; exact List.take_prefix _ _, hj⟩⟩
theorem valuesZ_stopsB (n : Nat) (hn : 1 ≤ n) (Bs n₀ n1 : Nat) (a : Option Addr) (cap : Nat) (zs : List Zn) (hreach : zs.length * 48 ≤ 140737488351232) (w : World) (hBs : Bs < w.heap.size) (hn₀ : n₀ ≤ w.heap.size)
    (hc : w.cell? ⟨Bs, 0, none⟩ = some (.slice a zs.length cap)) (hI : Sl n₀ w (.slice a zs.length cap) zs) :
    SeqStopsB n Tryz.prog 227 #[.pointer (some ⟨Bs, 0, none⟩)] (fun x : Zn => #[.agg #[.int .i64 x.a, .int .i64 x.b, .int .i64 x.c, .int .i64 x.d, .int .i64 x.e, .int .i64 x.f]]) (Below n₀) (fun ys => ys = zs) (fun pre => pre <+: zs) zs.length Bs n1 w := fun l J Jx W hW hJa _ hY h0 => by
  have hc' := (hW.cell (p := ⟨Bs, 0, none⟩) hBs).trans hc
  have hI' := hI.below (hW.mono hn₀)
  by_cases hz : zs = []
  · subst hz
    exact (valuesZ1_nil_in n l Bs a cap J W hc' h0).mono fun e W' ⟨he, hj⟩ => ⟨he, .inl ⟨_, rfl, hj⟩⟩
  · have hp : 0 < zs.length := List.length_pos_iff.2 hz
    obtain ⟨a', cap', e0, _, _, _, h4⟩ := hI'
    injection e0 with e1 e2 e3
    subst e1; subst e3
    obtain ⟨b, off, rfl, hb, _⟩ := h4 0 _ (List.getElem?_eq_getElem hp)
    have hcs : ∀ j, j < zs.length → ∀ i v, (Enc.enc (nth zs j))[i]? = some v → W.cell? ⟨b, off + j * 6 + i, none⟩ = some v := fun j hj i v hv => by
      obtain ⟨b', o', e, _, hcell⟩ := h4 j _ (List.getElem?_eq_getElem hj)
      injection e with e; injection e with e1 e2
      subst e1; subst e2
      have e5 : nth zs j = zs[j] := by unfold nth; rw [List.getElem?_eq_getElem hj]; rfl
      rw [e5] at hv
      have := hcell i v hv
      rwa [← Nat.add_assoc] at this
    refine (valuesZ1_in n hn l Bs n₀ b off zs.length cap (nth zs) hreach hb J Jx (fun pre A B h hg => hJa pre A B h (grown_anyV hg _)) (fun pre x W1 hj hl => (hY pre x W1 hj hl).mono fun e W' h => h.imp id fun h => ⟨h.1, h.2.1⟩) W (Nat.le_trans hn₀ hW.size) hc' (fun j hj => hcs j hj 0 _ rfl) (fun j hj => hcs j hj 1 _ rfl) (fun j hj => hcs j hj 2 _ rfl) (fun j hj => hcs j hj 3 _ rfl) (fun j hj => hcs j hj 4 _ rfl) (fun j hj => hcs j hj 5 _ rfl) h0).mono ?_
    rintro e W' ⟨he, ⟨ys, rfl, hj⟩ | ⟨pre, ⟨k, hk, rfl⟩, hj⟩⟩
    · exact ⟨he, .inl ⟨_, by rw [firstN_take zs (Nat.le_refl _), List.take_length], hj⟩⟩
    · exact ⟨he, .inr ⟨_, by rw [firstN_take zs hk]; exact List.take_prefix _ _, hj⟩⟩
end Go.Proofs.YtodpgcdandechaaGreat

/-
  slices.AppendSeq, Collect over slices.Values, at api.Zone, by the engine.
-/
namespace Go.Proofs.YtodpgcdandechaaGreat
set_option linter.unusedVariables false
set_option linter.unusedSimpArgs false
set_option maxRecDepth 100000
open Go.RowKit Go.Proofs.YtodpgcdandechaaGreat.Eng Enc

theorem appendSeqZ_any (Bs : Nat) (a : Option Addr) (cap : Nat) (zs : List Zn) (hlen : zs.length ≤ 1000000) (w : World) (hc : w.cell? ⟨Bs, 0, none⟩ = some (.slice a zs.length cap)) (hS : Sl w.heap.size w (.slice a zs.length cap) zs) :
    Calls Tryz.prog 251 #[.slice none 0 0, .func (.func 227) #[] #[.pointer (some ⟨Bs, 0, none⟩)]] w fun e w' => ∃ v, e = .returned v ∧ Below Bs w w' ∧ Own 39 w.heap.size w' v zs := by
  have hBs : Bs < w.heap.size := World.block_lt_of_cell? _ _ hc
  refine fun_at 9 Bs w (Nat.le_of_lt hBs) Tryz.func251 (args := [.val (.slice none 0 0), .val (.func (.func 227) #[] #[.pointer (some ⟨Bs, 0, none⟩)])]) rfl rfl ?_
  refine NewI.mk fun b1 hb1 => ?_
  have hb1' : w.heap.size ≤ b1 := hb1
  refine RawI.mk fun ac w7 hR => ?_
  have h7 := hR.at_
  have hg7 : Below w.heap.size w w7 := at_below h7 (by simp)
  have hl1 := h7.lt b1 (by simp)
  have hc7 : w7.cell? ⟨Bs, 0, none⟩ = some (.slice a zs.length cap) := (hg7.cell (p := ⟨Bs, 0, none⟩) hBs).trans hc
  have hw7 := hg7.size
  refine rangeBu cxOk (by decide) hR rfl Tryz.call227 (valuesZ_stopsB 8 (by omega) Bs w.heap.size Bs a cap zs (by omega) w7 (by omega) hw7 hc7 (hS.below hg7)) (encs := fun x : Zn => [.agg #[.int .i64 x.a, .int .i64 x.b, .int .i64 x.c, .int .i64 x.d, .int .i64 x.e, .int .i64 x.f]]) (by omega) (Nat.le_refl Bs) (fun hm => by simp at hm; omega)
    (fun h k => h.trans k) ?_ (fun x => rfl)
    (γ := Value) (fun c => [⟨[.val c], 45⟩])
    (fun (pre : List Zn) (c : Value) W => Own 39 w7.heap.size W c pre) ?_ (.slice none 0 0) rfl Own.nil
    (fun (c : Code) (pre : List Zn) (q : Value) (W : World) => False)
    (fun _ q => [])
    (fun c q pre A B row h hg hr => h) (fun z => [(5, .loc 1 0)]) (fun z => [⟨[.val (.int .i64 z.a), .val (.int .i64 z.b), .val (.int .i64 z.c), .val (.int .i64 z.d), .val (.int .i64 z.e), .val (.int .i64 z.f)], 39⟩]) (fun c bs => ∀ k, c.ownBlock = some k → k ∉ bs) ?asg ?body ?done (fun _ _ _ _ _ _ _ _ h => h.elim)
  case asg =>
    intro l pre z c W hΦ hBW hsW hN
    refine NewI.mk fun b5 hb5 => ?_
    refine ⟨rfl, [b5], rfl, fun k hk hm => by have := hΦ.lt k hk; have hb5 : W.heap.size ≤ b5 := hb5; simp at hm; omega, Need.mk ⟨rfl, rfl, rfl, rfl⟩ (EndI.mk fun w9 h9 => ?_)⟩
    have hg := at_below h9 (fun b hb => by simp at hb; subst hb; exact hb5)
    exact ⟨below_keepsFrom hg _, hg.mono (by omega), hΦ.below hg⟩
  · exact fun W l o o' hl ho h1 h2 => ⟨rfl, rfl, rfl, by simp, fun k hk => World.putObj_heap_other (by omega)⟩
  · rintro c pre A C row hO hg hr
    have hO : Own 39 w7.heap.size A c pre := hO
    refine Own.kept hO hg ?_
    obtain ⟨_, ⟨e, _⟩ | ⟨g, cp, cur, e, hbg, hgb, _⟩⟩ := id hO
    · rw [e]; exact .inl rfl
    · rw [e]
      refine .inr (fun e' => ?_)
      rcases hr g e'.symm with h | ⟨_, o, ho, hcl⟩
      · omega
      · rw [hgb] at ho; cases ho; cases hcl
  case body =>
    intro l pre x c bs W hbs hψ hO hBW hsW hN
    have hO : Own 39 w7.heap.size W c pre := hO
    obtain ⟨b5, rfl⟩ := List.length_eq_one_iff.1 hbs
    refine NewI.mk fun b6 hb6 => ?_
    have hb6' : W.heap.size ≤ b6 := hb6
    have hr : ∀ k, c.ownBlock = some k → Bs ≤ k ∧ k ∉ [b1, b5, b6] := fun k hk => by
      have hkk := hO.lt k hk
      have h5 := hψ k hk
      simp at h5
      refine ⟨by omega, fun hm => ?_⟩
      simp only [List.mem_cons, List.not_mem_nil, or_false] at hm
      omega
    refine GenN.app (α := Zn) elZ pre [x] w7.heap.size (fun w5 h5 => hO.below h5.go) (fun w5 h5 => src_own h5 2 rfl rfl rfl rfl) (by unfold maxLen; simp; omega) (by simp; omega) (fun w5 h5 => Nat.le_trans hsW h5.size)
      (fun w5 w6 h5 hg => keep_grown h5 hg hr) fun sv' w5 w6 h5 hg hO' => ?_
    obtain ⟨a', c', rfl⟩ := hO'.form
    refine ⟨.slice a' (pre ++ [x]).length c', ?_⟩
    refine Need.mk (CovH.mk rfl rfl rfl) (EndI.mk fun w9 h9 => ?_)
    have hW9 : W.heap.size ≤ w9.heap.size := Nat.le_trans h5.size (Nat.le_trans hg.size h9.size)
    have keep1 : ∀ k, k < W.heap.size → k ≠ b1 → c.ownBlock ≠ some k → w9.heap[k]? = W.heap[k]? := fun k hkW h3 hrow => by
      refine (h9.step k (Nat.lt_of_lt_of_le hkW (Nat.le_trans h5.size hg.size)) (fun hm => ?_)).trans ((hg.block k (Nat.lt_of_lt_of_le hkW h5.size) (fun e => hrow e.symm)).trans (h5.go.block k hkW))
      simp at hm; omega
    have row : ∀ k, k < w7.heap.size → c.ownBlock ≠ some k := fun k hk e => by have := hO.lt k e; omega
    refine ⟨⟨hW9, fun k o hk7 hk hcl => ?_⟩, ?_, ?_⟩
    · have hkW : k < W.heap.size := (Array.getElem?_eq_some_iff.1 hk).1
      refine (keep1 k hkW (by omega) (fun e => ?_)).trans hk
      obtain ⟨_, ⟨e0, _⟩ | ⟨g, cp, cur, e0, _, hgb, _⟩⟩ := id hO
      · rw [e0] at e; cases e
      · rw [e0] at e
        injection e with e
        subst e
        rw [hgb] at hk; cases hk; cases hcl
    · have hb9 := h9.below
      exact ⟨hb9.os.trans hBW.os.symm, hb9.tape.trans hBW.tape.symm, hb9.output.trans hBW.output.symm, hW9, fun k hk => keep1 k (by omega) (by omega) (row k (by omega))⟩
    · exact hO'.at h9 (fun b hb => by simp at hb; subst hb; exact hl1)
  case done =>
    rintro D xs c W hD hSx hO hmark
    have hO : Own 39 w7.heap.size W c xs := hO
    subst hSx
    have hDW : D < W.heap.size := (Array.getElem?_eq_some_iff.1 hmark).1
    obtain ⟨a', c', rfl⟩ := hO.form
    refine EndM.mk fun w10 h10 => ⟨⟨show Bs ≤ D by omega, (h10.step D hDW (by simp)).trans hmark⟩, fun w11 hu => ?_⟩
    have hO10 := hO.at h10 (by simp)
    refine (Own.kept (row := some D) hO10 ⟨hu.2.1, hu.2.2.1, hu.2.2.2.1, by rw [hu.1]; exact Nat.le_refl _, fun k _ hk => hu.2.2.2.2 k (fun e => hk (by rw [e]))⟩ ?_).lower hw7
    obtain ⟨_, ⟨e, _⟩ | ⟨g, cp, cur, e, _, hgb, _⟩⟩ := id hO10
    · rw [e]; exact .inl rfl
    · rw [e]
      refine .inr (fun e' => ?_)
      injection e' with e'
      subst e'
      have := (h10.step _ hDW (by simp)).trans hmark
      rw [hgb] at this; cases this

theorem collectZ_any (Bs : Nat) (a : Option Addr) (cap : Nat) (zs : List Zn) (hlen : zs.length ≤ 1000000) (w : World) (hc : w.cell? ⟨Bs, 0, none⟩ = some (.slice a zs.length cap)) (hS : Sl w.heap.size w (.slice a zs.length cap) zs) :
    Calls Tryz.prog 225 #[.func (.func 227) #[] #[.pointer (some ⟨Bs, 0, none⟩)]] w fun e w' => ∃ v, e = .returned v ∧ Below Bs w w' ∧ Own 39 w.heap.size w' v zs := by
  have hBs : Bs < w.heap.size := World.block_lt_of_cell? _ _ hc
  refine fun_at 0 Bs w (Nat.le_of_lt hBs) Tryz.func225 (args := [.val (.func (.func 227) #[] #[.pointer (some ⟨Bs, 0, none⟩)])]) rfl rfl ?_
  refine CallI.mk fun w1 h1 => ?_
  have hg1 : Below w.heap.size w w1 := h1.go
  refine (appendSeqZ_any Bs a cap zs hlen w1 ((hg1.cell (p := ⟨Bs, 0, none⟩) hBs).trans hc) (hS.go hg1 hg1.size)).mono ?_
  rintro e w2 ⟨v, rfl, hB2, hO⟩
  refine ⟨⟨hB2, by simp⟩, _, rfl, ?_⟩
  obtain ⟨a', c', rfl⟩ := hO.form
  exact EndI.mk fun w3 h3 => (hO.at h3 (by simp)).lower hg1.size
end Go.Proofs.YtodpgcdandechaaGreat

/-
  DERIVED: THE SHELF's CONTRACTS AT THIS DUMP, IN PLAIN WORDS (tools/lay-plain.mjs out of 'YtodpgcdandechaaGreatShelf0.lean', which tools/lay-shelf.mjs wrote): THE SAME DECLARATIONS UNDER THE SAME NAMES: 'import', 'namespace', 'open', 'def', 'theorem' AND NOTHING ELSE: no command of the shelf's: FOR A HAND-IN. Each laying: the table of numbers ('.._ren') and one theorem, a field a fact of the dump's own or the kernel's comparison; each contract: ONE APPLICATION.
-/
namespace Go.Proofs
open Go.Shelf
def Tryz.sortZ_ren : Go.Shelf.Ren := ⟨fun | 6 => 226 | 15 => 244 | 14 => 252 | 28 => 270 | 29 => 271 | 20 => 272 | 21 => 273 | 22 => 274 | 23 => 275 | 24 => 276 | 25 => 277 | 26 => 278 | 27 => 279 | 46 => 289 | 47 => 285 | 48 => 286 | 49 => 290 | 50 => 291 | 57 => 300 | n => n, fun | 22 => 45 | 24 => 39 | 25 => 213 | 3 => 3 | 39 => 243 | 0 => 0 | 53 => 297 | 55 => 143 | 4 => 4 | 46 => 290 | 45 => 289 | 50 => 294 | 5 => 5 | 9 => 9 | 66 => 309 | 70 => 313 | 76 => 322 | 77 => 29 | n => n, fun | n => n⟩
theorem Tryz.sortZ : Go.Proofs.SlLaysF0.n6 Tryz.prog Tryz.sortZ_ren := {
  mixed := by kernel_rfl
  f6 := ⟨Tryz.f226.name, by decide, Tryz.func226.trans (congrArg some (by kernel_rfl))⟩
  f14 := ⟨Tryz.f252.name, by decide, Tryz.func252.trans (congrArg some (by kernel_rfl))⟩
  f15 := Tryz.func244.trans (congrArg some (by kernel_rfl))
  f20 := ⟨Tryz.f272.name, by decide, Tryz.func272.trans (congrArg some (by kernel_rfl))⟩
  f21 := ⟨Tryz.f273.name, by decide, Tryz.func273.trans (congrArg some (by kernel_rfl))⟩
  f22 := ⟨Tryz.f274.name, by decide, Tryz.func274.trans (congrArg some (by kernel_rfl))⟩
  f23 := ⟨Tryz.f275.name, by decide, Tryz.func275.trans (congrArg some (by kernel_rfl))⟩
  f24 := ⟨Tryz.f276.name, by decide, Tryz.func276.trans (congrArg some (by kernel_rfl))⟩
  f25 := ⟨Tryz.f277.name, by decide, Tryz.func277.trans (congrArg some (by kernel_rfl))⟩
  f26 := ⟨Tryz.f278.name, by decide, Tryz.func278.trans (congrArg some (by kernel_rfl))⟩
  f27 := ⟨Tryz.f279.name, by decide, Tryz.func279.trans (congrArg some (by kernel_rfl))⟩
  f28 := Tryz.func270.trans (congrArg some (by kernel_rfl))
  f29 := Tryz.func271.trans (congrArg some (by kernel_rfl))
  f46 := ⟨Tryz.f289.name, by decide, Tryz.func289.trans (congrArg some (by kernel_rfl))⟩
  f47 := Tryz.func285.trans (congrArg some (by kernel_rfl))
  f48 := Tryz.func286.trans (congrArg some (by kernel_rfl))
  f49 := ⟨Tryz.f290.name, by decide, Tryz.func290.trans (congrArg some (by kernel_rfl))⟩
  f50 := ⟨Tryz.f291.name, by decide, Tryz.func291.trans (congrArg some (by kernel_rfl))⟩
  f57 := ⟨Tryz.f300.name, by decide, Tryz.func300.trans (congrArg some (by kernel_rfl))⟩
  t0 := Tryz.underlying0
  a0 := Tryz.isAgg0
  z0 := Tryz.sizeOf0
  v0 := Tryz.zeroValue0
  t3 := Tryz.underlying3
  a3 := Tryz.isAgg3
  z3 := Tryz.sizeOf3
  v3 := Tryz.zeroValue3
  t4 := Tryz.underlying4
  a4 := Tryz.isAgg4
  z4 := Tryz.sizeOf4
  v4 := Tryz.zeroValue4
  t5 := Tryz.underlying5
  a5 := Tryz.isAgg5
  z5 := Tryz.sizeOf5
  v5 := Tryz.zeroValue5
  t9 := Tryz.underlying9
  a9 := Tryz.isAgg9
  z9 := Tryz.sizeOf9
  v9 := Tryz.zeroValue9
  t22 := Tryz.underlying45
  a22 := Tryz.isAgg45
  z22 := Tryz.sizeOf45
  v22 := Tryz.zeroValue45
  t25 := Tryz.underlying213
  a25 := Tryz.isAgg213
  z25 := Tryz.sizeOf213
  v25 := Tryz.zeroValue213
  t39 := Tryz.underlying243
  a39 := Tryz.isAgg243
  z39 := Tryz.sizeOf243
  v39 := Tryz.zeroValue243
  t45 := Tryz.underlying289
  a45 := Tryz.isAgg289
  z45 := Tryz.sizeOf289
  v45 := Tryz.zeroValue289
  t46 := Tryz.underlying290
  a46 := Tryz.isAgg290
  z46 := Tryz.sizeOf290
  v46 := Tryz.zeroValue290
  t50 := Tryz.underlying294
  a50 := Tryz.isAgg294
  z50 := Tryz.sizeOf294
  v50 := Tryz.zeroValue294
  t53 := Tryz.underlying297
  a53 := Tryz.isAgg297
  z53 := Tryz.sizeOf297
  v53 := Tryz.zeroValue297
  t55 := Tryz.underlying143
  a55 := Tryz.isAgg143
  z55 := Tryz.sizeOf143
  v55 := Tryz.zeroValue143
  t66 := Tryz.underlying309
  a66 := Tryz.isAgg309
  z66 := Tryz.sizeOf309
  v66 := Tryz.zeroValue309
  t70 := Tryz.underlying313
  a70 := Tryz.isAgg313
  z70 := Tryz.sizeOf313
  v70 := Tryz.zeroValue313
  t76 := Tryz.underlying322
  a76 := Tryz.isAgg322
  z76 := Tryz.sizeOf322
  v76 := Tryz.zeroValue322
  t77 := Tryz.underlying29
  a77 := Tryz.isAgg29
  z77 := Tryz.sizeOf29
  v77 := Tryz.zeroValue29 }
end Go.Proofs

