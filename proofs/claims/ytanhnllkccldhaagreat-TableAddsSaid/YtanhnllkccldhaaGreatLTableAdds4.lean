/-
  Merged texts of this law (each with its own head below).
-/
import Derived.Test.YtanhnllkccldhaaGreatLTableAdds3
import Derived.Lib.SliceRun
import Derived.Shelf.Spec.SlicesGrow
import Derived.Ground.Names8Prog
import Derived.Test.YtanhnllkccldhaaGreatProg
import Derived.Shelf.Bits.Mul64
import Derived.Shelf.Spec.BitsCarry
import Derived.Ground.NamesProg
import Derived.Test.YtanhnllkccldhaaGreatLTableAdds1
import Derived.RangeFuncBox
import Derived.RangeFuncBound
import Derived.RangeFuncLeaves
import Derived.Shelf.Abstract
import Derived.WalkKit
import Derived.OwnWalkIn
import Derived.TacticsInMore
import Derived.LoopNIn
import Derived.LoopIn
import Derived.Deep.QuietTactic
import Derived.BigQuiet
import Derived.Sort.Grow
import Derived.Shelf.SlSortCmp.NoneTotal
import Derived.Ground.SlsfProg
import Derived.Sort.OwnSorted
import Derived.Laws.StructEq
namespace Go.Proofs.YtanhnllkccldhaaGreat
set_option linter.unusedVariables false
set_option linter.unusedSimpArgs false
set_option maxRecDepth 100000
section
open Go.RowKit Go.Proofs.YtanhnllkccldhaaGreat.Eng Enc
namespace Zo
def mat (z : Zn) : Int × List Int × Int := if Dbm.chk 3 (matL z) = 0 then (3, matL z, 0) else (0, [], 8)
def get (z : Zn) (i : Nat) : Int := if i = 0 then z.a else if i = 1 then z.b else if i = 2 then z.c else if i = 3 then z.d else if i = 4 then z.e else z.f
def set (z : Zn) (i : Nat) (x : Int) : Zn :=
 if i = 0 then { z with a := x } else if i = 1 then { z with b := x } else if i = 2 then { z with c := x } else if i = 3 then { z with d := x } else if i = 4 then { z with e := x } else { z with f := x }
end Zo
namespace Mi
def cut (z : Zn) (i : Nat) (b : Int) : Zn := Zo.set z i (min (Zo.get z i) b)
def wth (z : Zn) (i : Nat) (b : Int) : Zn × Int := if Dbm.chk 3 (Zo.matL (cut z i b)) = 0 then Zo.of 3 (Zo.matL (cut z i b)) else (Zo.nought, 8)
def other (i : Nat) : Nat := if i % 2 = 0 then i + 1 else i - 1
end Mi
theorem zMatrix_any (z : Zn) (w : World) :
 Calls Tryz.prog 159 #[.agg #[.int .i64 z.a, .int .i64 z.b, .int .i64 z.c, .int .i64 z.d, .int .i64 z.e, .int .i64 z.f]] w (Ret w fun v w' => ∃ a' c', v = .tuple #[.agg #[.int .i64 (Zo.mat z).1, .slice a' (Zo.mat z).2.1.length c'], .int .i64 (Zo.mat z).2.2] /\ Sl w'.heap.size w' (.slice a' (Zo.mat z).2.1.length c') (Zo.mat z).2.1) := by
 refine fun_ret 0 w Tryz.func159 (args := [.agg [.val (.int .i64 z.a), .val (.int .i64 z.b), .val (.int .i64 z.c), .val (.int .i64 z.d), .val (.int .i64 z.e), .val (.int .i64 z.f)]]) rfl rfl ?_;have st := Stay.first (w := w)
 refine NewI.mk fun b1 hb1 => ?_;refine NewI.mk fun b2 hb2 => ?_;apply CallI.use
 focus (exact fun w1 h1 => zmatrix_any z w1)
 rintro v w1 v1 h1 hB1 ⟨a1, c1, rfl, hF1⟩;have st := st.nx h1 hB1;refine NewI.mk fun b3 hb3 => ?_;unfold Zo.mat;apply CallI.use1
 focus (exact fun w2 h2 => dcheck_any 3 a1 c1 (Zo.matL z) w2 (hF1.sl.st (st.at h2)))
 intro w2 v2 h2 hB2;have st := st.nx h2 hB2;refine Branch.mk (fun hc => ?_) (fun hc => ?_)
 ·have h0 : ¬ Dbm.chk 3 (Zo.matL z) = 0 := by simpa using hc
  have h8 := (Dbm.chk_cases 3 (Zo.matL z)).resolve_left h0;rw [if_neg h0, h8];exact EndI.mk fun w9 h9 => ⟨_, _, rfl, Sl.nil⟩
 have h0 : Dbm.chk 3 (Zo.matL z) = 0 := by simpa using hc
 rw [if_pos h0];exact EndI.mk fun w9 h9 => ⟨_, _, rfl, ((hF1.st st).at h9 (fun b hb => by have := h1.lt b1 (by simp); have := h1.lt b2 (by simp); simp at hb; omega)).sl⟩
theorem mother_any (i : Nat) (hi : i < 6) (w : World) :
 Calls Tryz.prog 237 #[.int .i64 (i : Nat)] w fun e w' => e = .returned (.int .i64 (Mi.other i : Nat)) /\ Below w.heap.size w w' := by
 have h6 : i = 0 \/ i = 1 \/ i = 2 \/ i = 3 \/ i = 4 \/ i = 5 := by omega
 rcases h6 with rfl | rfl | rfl | rfl | rfl | rfl
 all_goals (refine fun_eq 0 w Tryz.func237 (args := [.val (.int .i64 _)]) rfl rfl ?_)
 all_goals (exact EndI.mk fun w9 h9 => rfl)
theorem mwith_any (z : Zn) (i : Nat) (hi : i < 6) (b : Int) (w : World) :
 Calls Tryz.prog 236 #[.agg #[.int .i64 z.a, .int .i64 z.b, .int .i64 z.c, .int .i64 z.d, .int .i64 z.e, .int .i64 z.f], .int .i64 (i : Nat), .int .i64 b] w fun e w' => e = .returned (.tuple #[.agg #[.int .i64 (Mi.wth z i b).1.a, .int .i64 (Mi.wth z i b).1.b, .int .i64 (Mi.wth z i b).1.c, .int .i64 (Mi.wth z i b).1.d, .int .i64 (Mi.wth z i b).1.e, .int .i64 (Mi.wth z i b).1.f], .int .i64 (Mi.wth z i b).2]) /\ Below w.heap.size w w' := by
 have h6 : i = 0 \/ i = 1 \/ i = 2 \/ i = 3 \/ i = 4 \/ i = 5 := by omega
 have fin : ∀ (y : Zn), Mi.cut z i b = y -> Mi.wth z i b = if Dbm.chk 3 (Zo.matL y) = 0 then Zo.of 3 (Zo.matL y) else (Zo.nought, 8) := fun y h => by unfold Mi.wth; rw [h]
 have em : ∀ x : Int, minL x [b] = min x b := fun x => by simp [minL]; omega
 rcases h6 with rfl | rfl | rfl | rfl | rfl | rfl
 ·rw [fin ⟨minL z.a [b], z.b, z.c, z.d, z.e, z.f⟩ (by unfold Mi.cut; rw [<- em]; rfl)]
  refine fun_eq 0 w Tryz.func236 (args := [.agg [.val (.int .i64 z.a), .val (.int .i64 z.b), .val (.int .i64 z.c), .val (.int .i64 z.d), .val (.int .i64 z.e), .val (.int .i64 z.f)], .val (.int .i64 0), .val (.int .i64 b)]) rfl rfl ?_;have hz := fun w => zMatrix_any ⟨minL z.a [b], z.b, z.c, z.d, z.e, z.f⟩ w;have st := Stay.first (w := w)
  refine NewI.mk fun b1 hb1 => ?_;have hb1 : w.heap.size <= b1 := hb1;refine NewI.mk fun b2 hb2 => ?_;refine Need.mk (by decide) ?_;refine Need.mk (by decide) ?_;unfold Zo.mat at hz
  by_cases h0 : Dbm.chk 3 (Zo.matL ⟨minL z.a [b], z.b, z.c, z.d, z.e, z.f⟩) = 0
  ·rw [if_pos h0] at hz ⊢
   apply CallI.use
   focus (exact fun w1 h1 => hz w1)
   rintro v w1 v1 h1 hB1 ⟨a1, c1, rfl, hS1⟩;have st := st.nx h1 hB1;refine NewI.mk fun b3 hb3 => ?_;refine Branch.no rfl ?_;apply CallI.use1
   ·exact fun w2 h2 => zof_any 3 a1 c1 (Zo.matL ⟨minL z.a [b], z.b, z.c, z.d, z.e, z.f⟩) w2 (hS1.st (st.at h2))
   intro w2 v2 h2 hB2;exact EndI.mk fun w9 h9 => rfl
  ·rw [if_neg h0] at hz ⊢
   apply CallI.use
   focus (exact fun w1 h1 => hz w1)
   rintro v w1 v1 h1 hB1 ⟨a1, c1, rfl, hS1⟩;refine NewI.mk fun b3 hb3 => ?_;refine Branch.yes rfl ?_;exact EndI.mk fun w9 h9 => rfl
 ·rw [fin ⟨z.a, minL z.b [b], z.c, z.d, z.e, z.f⟩ (by unfold Mi.cut; rw [<- em]; rfl)]
  refine fun_eq 0 w Tryz.func236 (args := [.agg [.val (.int .i64 z.a), .val (.int .i64 z.b), .val (.int .i64 z.c), .val (.int .i64 z.d), .val (.int .i64 z.e), .val (.int .i64 z.f)], .val (.int .i64 1), .val (.int .i64 b)]) rfl rfl ?_;have hz := fun w => zMatrix_any ⟨z.a, minL z.b [b], z.c, z.d, z.e, z.f⟩ w;have st := Stay.first (w := w)
  refine NewI.mk fun b1 hb1 => ?_;have hb1 : w.heap.size <= b1 := hb1;refine NewI.mk fun b2 hb2 => ?_;refine Need.mk (by decide) ?_;refine Need.mk (by decide) ?_;unfold Zo.mat at hz
  by_cases h0 : Dbm.chk 3 (Zo.matL ⟨z.a, minL z.b [b], z.c, z.d, z.e, z.f⟩) = 0
  ·rw [if_pos h0] at hz ⊢
   apply CallI.use
   focus (exact fun w1 h1 => hz w1)
   rintro v w1 v1 h1 hB1 ⟨a1, c1, rfl, hS1⟩;have st := st.nx h1 hB1;refine NewI.mk fun b3 hb3 => ?_;refine Branch.no rfl ?_;apply CallI.use1
   ·exact fun w2 h2 => zof_any 3 a1 c1 (Zo.matL ⟨z.a, minL z.b [b], z.c, z.d, z.e, z.f⟩) w2 (hS1.st (st.at h2))
   intro w2 v2 h2 hB2;exact EndI.mk fun w9 h9 => rfl
  ·rw [if_neg h0] at hz ⊢
   apply CallI.use
   focus (exact fun w1 h1 => hz w1)
   rintro v w1 v1 h1 hB1 ⟨a1, c1, rfl, hS1⟩;refine NewI.mk fun b3 hb3 => ?_;refine Branch.yes rfl ?_;exact EndI.mk fun w9 h9 => rfl
 ·rw [fin ⟨z.a, z.b, minL z.c [b], z.d, z.e, z.f⟩ (by unfold Mi.cut; rw [<- em]; rfl)]
  refine fun_eq 0 w Tryz.func236 (args := [.agg [.val (.int .i64 z.a), .val (.int .i64 z.b), .val (.int .i64 z.c), .val (.int .i64 z.d), .val (.int .i64 z.e), .val (.int .i64 z.f)], .val (.int .i64 2), .val (.int .i64 b)]) rfl rfl ?_;have hz := fun w => zMatrix_any ⟨z.a, z.b, minL z.c [b], z.d, z.e, z.f⟩ w;have st := Stay.first (w := w)
  refine NewI.mk fun b1 hb1 => ?_;have hb1 : w.heap.size <= b1 := hb1;refine NewI.mk fun b2 hb2 => ?_;refine Need.mk (by decide) ?_;refine Need.mk (by decide) ?_;unfold Zo.mat at hz
  by_cases h0 : Dbm.chk 3 (Zo.matL ⟨z.a, z.b, minL z.c [b], z.d, z.e, z.f⟩) = 0
  ·rw [if_pos h0] at hz ⊢
   apply CallI.use
   focus (exact fun w1 h1 => hz w1)
   rintro v w1 v1 h1 hB1 ⟨a1, c1, rfl, hS1⟩;have st := st.nx h1 hB1;refine NewI.mk fun b3 hb3 => ?_;refine Branch.no rfl ?_;apply CallI.use1
   ·exact fun w2 h2 => zof_any 3 a1 c1 (Zo.matL ⟨z.a, z.b, minL z.c [b], z.d, z.e, z.f⟩) w2 (hS1.st (st.at h2))
   intro w2 v2 h2 hB2;exact EndI.mk fun w9 h9 => rfl
  ·rw [if_neg h0] at hz ⊢
   apply CallI.use
   focus (exact fun w1 h1 => hz w1)
   rintro v w1 v1 h1 hB1 ⟨a1, c1, rfl, hS1⟩;refine NewI.mk fun b3 hb3 => ?_;refine Branch.yes rfl ?_;exact EndI.mk fun w9 h9 => rfl
 ·rw [fin ⟨z.a, z.b, z.c, minL z.d [b], z.e, z.f⟩ (by unfold Mi.cut; rw [<- em]; rfl)]
  refine fun_eq 0 w Tryz.func236 (args := [.agg [.val (.int .i64 z.a), .val (.int .i64 z.b), .val (.int .i64 z.c), .val (.int .i64 z.d), .val (.int .i64 z.e), .val (.int .i64 z.f)], .val (.int .i64 3), .val (.int .i64 b)]) rfl rfl ?_;have hz := fun w => zMatrix_any ⟨z.a, z.b, z.c, minL z.d [b], z.e, z.f⟩ w;have st := Stay.first (w := w)
  refine NewI.mk fun b1 hb1 => ?_;have hb1 : w.heap.size <= b1 := hb1;refine NewI.mk fun b2 hb2 => ?_;refine Need.mk (by decide) ?_;refine Need.mk (by decide) ?_;unfold Zo.mat at hz
  by_cases h0 : Dbm.chk 3 (Zo.matL ⟨z.a, z.b, z.c, minL z.d [b], z.e, z.f⟩) = 0
  ·rw [if_pos h0] at hz ⊢
   apply CallI.use
   focus (exact fun w1 h1 => hz w1)
   rintro v w1 v1 h1 hB1 ⟨a1, c1, rfl, hS1⟩;have st := st.nx h1 hB1;refine NewI.mk fun b3 hb3 => ?_;refine Branch.no rfl ?_;apply CallI.use1
   ·exact fun w2 h2 => zof_any 3 a1 c1 (Zo.matL ⟨z.a, z.b, z.c, minL z.d [b], z.e, z.f⟩) w2 (hS1.st (st.at h2))
   intro w2 v2 h2 hB2;exact EndI.mk fun w9 h9 => rfl
  ·rw [if_neg h0] at hz ⊢
   apply CallI.use
   focus (exact fun w1 h1 => hz w1)
   rintro v w1 v1 h1 hB1 ⟨a1, c1, rfl, hS1⟩;refine NewI.mk fun b3 hb3 => ?_;refine Branch.yes rfl ?_;exact EndI.mk fun w9 h9 => rfl
 ·rw [fin ⟨z.a, z.b, z.c, z.d, minL z.e [b], z.f⟩ (by unfold Mi.cut; rw [<- em]; rfl)]
  refine fun_eq 0 w Tryz.func236 (args := [.agg [.val (.int .i64 z.a), .val (.int .i64 z.b), .val (.int .i64 z.c), .val (.int .i64 z.d), .val (.int .i64 z.e), .val (.int .i64 z.f)], .val (.int .i64 4), .val (.int .i64 b)]) rfl rfl ?_;have hz := fun w => zMatrix_any ⟨z.a, z.b, z.c, z.d, minL z.e [b], z.f⟩ w;have st := Stay.first (w := w)
  refine NewI.mk fun b1 hb1 => ?_;have hb1 : w.heap.size <= b1 := hb1;refine NewI.mk fun b2 hb2 => ?_;refine Need.mk (by decide) ?_;refine Need.mk (by decide) ?_;unfold Zo.mat at hz
  by_cases h0 : Dbm.chk 3 (Zo.matL ⟨z.a, z.b, z.c, z.d, minL z.e [b], z.f⟩) = 0
  ·rw [if_pos h0] at hz ⊢
   apply CallI.use
   focus (exact fun w1 h1 => hz w1)
   rintro v w1 v1 h1 hB1 ⟨a1, c1, rfl, hS1⟩;have st := st.nx h1 hB1;refine NewI.mk fun b3 hb3 => ?_;refine Branch.no rfl ?_;apply CallI.use1
   ·exact fun w2 h2 => zof_any 3 a1 c1 (Zo.matL ⟨z.a, z.b, z.c, z.d, minL z.e [b], z.f⟩) w2 (hS1.st (st.at h2))
   intro w2 v2 h2 hB2;exact EndI.mk fun w9 h9 => rfl
  ·rw [if_neg h0] at hz ⊢
   apply CallI.use
   focus (exact fun w1 h1 => hz w1)
   rintro v w1 v1 h1 hB1 ⟨a1, c1, rfl, hS1⟩;refine NewI.mk fun b3 hb3 => ?_;refine Branch.yes rfl ?_;exact EndI.mk fun w9 h9 => rfl
 ·rw [fin ⟨z.a, z.b, z.c, z.d, z.e, minL z.f [b]⟩ (by unfold Mi.cut; rw [<- em]; rfl)]
  refine fun_eq 0 w Tryz.func236 (args := [.agg [.val (.int .i64 z.a), .val (.int .i64 z.b), .val (.int .i64 z.c), .val (.int .i64 z.d), .val (.int .i64 z.e), .val (.int .i64 z.f)], .val (.int .i64 5), .val (.int .i64 b)]) rfl rfl ?_;have hz := fun w => zMatrix_any ⟨z.a, z.b, z.c, z.d, z.e, minL z.f [b]⟩ w;have st := Stay.first (w := w)
  refine NewI.mk fun b1 hb1 => ?_;have hb1 : w.heap.size <= b1 := hb1;refine NewI.mk fun b2 hb2 => ?_;refine Need.mk (by decide) ?_;refine Need.mk (by decide) ?_;unfold Zo.mat at hz
  by_cases h0 : Dbm.chk 3 (Zo.matL ⟨z.a, z.b, z.c, z.d, z.e, minL z.f [b]⟩) = 0
  ·rw [if_pos h0] at hz ⊢
   apply CallI.use
   focus (exact fun w1 h1 => hz w1)
   rintro v w1 v1 h1 hB1 ⟨a1, c1, rfl, hS1⟩;have st := st.nx h1 hB1;refine NewI.mk fun b3 hb3 => ?_;refine Branch.no rfl ?_;apply CallI.use1
   ·exact fun w2 h2 => zof_any 3 a1 c1 (Zo.matL ⟨z.a, z.b, z.c, z.d, z.e, minL z.f [b]⟩) w2 (hS1.st (st.at h2))
   intro w2 v2 h2 hB2;exact EndI.mk fun w9 h9 => rfl
  ·rw [if_neg h0] at hz ⊢
   apply CallI.use
   focus (exact fun w1 h1 => hz w1)
   rintro v w1 v1 h1 hB1 ⟨a1, c1, rfl, hS1⟩;refine NewI.mk fun b3 hb3 => ?_;refine Branch.yes rfl ?_;exact EndI.mk fun w9 h9 => rfl
end
end Go.Proofs.YtanhnllkccldhaaGreat
namespace Go.Proofs.YtanhnllkccldhaaGreat.Eng
set_option linter.unusedVariables false
set_option linter.unusedSimpArgs false
open Go Go.RowKit Go.Shelf Go.Proofs
def SeqStopsB {α : Type} (n : Nat) (P : Program) (g : Nat) (lb : Array Value) (encs : α -> Array Value) (Kp : World -> World -> Prop) (S Sp : List α -> Prop) (N Bx n₀ : Nat) (w : World) : Prop :=
 ∀ (l : Nat) (J Jx : List α -> World -> Prop) (W : World), Below w.heap.size w W -> (∀ pre A B, J pre A -> A.grownBy B (some Bx) -> J pre B) -> (∀ pre A B, Jx pre A -> A.grownBy B none -> Jx pre B) ->
  (∀ pre x W1, J pre W1 -> pre.length < N -> YieldAt Fence.wide (n - 1) P l (encs x) W1 fun e W' => (e = .returned (.bool true) /\ J (pre ++ [x]) W' /\ Kp W1 W') \/ (e = .returned (.bool false) /\ Jx (pre ++ [x]) W' /\ Below n₀ W1 W')) ->
  J [] W -> CallsIn Fence.wide n P g (#[.func (.yield l) #[] #[]] ++ lb) W fun e W' => (∃ v, e = .returned v) /\ ((∃ xs, S xs /\ J xs W') \/ (∃ pre, Sp pre /\ Jx pre W'))
def Kept2 (B : Nat) (o : Loop) (W : World) : Prop := W.heap[B + 1]? = some (.loop o) /\ W.heap[B]? = some (.deferred (some []))
theorem Kept2.turn {B : Nat} {o : Loop} {A C : World} {row : Option Nat} (h : Kept2 B o A) (hg : A.grownBy C row) (hr : ∀ r, row = some r -> r < B) : Kept2 B o C :=
 ⟨(hg.block _ (Array.getElem?_eq_some_iff.1 h.1).1 (fun e => by have := hr _ e.symm; omega)).trans h.1, (hg.block _ (Array.getElem?_eq_some_iff.1 h.2).1 (fun e => by have := hr _ e.symm; omega)).trans h.2⟩
theorem Kept2.from {B : Nat} {o : Loop} {A C : World} (h : Kept2 B o A) (hk : KeepsFrom B A C) : Kept2 B o C := ⟨hk.same _ _ (by omega) h.1 rfl, hk.same _ _ (Nat.le_refl _) h.2 rfl⟩
theorem Kept2.put {B : Nat} {o : Loop} {A : World} (h : Kept2 B o A) (o' : Loop) : Kept2 B o' (A.putObj (B + 1) (.loop o')) :=
 ⟨World.putObj_heap_same (Array.getElem?_eq_some_iff.1 h.1).1, (World.putObj_heap_other (by omega)).trans h.2⟩
def RowB (B Bx : Nat) (A : World) (row : Option Nat) : Prop := ∀ r, row = some r -> r = Bx \/ (B <= r /\ ∃ o : Obj, A.heap[r]? = some o /\ o.isCells = false)
theorem below_between {n : Nat} {X A C : World} (h1 : Below n X A) (h2 : Below n X C) (hs : A.heap.size <= C.heap.size) : Below n A C :=
 ⟨h2.os.trans h1.os.symm, h2.tape.trans h1.tape.symm, h2.output.trans h1.output.symm, hs, fun k hk => (h2.block k hk).trans (h1.block k hk).symm⟩
theorem range_law {n : Nat} {P : Program} {α : Type} {g : Operand} {ps : Array Tmp} {x y : Code} {Q : Exit -> Act -> World -> Prop} {a : Act} {w : World} (h1 : 1 <= n) {gf : Nat} {lb : Array Value}
 (hg : a.eval g = .func (.func gf) #[] lb) (eg : ∀ args w, (callFunc gf args).run P w = .ok (.enter gf args) w) {encs : α -> Array Value} {Kp : World -> World -> Prop} {S Sp : List α -> Prop} {N Bx n₀ : Nat}
 (hseq : SeqStopsB (n - 1) P gf lb encs Kp S Sp N Bx n₀ w) (hBx : Bx < w.heap.size) (hKt : ∀ {A B C : World}, Kp A B -> Kp B C -> Kp A C)
 (hKb : ∀ (W : World) (l : Nat) (o o' : Obj), w.heap.size <= l -> W.heap[l]? = some o -> o.isCells = false -> o.isWalk = false -> Kp W (W.putObj l o')) (hps : ∀ z, (encs z).size = ps.size)
 (I : List α -> World -> Prop) (Ix : Code -> List α -> World -> Prop) (Ax : List α -> α -> Act -> World -> Prop) (hI : ∀ pre A B row, I pre A -> A.grownBy B row -> RowB w.heap.size Bx A row -> I pre B) (hIx : ∀ c, OwnFrom w.heap.size (Ix c))
 (hAx : ∀ pre z a', OwnFrom w.heap.size (fun (_ : Unit) W => Ax pre z a' W)) (h0 : I [] w) (hIB : ∀ pre A, I pre A -> Below n₀ w A) (hIxB : ∀ c pre A, Ix c pre A -> Below n₀ w A)
 (hassign : ∀ (l : Nat) (pre : List α) (z : α) (W : World), I pre W -> pre.length < N ->
   x.wpIn (Fence.wide.inRound l) (n - 1 - 1) P (fun e a' W' => e = .normal /\ KeepsFrom w.heap.size W W' /\ Kp W W' /\ I pre W' /\ Ax pre z a' W') { tmps := (ps.zip (encs z)).foldl (fun t (p, v) => t.setIfInBounds p v) a.tmps, defers := [] } W)
 (hbody : ∀ (l : Nat) (pre : List α) (z : α) (a' : Act) (W : World), I pre W -> Ax pre z a' W -> pre.length < N -> y.wpIn (Fence.wide.inRound l) (n - 1 - 1) P (ownPostG w.heap.size Kp I Ix (pre ++ [z]) W) a' W)
 (hdone : ∀ (D : Nat) (xs : List α) (W : World), w.heap.size <= D -> S xs -> I xs W -> W.heap[D]? = some (.deferred (some [])) -> Q .normal { a with defers := { target := .collected D, args := #[] } :: a.defers } W)
 (hstop : ∀ (D : Nat) (c : Code) (pre : List α) (W : World), w.heap.size <= D -> Sp pre -> Ix c pre W -> W.heap[D]? = some (.deferred (some [])) -> c.wpIn Fence.wide n P Q { a with defers := { target := .collected D, args := #[] } :: a.defers } W) :
 (Code.rangeFunc g ps x y).wpIn Fence.wide n P Q a w := by
 refine wpIn_rangeFunc fun fn hfn => ?_;have hro : Fence.wide.round = none := rfl;rw [hro]
 let lp : LoopState -> Option Code -> Loop := fun st pe => { state := st, pending := pe, fn, tmps := a.tmps, params := ps, assign := x, body := y, defers := w.heap.size }
 have two : Kept2 w.heap.size (lp .ready none) ((w.alloc (.deferred (some []))).alloc (.loop (lp .ready none))) := by
  constructor
  ·have := World.alloc_heap_new (w.alloc (.deferred (some []))) (.loop (lp .ready none))
   rwa [World.size_alloc] at this
  ·exact (Below.heap_alloc _ _ _ (by simp)).trans (World.alloc_heap_new w _)
 have g1 : w.grownBy (w.alloc (.deferred (some []))) none := World.grownBy_alloc w _ none;have g2 : (w.alloc (.deferred (some []))).grownBy ((w.alloc (.deferred (some []))).alloc (.loop (lp .ready none))) none := World.grownBy_alloc _ _ none;have hI1 : I [] ((w.alloc (.deferred (some []))).alloc (.loop (lp .ready none))) := hI _ _ _ none (hI _ _ _ none h0 g1 (fun r e => nomatch e)) g2 (fun r e => nomatch e);have hb1 : Below w.heap.size w ((w.alloc (.deferred (some []))).alloc (.loop (lp .ready none))) := (((Below.refl _ w).alloc (Nat.le_refl _) _).alloc (by simp) _);have hent : (Instr.enterLoop fn a.tmps ps x y none).run P w = .ok (w.heap.size + 1, [{ target := .collected w.heap.size, args := #[] }]) ((w.alloc (.deferred (some []))).alloc (.loop (lp .ready none))) := run_enterLoop_outer _ _ _ _ _;generalize (w.alloc (.deferred (some []))).alloc (.loop (lp .ready none)) = W1 at *
 refine ⟨w.heap.size + 1, [{ target := .collected w.heap.size, args := #[] }], W1, { target := .fn (.func gf) lb, args := #[.func (.yield (w.heap.size + 1)) #[] #[]] }, W1, gf,
  #[.func (.yield (w.heap.size + 1)) #[] #[]] ++ lb, W1, hent, by simp only [resolve, hg]; simp [go_sem], fun f' _ => trivial, by simp [invoke, go_sem, eg], fun _ => h1, ?_⟩
 have hS1 : W1.heap.size ≥ w.heap.size := hb1.size
 refine (hseq (w.heap.size + 1) (fun pre W => I pre W /\ Kept2 w.heap.size (lp .ready none) W) (fun pre W => ∃ c, Ix c pre W /\ Kept2 w.heap.size (lp .done (some c)) W) W1 hb1
  (fun pre A C h hgr => ⟨hI _ _ _ _ h.1 hgr (fun r e => .inl (by injection e with e; exact e.symm)), h.2.turn hgr (fun r e => by injection e with e; omega)⟩)
  (fun pre A C h hgr => by obtain ⟨c, hc, hk⟩ := h; exact ⟨c, hIx c _ _ _ _ hc hgr (fun r e => nomatch e), hk.turn hgr (fun r e => nomatch e)⟩) ?_ ⟨hI1, two⟩).mono ?_
 ·-- a round
  rintro pre z W ⟨hi, hk⟩ hlen;refine ⟨fn, _, x, y, run_yield (P := P) (args := encs z) hk.1 (hps z), roundIn_of_wpIn hfn (wpIn_mono (hassign (w.heap.size + 1) pre z W hi hlen) ?_)⟩;rintro e a' Wa ⟨rfl, kf, kp, hia, hax⟩;have hka := hk.from kf
  refine ⟨_, run_beginRound hka.1 rfl, ?_⟩;have hkb := hka.put { lp .ready none with state := .busy };have rowL : ∀ {A : World} {o : Loop}, Kept2 w.heap.size o A -> RowB w.heap.size Bx A (some (w.heap.size + 1)) := fun {A} {o} h r e => .inr (by injection e with e; subst e; exact ⟨by omega, _, h.1, rfl⟩);have own : ∀ {A : World} {o : Loop}, Kept2 w.heap.size o A -> ∀ r, some (w.heap.size + 1) = some r -> w.heap.size <= r /\ ∃ o' : Obj, A.heap[r]? = some o' /\ o'.isCells = false := fun {A} {o} h r e => by injection e with e; subst e; exact ⟨by omega, _, h.1, rfl⟩
  have kpb : Kp Wa (Wa.putObj (w.heap.size + 1) (.loop { lp .ready none with state := .busy })) := hKb _ _ _ _ (by omega) hka.1 rfl rfl;refine wpIn_mono (hbody (w.heap.size + 1) pre z a' _ (hI _ _ _ _ hia (grownBy_putObj' _ _ _) (rowL hka)) (hAx pre z a' () _ _ _ hax (grownBy_putObj' _ _ _) (own hka)) hlen) ?_;intro e a3 W3 hp
  have fin : ∀ (jump : Option Code), KeepsFrom w.heap.size (Wa.putObj (w.heap.size + 1) (.loop { lp .ready none with state := .busy })) W3 ->
   (Instr.endRound (w.heap.size + 1) jump).run P W3 = .ok (.bool jump.isNone) (W3.putObj (w.heap.size + 1) (.loop (lp (if jump.isNone then .ready else .done) jump))) /\ Kept2 w.heap.size { lp .ready none with state := .busy } W3 := fun jump k3 => by
   have h3 := hkb.from k3
   exact ⟨run_endRound (P := P) jump h3.1, h3⟩
  have bel : ∀ (jump : Option Code) {c : Code}, Ix c (pre ++ [z]) W3 -> Kept2 w.heap.size { lp .ready none with state := .busy } W3 -> KeepsFrom w.heap.size (Wa.putObj (w.heap.size + 1) (.loop { lp .ready none with state := .busy })) W3 ->
   Below n₀ W (W3.putObj (w.heap.size + 1) (.loop (lp (if jump.isNone then .ready else .done) jump))) := fun jump {c} i3 h3 k3 =>
   below_between (hIB _ _ hi) (hIxB _ _ _ (hIx c _ _ _ _ i3 (grownBy_putObj' _ _ _) (own h3))) (by
    have := k3.size;have := kf.size;simp only [World.putObj_size] at *
    omega)
  cases e with
  | normal =>
    obtain ⟨k3, p3, i3⟩ := hp;obtain ⟨hr, h3⟩ := fin none k3;exact ⟨_, _, hr, .inl ⟨rfl, ⟨hI _ _ _ _ i3 (grownBy_putObj' _ _ _) (rowL h3), h3.put _⟩, hKt kp (hKt (hKt kpb p3) (hKb _ _ _ _ (by omega) h3.1 rfl rfl))⟩⟩
  | ret =>
    obtain ⟨k3, i3⟩ := hp;obtain ⟨hr, h3⟩ := fin (some .ret) k3;exact ⟨_, _, hr, .inr ⟨rfl, ⟨.ret, hIx _ _ _ _ _ i3 (grownBy_putObj' _ _ _) (own h3), h3.put _⟩, bel _ i3 h3 k3⟩⟩
  | exit id =>
    obtain ⟨k3, i3⟩ := hp;obtain ⟨hr, h3⟩ := fin (some (.exit id)) k3;exact ⟨_, _, hr, .inr ⟨rfl, ⟨.exit id, hIx _ _ _ _ _ i3 (grownBy_putObj' _ _ _) (own h3), h3.put _⟩, bel _ i3 h3 k3⟩⟩
  | goto t =>
    obtain ⟨k3, i3⟩ := hp;obtain ⟨hr, h3⟩ := fin (some (.goto t)) k3;exact ⟨_, _, hr, .inr ⟨rfl, ⟨.goto t, hIx _ _ _ _ _ i3 (grownBy_putObj' _ _ _) (own h3), h3.put _⟩, bel _ i3 h3 k3⟩⟩
  | panic ch => exact hp.elim
  | outgrown => exact hp.elim
 ·-- behind the iterator
  rintro e W2 ⟨⟨v, rfl⟩, ⟨xs, hS, hi, hk⟩ | ⟨pre, hSp, c, hi, hk⟩⟩
  ·have hput := hk.put (lp .ready none)
   exact ⟨none, _, run_endLoop (P := P) hk.1 (by simp [lp]), hdone _ xs _ (Nat.le_refl _) hS (hI _ _ _ _ hi (grownBy_putObj' _ _ _) (fun r e => .inr (by injection e with e; subst e; exact ⟨by omega, _, hk.1, rfl⟩))) ((World.putObj_heap_other (by omega)).trans hk.2)⟩
  ·exact ⟨some c, _, run_endLoop (P := P) hk.1 (by simp [lp]), hstop _ c pre _ (Nat.le_refl _) hSp (hIx c _ _ _ _ hi (grownBy_putObj' _ _ _) (fun r e => by injection e with e; subst e; exact ⟨by omega, _, hk.1, rfl⟩)) ((World.putObj_heap_other (by omega)).trans hk.2)⟩
section
variable {cx : Cx} {w0 : Base}
theorem rel_turn {s : St} {a : Act} {W W' : World} {B Bx : Nat} {row : Option Nat} (hR : Rel w0 s a W) (hB : w0.B <= B) (hBx0 : w0.B <= Bx) (hBxr : Bx ∉ s.r) (hg : W.grownBy W' row) (hr : RowB B Bx W row) : Keep w0 s.r W W' := by
 have hne : ∀ k, row = some k -> w0.B <= k /\ k ∉ s.r := fun k e => by
  rcases hr k e with rfl | ⟨hk, o, ho, hc⟩
  ·exact ⟨hBx0, hBxr⟩
  ·refine ⟨Nat.le_trans hB hk, fun hb => ?_⟩
   obtain ⟨i, hi, hib⟩ := List.getElem_of_mem hb;have hil : i < s.hp.length := by rw [<- hR.len]; exact hi
   have h1 := hR.blk [] i k (s.hp[i]) (by rw [List.getElem?_eq_getElem hi, hib]) (by rw [hget_eq, List.getElem?_eq_getElem hil]);rw [h1] at ho; injection ho with ho; subst ho; cases hc
 refine ⟨⟨hg.os, hg.tape, hg.output, hg.size, fun k hk => hg.block k (Nat.lt_of_lt_of_le hk (Nat.le_trans w0.le hR.at_.below.size)) fun e => ?_⟩, fun b hb => hg.block b (hR.at_.lt b hb) fun e => (hne b e.symm).2 hb⟩;have := (hne k e.symm).1; omega
theorem rangeB (hcx : CxOk cx) {n : Nat} (h1 : 1 <= n) {s : St} {a : Act} {w : World} (hR : Rel w0 s a w) {g : Operand} {ps : Array Tmp} {x y : Code} {K : Exit -> St -> Prop} {gf : Nat} {lb : Array Value}
 (hg : ev s.fr g = .val (.func (.func gf) #[] lb)) (eg : Enters cx.P gf)
 {α : Type} {encs : α -> List Value} {Kp : World -> World -> Prop} {S Sp : List α -> Prop} {N Bx : Nat} (hseq : SeqStopsB (n - 1) cx.P gf lb (fun x => (encs x).toArray) Kp S Sp N Bx w0.B w) (hBx : Bx < w.heap.size) (hBx0 : w0.B <= Bx) (hBxr : Bx ∉ s.r)
 (hKt : ∀ {A B C : World}, Kp A B -> Kp B C -> Kp A C) (hKb : ∀ (W : World) (l : Nat) (o o' : Obj), w.heap.size <= l -> W.heap[l]? = some o -> o.isCells = false -> o.isWalk = false -> Kp W (W.putObj l o'))
 (hps : ∀ x, (encs x).length = ps.size)
 {γ : Type} (hpf : γ -> List LB) (Φ : List α -> γ -> World -> Prop) (hΦ : ∀ c pre A B row, Φ pre c A -> A.grownBy B row -> RowB w.heap.size Bx A row -> Φ pre c B) (c0 : γ) (hp0 : hpf c0 = s.hp) (hΦ0 : Φ [] c0 w)
 (Ix : Code -> List α -> γ -> World -> Prop) (hpx : Code -> γ -> List LB) (hIx : ∀ c q, OwnFrom w.heap.size (fun pre W => Ix c pre q W))
 (frx : α -> Fr) (hpa : α -> List LB) (Ψ : γ -> List Nat -> Prop)
 (hassign : ∀ l pre z c W, Φ pre c W -> Below w0.B w0.W W -> w.heap.size <= W.heap.size -> pre.length < N -> codeD (Fence.wide.inRound l) (n - 1 - 1) cx w0 x
   (fun e s' => e = .normal /\ s'.on fun fr2 hp2 r2 L2 w2 df2 => ∃ bs, bs.length = (hpa z).length /\ Ψ c bs /\ Need (fr2 = frx z /\ hp2 = hpf c ++ hpa z /\ r2 = s.r ++ bs /\ df2 = []) (EndI w0 hp2 r2 L2 w2 undef fun _ w1 => KeepsFrom w.heap.size W w1 /\ Kp W w1 /\ Φ pre c w1)) ⟨setP s.fr ps.toList (encs z), hpf c, s.r, [], W, []⟩)
 (hbody : ∀ l pre x c bs W, bs.length = (hpa x).length -> Ψ c bs -> Φ pre c W -> Below w0.B w0.W W -> w.heap.size <= W.heap.size -> pre.length < N -> codeD (Fence.wide.inRound l) (n - 1 - 1) cx w0 y
   (fun e s' => match e with
     | .normal => s'.on fun fr2 hp2 r2 L2 w2 df2 => ∃ c', Need (CovH (hpf c') s.r ⟨fr2, hp2, r2, L2, w2, df2⟩) (EndI w0 hp2 r2 L2 w2 undef fun _ w1 => KeepsFrom w.heap.size W w1 /\ Kp W w1 /\ Φ (pre ++ [x]) c' w1)
     | .ret => s'.on fun fr2 hp2 r2 L2 w2 df2 => ∃ c', Need (CovH (hpx .ret c') s.r ⟨fr2, hp2, r2, L2, w2, df2⟩) (EndI w0 hp2 r2 L2 w2 undef fun _ w1 => KeepsFrom w.heap.size W w1 /\ Ix .ret (pre ++ [x]) c' w1)
     | .exit id => s'.on fun fr2 hp2 r2 L2 w2 df2 => ∃ c', Need (CovH (hpx (.exit id) c') s.r ⟨fr2, hp2, r2, L2, w2, df2⟩) (EndI w0 hp2 r2 L2 w2 undef fun _ w1 => KeepsFrom w.heap.size W w1 /\ Ix (.exit id) (pre ++ [x]) c' w1)
     | _ => False) ⟨frx x, hpf c ++ hpa x, s.r ++ bs, [], W, []⟩)
 (hdone : ∀ D xs c W, w.heap.size <= D -> S xs -> Φ xs c W -> W.heap[D]? = some (.deferred (some [])) -> K .normal ⟨s.fr, hpf c, s.r, [], W, { target := .collected D, args := #[] } :: s.df⟩)
 (hstop : ∀ D c e pre q W, w.heap.size <= D -> Sp pre -> Ix c pre q W -> exitOf c = some e -> W.heap[D]? = some (.deferred (some [])) -> K e ⟨s.fr, hpx c q, s.r, [], W, { target := .collected D, args := #[] } :: s.df⟩) :
 (Code.rangeFunc g ps x y).wpIn Fence.wide n cx.P (fun e a' w' => ∃ s', Rel w0 s' a' w' /\ K e s') a w := by
 have hev := hR.ev1 hg (by simp) [];simp only [SV.den] at hev;have hB : w0.B <= w.heap.size := Nat.le_trans w0.le hR.at_.below.size;have withD : ∀ {hp : List LB} {W : World} (D : Nat), Rel w0 ⟨s.fr, hp, s.r, [], W, s.df⟩ a W -> Rel w0 ⟨s.fr, hp, s.r, [], W, { target := .collected D, args := #[] } :: s.df⟩ { a with defers := { target := .collected D, args := #[] } :: a.defers } W := fun {hp} {W} D h =>
  ⟨congrArg (_ :: ·) h.df, h.fits, ⟨h.at_.below, h.at_.size, h.at_.step, h.at_.blk, h.at_.fresh, h.at_.lt, h.at_.base⟩, h.blk, h.nod, h.len⟩
 have inner : ∀ {hp : List LB} {W : World} {a' : Act} {fr : Fr}, Rel w0 ⟨s.fr, hp, s.r, [], W, s.df⟩ a W -> a'.defers = [] -> (∀ t, Fits (s.r ++ t) fr a'.tmps) -> Rel w0 ⟨fr, hp, s.r, [], W, []⟩ a' W := fun {hp} {W} {a'} {fr} h hd hf =>
  ⟨hd, hf, ⟨h.at_.below, h.at_.size, h.at_.step, h.at_.blk, h.at_.fresh, h.at_.lt, h.at_.base⟩, h.blk, h.nod, h.len⟩
 have rowO : ∀ {A : World} {row : Option Nat}, (∀ r, row = some r -> w.heap.size <= r /\ ∃ o : Obj, A.heap[r]? = some o /\ o.isCells = false) -> RowB w.heap.size Bx A row := fun h r e => .inr (h r e)
 refine range_law h1 hev eg hseq hBx hKt hKb (fun z => by simp [hps]) (fun pre W => ∃ c, Rel w0 ⟨s.fr, hpf c, s.r, [], W, s.df⟩ a W /\ w.heap.size <= W.heap.size /\ Φ pre c W)
  (fun c pre W => (∃ e, exitOf c = some e) /\ ∃ q, Rel w0 ⟨s.fr, hpx c q, s.r, [], W, s.df⟩ a W /\ Ix c pre q W /\ w.heap.size <= W.heap.size)
  (fun pre z a' W => ∃ c bs, (bs.length = (hpa z).length /\ Ψ c bs) /\ Rel w0 ⟨s.fr, hpf c, s.r, [], W, s.df⟩ a W /\ Rel w0 ⟨frx z, hpf c ++ hpa z, s.r ++ bs, [], W, []⟩ a' W /\ w.heap.size <= W.heap.size /\ Φ pre c W) ?_ ?_ ?_ ?_ (fun pre A ⟨c, hr, hs, hf⟩ => below_between hR.at_.below hr.at_.below hs) (fun c pre A ⟨_, q, hr, hx, hs⟩ => below_between hR.at_.below hr.at_.below hs) ?_ ?_ ?_ ?_
 ·rintro pre A C row ⟨c, hr, hs, hf⟩ hgr hrow
  exact ⟨c, hr.keep (rel_turn hr hB hBx0 hBxr hgr hrow), Nat.le_trans hs hgr.size, hΦ c pre A C row hf hgr hrow⟩
 ·rintro c pre A C row ⟨h0, q, hr, hx, hs⟩ hgr hrow
  exact ⟨h0, q, hr.keep (grown_keep hr hB hgr hrow), hIx c q pre A C row hx hgr hrow, Nat.le_trans hs hgr.size⟩
 ·rintro pre z a' _ A C row ⟨c, bs, hl, hr, hr2, hs, hf⟩ hgr hrow
  exact ⟨c, bs, hl, hr.keep (grown_keep hr hB hgr hrow), hr2.keep (grown_keep hr2 hB hgr hrow), Nat.le_trans hs hgr.size, hΦ c pre A C row hf hgr (rowO hrow)⟩
 ·refine ⟨c0, ?_, Nat.le_refl _, hΦ0⟩
  have h0 := hR.keep keep_refl;rw [hp0]; exact h0
 ·rintro l pre z W ⟨c, hr, hs, hf⟩ hN
  have hr1 := rel_sets (w0 := w0) (s := ⟨s.fr, hpf c, s.r, [], W, []⟩) (a := ⟨a.tmps, []⟩) (inner hr rfl hr.fits) ps.toList (encs z);have e1 : (ps.zip (encs z).toArray).foldl (fun (t : Array Value) (x : Nat × Value) => t.setIfInBounds x.1 x.2) a.tmps = sets a.tmps ps.toList (encs z) := by
   rw [<- sets_eq]
  show x.wpIn _ _ _ _ ({ tmps := (ps.zip (encs z).toArray).foldl (fun (t : Array Value) (x : Nat × Value) => t.setIfInBounds x.1 x.2) a.tmps, defers := [] } : Act) W;rw [e1];refine codeD_round hcx l _ _ _ _ _ W _ (hassign l pre z c W hf hr.at_.below hs hN) hr1 ?_;rintro e s' a' W' ⟨rfl, hK⟩ hR';obtain ⟨fr2, hp2, r2, L2, w2, df2⟩ := s';rw [St.on_eq] at hK;obtain ⟨bs, hl, hψ, ⟨e1, e2, e3, e4⟩, h2⟩ := hK;simp only at e1 e2 e3 e4;subst e1; subst e2; subst e3; subst e4;obtain ⟨k1, k2, k3⟩ := h2.h W' hR'.at_;have hcov : Keep w0 s.r W W' := by
   refine ⟨?_, fun b hb => ?_⟩
   ·exact ⟨hR'.at_.below.os.trans hr.at_.below.os.symm, hR'.at_.below.tape.trans hr.at_.below.tape.symm, hR'.at_.below.output.trans hr.at_.below.output.symm, k1.size, fun k hk => (hR'.at_.below.block k hk).trans (hr.at_.below.block k hk).symm⟩
   ·obtain ⟨i, hi, hib⟩ := List.getElem_of_mem hb
    have hil : i < (hpf c).length := by have := hr.len; simp only at this; omega
    have g1 := hr.blk [] i b (hpf c)[i] (by show s.r[i]? = _; rw [List.getElem?_eq_getElem hi, hib]) (by show hget (hpf c) i = _; rw [hget_eq, List.getElem?_eq_getElem hil]);have g2 := hR'.blk [] i b (hpf c)[i] (by show (s.r ++ bs)[i]? = _; rw [List.getElem?_append_left hi, List.getElem?_eq_getElem hi, hib]) (by show hget (hpf c ++ hpa z) i = _; rw [hget_eq, List.getElem?_append_left hil, List.getElem?_eq_getElem hil]);have g3 := hr.blk bs i b (hpf c)[i] (by show s.r[i]? = _; rw [List.getElem?_eq_getElem hi, hib]) (by show hget (hpf c) i = _; rw [hget_eq, List.getElem?_eq_getElem hil]);simp only [List.append_nil] at g1 g2;rw [g2, <- g3]
  exact ⟨rfl, k1, k2, ⟨c, hr.keep hcov, Nat.le_trans hs k1.size, k3⟩, c, bs, ⟨hl, hψ⟩, hr.keep hcov, hR'.keep keep_refl, Nat.le_trans hs k1.size, k3⟩
 ·rintro l pre z a' W _ ⟨c, bs, hl, hr, hr2, hs, hf⟩ hN
  refine codeD_round hcx l _ y _ _ _ W _ (hbody l pre z c bs W hl.1 hl.2 hf hr.at_.below hs hN) hr2 ?_;intro e s' a2 w1 hK hR';cases e with
  | normal =>
    simp only [St.on_eq] at hK;obtain ⟨c', h1, h2⟩ := hK;obtain ⟨h3, h4, h5⟩ := h2.h w1 hR'.at_;exact ⟨h3, h4, c', covH_rel (s := ⟨s.fr, hpf c, s.r, [], W, s.df⟩) hr hR' h1, Nat.le_trans hs h3.size, h5⟩
  | ret =>
    simp only [St.on_eq] at hK;obtain ⟨c', h1, h2⟩ := hK;obtain ⟨h3, h5⟩ := h2.h w1 hR'.at_;exact ⟨h3, ⟨_, rfl⟩, c', covH_rel (s := ⟨s.fr, hpf c, s.r, [], W, s.df⟩) hr hR' h1, h5, Nat.le_trans hs h3.size⟩
  | exit id =>
    simp only [St.on_eq] at hK;obtain ⟨c', h1, h2⟩ := hK;obtain ⟨h3, h5⟩ := h2.h w1 hR'.at_;exact ⟨h3, ⟨_, rfl⟩, c', covH_rel (s := ⟨s.fr, hpf c, s.r, [], W, s.df⟩) hr hR' h1, h5, Nat.le_trans hs h3.size⟩
  | goto l => exact hK.elim
  | panic ch => exact hK.elim
  | outgrown => exact hK.elim
 ·rintro D xs W hD hS ⟨c, hr, hs, hf⟩ hd
  exact ⟨_, withD D hr, hdone D xs c W hD hS hf hd⟩
 ·intro D c pre W hD hS hI hd
  obtain ⟨⟨e, he⟩, q, hRx, hix, hs⟩ := hI;have hk := hstop D c e pre q W hD hS hix he hd;cases c <;> simp only [exitOf] at he <;> try (cases he; done)
  ·injection he with he; subst he; exact wpIn_exit ⟨_, withD D hRx, hk⟩
  ·injection he with he; subst he; exact wpIn_ret ⟨_, withD D hRx, hk⟩
theorem rangeBu (hcx : CxOk cx) {n : Nat} (h1 : 1 <= n) {s : St} {a : Act} {w : World} (hR : Rel w0 s a w) {g : Operand} {ps : Array Tmp} {x y : Code} {K : Exit -> St -> Prop} {gf : Nat} {lb : Array Value}
 (hg : ev s.fr g = .val (.func (.func gf) #[] lb)) (eg : Enters cx.P gf)
 {α : Type} {encs : α -> List Value} {Kp : World -> World -> Prop} {S Sp : List α -> Prop} {N Bx : Nat} (hseq : SeqStopsB (n - 1) cx.P gf lb (fun x => (encs x).toArray) Kp S Sp N Bx w0.B w) (hBx : Bx < w.heap.size) (hBx0 : w0.B <= Bx) (hBxr : Bx ∉ s.r)
 (hKt : ∀ {A B C : World}, Kp A B -> Kp B C -> Kp A C) (hKb : ∀ (W : World) (l : Nat) (o o' : Obj), w.heap.size <= l -> W.heap[l]? = some o -> o.isCells = false -> o.isWalk = false -> Kp W (W.putObj l o'))
 (hps : ∀ x, (encs x).length = ps.size)
 {γ : Type} (hpf : γ -> List LB) (Φ : List α -> γ -> World -> Prop) (hΦ : ∀ c pre A B row, Φ pre c A -> A.grownBy B row -> RowB w.heap.size Bx A row -> Φ pre c B) (c0 : γ) (hp0 : hpf c0 = s.hp) (hΦ0 : Φ [] c0 w)
 (Ix : Code -> List α -> γ -> World -> Prop) (hpx : Code -> γ -> List LB) (hIx : ∀ c q, OwnFrom w.heap.size (fun pre W => Ix c pre q W))
 (upd : α -> List (Nat × SV)) (hpa : α -> List LB) (Ψ : γ -> List Nat -> Prop)
 (hassign : ∀ l pre z c W, Φ pre c W -> Below w0.B w0.W W -> w.heap.size <= W.heap.size -> pre.length < N -> codeD (Fence.wide.inRound l) (n - 1 - 1) cx w0 x
   (fun e s' => e = .normal /\ s'.on fun fr2 hp2 r2 L2 w2 df2 => ∃ bs, bs.length = (hpa z).length /\ Ψ c bs /\ Need (fr2 = setM (setP s.fr ps.toList (encs z)) (upd z) /\ hp2 = hpf c ++ hpa z /\ r2 = s.r ++ bs /\ df2 = []) (EndI w0 hp2 r2 L2 w2 undef fun _ w1 => KeepsFrom w.heap.size W w1 /\ Kp W w1 /\ Φ pre c w1)) ⟨setP s.fr ps.toList (encs z), hpf c, s.r, [], W, []⟩)
 (hbody : ∀ l pre x c bs W, bs.length = (hpa x).length -> Ψ c bs -> Φ pre c W -> Below w0.B w0.W W -> w.heap.size <= W.heap.size -> pre.length < N -> codeD (Fence.wide.inRound l) (n - 1 - 1) cx w0 y
   (fun e s' => match e with
     | .normal => s'.on fun fr2 hp2 r2 L2 w2 df2 => ∃ c', Need (CovH (hpf c') s.r ⟨fr2, hp2, r2, L2, w2, df2⟩) (EndI w0 hp2 r2 L2 w2 undef fun _ w1 => KeepsFrom w.heap.size W w1 /\ Kp W w1 /\ Φ (pre ++ [x]) c' w1)
     | .ret => s'.on fun fr2 hp2 r2 L2 w2 df2 => ∃ c', Need (CovH (hpx .ret c') s.r ⟨fr2, hp2, r2, L2, w2, df2⟩) (EndI w0 hp2 r2 L2 w2 undef fun _ w1 => KeepsFrom w.heap.size W w1 /\ Ix .ret (pre ++ [x]) c' w1)
     | .exit id => s'.on fun fr2 hp2 r2 L2 w2 df2 => ∃ c', Need (CovH (hpx (.exit id) c') s.r ⟨fr2, hp2, r2, L2, w2, df2⟩) (EndI w0 hp2 r2 L2 w2 undef fun _ w1 => KeepsFrom w.heap.size W w1 /\ Ix (.exit id) (pre ++ [x]) c' w1)
     | _ => False) ⟨setM (setP s.fr ps.toList (encs x)) (upd x), hpf c ++ hpa x, s.r ++ bs, [], W, []⟩)
 (hdone : ∀ D xs c W, w.heap.size <= D -> S xs -> Φ xs c W -> W.heap[D]? = some (.deferred (some [])) -> K .normal ⟨s.fr, hpf c, s.r, [], W, { target := .collected D, args := #[] } :: s.df⟩)
 (hstop : ∀ D c e pre q W, w.heap.size <= D -> Sp pre -> Ix c pre q W -> exitOf c = some e -> W.heap[D]? = some (.deferred (some [])) -> K e ⟨s.fr, hpx c q, s.r, [], W, { target := .collected D, args := #[] } :: s.df⟩) :
 (Code.rangeFunc g ps x y).wpIn Fence.wide n cx.P (fun e a' w' => ∃ s', Rel w0 s' a' w' /\ K e s') a w :=
 rangeB hcx h1 hR hg eg hseq hBx hBx0 hBxr (fun h k => hKt h k) hKb hps hpf Φ hΦ c0 hp0 hΦ0 Ix hpx hIx (fun z => setM (setP s.fr ps.toList (encs z)) (upd z)) hpa Ψ hassign hbody hdone hstop
end
end Go.Proofs.YtanhnllkccldhaaGreat.Eng
namespace Go.Proofs.YtanhnllkccldhaaGreat
set_option linter.unusedVariables false
set_option linter.unusedSimpArgs false
set_option maxRecDepth 100000
section
open Go.RowKit Go.Proofs.YtanhnllkccldhaaGreat.Eng Enc
namespace Mi
def go (b : Zn) : List Nat -> Zn -> List (Zn × Int)
 | [], _ => []
 | i :: l, a =>
   if (Bd.not (Zo.get b i)).2 ≠ 0 then go b l a
   else (if (wth a (other i) (Bd.not (Zo.get b i)).1).2 = 6 then [] else [wth a (other i) (Bd.not (Zo.get b i)).1]) ++
    (if (wth a i (Zo.get b i)).2 = 6 then [] else (if (wth a i (Zo.get b i)).2 = 0 then [] else [wth a i (Zo.get b i)]) ++ go b l (wth a i (Zo.get b i)).1)
def parts (a b : Zn) : List (Zn × Int) := go b [0, 1, 2, 3, 4, 5] a
theorem go_len (b : Zn) (l : List Nat) (a : Zn) : (go b l a).length <= 2 * l.length := by
 induction l generalizing a with
 | nil => simp [go]
 | cons i l ih =>
   have h1 := ih a;have h2 := ih (wth a i (Zo.get b i)).1;unfold go;simp only [List.length_cons];split
   ·omega
   ·rw [List.length_append]
    split <;> split <;> (try split) <;> simp only [List.length_append, List.length_cons, List.length_nil] <;> omega
theorem parts_len (a b : Zn) : (parts a b).length <= 12 := go_len b [0, 1, 2, 3, 4, 5] a
theorem drop_six {k : Nat} (h : k < 6) : [0, 1, 2, 3, 4, 5].drop k = k :: [0, 1, 2, 3, 4, 5].drop (k + 1) := by
 have : k = 0 \/ k = 1 \/ k = 2 \/ k = 3 \/ k = 4 \/ k = 5 := by omega
 rcases this with rfl | rfl | rfl | rfl | rfl | rfl <;> rfl
def Holds (W : World) (B : Nat) (z : Zn) : Prop := W.heap[B]? = some (.cells #[.int .i64 z.a, .int .i64 z.b, .int .i64 z.c, .int .i64 z.d, .int .i64 z.e, .int .i64 z.f] 86 (0, 0))
theorem Holds.lt {W : World} {B : Nat} {z : Zn} (h : Holds W B z) : B < W.heap.size := (Array.getElem?_eq_some_iff.1 h).1
theorem Holds.cells {W : World} {B : Nat} {z : Zn} (h : Holds W B z) (j : Nat) (c : Value) (hj : [Value.int .i64 z.a, .int .i64 z.b, .int .i64 z.c, .int .i64 z.d, .int .i64 z.e, .int .i64 z.f][j]? = some c) : W.cell? ((⟨B, 0, none⟩ : Addr).add j) = some c := by
 rw [addr_addL, Nat.zero_add];have hj6 := (List.getElem?_eq_some_iff.1 hj).1;simp only [List.length_cons, List.length_nil] at hj6;have : j = 0 \/ j = 1 \/ j = 2 \/ j = 3 \/ j = 4 \/ j = 5 := by omega
 have h' : W.heap[B]? = _ := h;rcases this with rfl | rfl | rfl | rfl | rfl | rfl <;> (simp at hj; subst hj; simp [World.cell?, h'])
theorem Holds.below {W W' : World} {B : Nat} {z : Zn} (h : Holds W B z) (hB : Below W.heap.size W W') : Holds W' B z := (hB.block B h.lt).trans h
theorem Holds.same {W W' : World} {B : Nat} {z : Zn} (h : Holds W B z) (e : W'.heap[B]? = W.heap[B]?) : Holds W' B z := e.trans h
def KpM (n₀ Ba Bb : Nat) (W W' : World) : Prop := Below n₀ W W' /\ W'.heap[Ba]? = W.heap[Ba]? /\ W'.heap[Bb]? = W.heap[Bb]?
def encM (x : Zn × Int) : List Value := [.agg #[.int .i64 x.1.a, .int .i64 x.1.b, .int .i64 x.1.c, .int .i64 x.1.d, .int .i64 x.1.e, .int .i64 x.1.f], .int .i64 x.2]
end Mi
theorem at_grown {w0 : Base} {hp : List LB} {r L : List Nat} {w w1 : World} (h : At w0 hp r L w w1) (hL : ∀ b, b ∈ L -> w.heap.size <= b) (row : Option Nat) : w.grownBy w1 row :=
 ⟨h.below.os.trans h.base.os.symm, h.below.tape.trans h.base.tape.symm, h.below.output.trans h.base.output.symm, h.size, fun k hk _ => h.step k hk fun hm => by have := hL k hm; omega⟩
theorem at_below {w0 : Base} {hp : List LB} {r L : List Nat} {w w1 : World} (h : At w0 hp r L w w1) (hL : ∀ b, b ∈ L -> w.heap.size <= b) : Below w.heap.size w w1 :=
 ⟨h.below.os.trans h.base.os.symm, h.below.tape.trans h.base.tape.symm, h.below.output.trans h.base.output.symm, h.size, fun k hk => h.step k hk fun hm => by have := hL k hm; omega⟩
theorem index_zn (b : Zn) (k : Nat) (hk : k < 6) (w : World) : (Instr.index 86 (.agg #[.int .i64 b.a, .int .i64 b.b, .int .i64 b.c, .int .i64 b.d, .int .i64 b.e, .int .i64 b.f]) (.int .i64 (k : Nat))).run Tryz.prog w = .ok (.int .i64 (Zo.get b k)) w := by
 rcases (by omega : k = 0 \/ k = 1 \/ k = 2 \/ k = 3 \/ k = 4 \/ k = 5) with rfl | rfl | rfl | rfl | rfl | rfl <;> kernel_rfl
structure Mi.Sit (n₀ Ba Bb : Nat) (W : World) (x b : Zn) (Jp : World -> Prop) (X : World) : Prop where
 below : Below n₀ W X
 size : W.heap.size <= X.heap.size
 ha : Mi.Holds X Ba x
 hb : Mi.Holds X Bb b
 j : Jp X
section
variable {n₀ Ba Bb : Nat} {W X Y : World} {x b : Zn} {Jp : World -> Prop}
open Mi
theorem Mi.Sit.go (h : Sit n₀ Ba Bb W x b Jp X) (hn : n₀ <= W.heap.size) (hJ : ∀ A B, Jp A -> A.grownBy B (some Ba) -> Jp B) (hB : Below X.heap.size X Y) : Sit n₀ Ba Bb W x b Jp Y :=
 ⟨h.below.trans (hB.mono (Nat.le_trans hn h.size)), Nat.le_trans h.size hB.size, h.ha.below hB, h.hb.below hB, hJ _ _ h.j (below_grown hB _)⟩
theorem Mi.Sit.at {w0 : Base} {hp : List LB} {r L : List Nat} (h : Sit n₀ Ba Bb W x b Jp X) (hn : n₀ <= W.heap.size) (hJ : ∀ A B, Jp A -> A.grownBy B (some Ba) -> Jp B) (h1 : At w0 hp r L X Y) (hL : ∀ b, b ∈ L -> X.heap.size <= b) : Sit n₀ Ba Bb W x b Jp Y :=
 h.go hn hJ (at_below h1 hL)
end
set_option maxHeartbeats 4000000 in
open Mi in
theorem parts_stops (n : Nat) (Ba Bb n₀ : Nat) (a b : Zn) (w : World) (hab : Ba ≠ Bb) (ha0 : n₀ <= Ba) (hb0 : n₀ <= Bb) (ha : Holds w Ba a) (hb : Holds w Bb b) :
 SeqStopsB n Tryz.prog 234 #[.pointer (some ⟨Bb, 0, none⟩), .pointer (some ⟨Ba, 0, none⟩)] (fun x => (encM x).toArray) (KpM n₀ Ba Bb) (fun xs => xs = parts a b) (fun pre => pre <+: parts a b) 12 Ba n₀ w := fun l J Jx W hW hJ hJx hY h0 => by
 have hsz := hW.size;have hn0 : n₀ <= W.heap.size := by have := ha.lt; omega
 refine (fun_in n n₀ W hn0 Tryz.func234 (args := [.val (.func (.yield l) #[] #[]), .val (.pointer (some ⟨Bb, 0, none⟩)), .val (.pointer (some ⟨Ba, 0, none⟩))]) (R := fun _ W' => (∃ xs, xs = parts a b /\ J xs W') \/ (∃ pre, pre <+: parts a b /\ Jx pre W')) rfl rfl ?_).mono ?_
 case refine_2 =>
  rintro e W' ⟨v, rfl, _, h⟩;exact ⟨⟨_, rfl⟩, h⟩
 have hbW := hb.below hW;have haW := ha.below hW;refine LoadA.mk ⟨[.int .i64 b.a, .int .i64 b.b, .int .i64 b.c, .int .i64 b.d, .int .i64 b.e, .int .i64 b.f], ⟨rfl, by decide, by simp, hbW.cells⟩, ?_⟩
 refine LoopI.invC (α := (Nat × Zn × List (Zn × Int)) × World) (fun y => [(12, .val (.int .i64 y.1.1))]) (fun y => y.2)
  (fun y => y.1.1 <= 6 /\ Below n₀ W y.2 /\ W.heap.size <= y.2.heap.size /\ Holds y.2 Ba y.1.2.1 /\ Holds y.2 Bb b /\ J y.1.2.2 y.2 /\ y.1.2.2 ++ go b ([0, 1, 2, 3, 4, 5].drop y.1.1) y.1.2.1 = parts a b) (fun y => 6 - y.1.1) ?_ ?_
 ·intro w1 h1
  have hg := at_below h1 (by simp);exact ⟨((0, a, []), w1), Cov.au rfl rfl rfl rfl rfl, rfl, Nat.zero_le _, h1.below, h1.size, haW.below hg, hbW.below hg, hJ _ _ _ h0 (at_grown h1 (by simp) _), rfl⟩
 rintro ⟨⟨k, x, pre⟩, V⟩ ⟨hk, hV, hVs, hax, hbx, hj, hpre⟩;simp only at hk hV hVs hax hbx hj hpre;refine Branch.mk (fun hc => ?_) (fun hc => ?_)
 ·have hlt : k < 6 := by (have : (k : Int) < 6 := by simpa using hc); omega
  rw [drop_six hlt] at hpre;have sit : Sit n₀ Ba Bb W x b (J pre) V := ⟨hV, hVs, hax, hbx, hj⟩;refine GenV.to (x := .int .i64 (Zo.get b k)) (fun w => index_zn b k hlt w) fun u0 k0 => ?_;have sit := sit.at hn0 (hJ pre) k0 (by simp);apply CallI.use1
  focus (exact fun w1 h1 => bnot_any (Zo.get b k) w1)
  intro w1 v1 h1 hB1;have sit := (sit.at hn0 (hJ pre) h1 (by simp)).go hn0 (hJ pre) hB1;refine Branch.mk (fun hc2 => ?_) (fun hc2 => ?_)
  ·have hn : (Bd.not (Zo.get b k)).2 ≠ 0 := by simpa using hc2
   rw [go, if_pos hn] at hpre;refine Need.ok (EndI.mk fun w9 h9 => ⟨((k + 1, x, pre), w9), Cov.au rfl rfl rfl rfl rfl, rfl, ?_, by simp only; omega⟩);have sit := sit.at hn0 (hJ pre) h9 (by simp);exact ⟨hlt, sit.below, sit.size, sit.ha, sit.hb, sit.j, hpre⟩
  have hn : (Bd.not (Zo.get b k)).2 = 0 := by simpa using hc2
  rw [go, if_neg (by simp [hn])] at hpre;refine DrawI.go (.tk 0 (.tk 1 (.tk 3 (.two 2 (.two 4 (.tk 5 (.tk 6 (.tk 7 (.ev 8 (.ev 9 (.tk 10 .done)))))) 8 (.ev 4 (.tk 5 (.tk 6 (.tk 7 (.ev 9 (.tk 10 .done))))))) 8 (.ev 2 (.ev 4 (.tk 5 (.tk 6 (.tk 7 (.ev 9 (.tk 10 .done))))))))))) (by kernel_rfl) fun w2 h2 => ?_;have sit := sit.at hn0 (hJ pre) h2 (by simp);have S2 := sit;have hF := Below.refl w2.heap.size w2;have hBaw2 : Ba < w2.heap.size := sit.ha.lt;have hBbw2 : Bb < w2.heap.size := sit.hb.lt;generalize hzz : wth x (other k) (Bd.not (Zo.get b k)).1 = z at *;generalize hyy : wth x k (Zo.get b k) = y at *;refine LoadA.mk ⟨[.int .i64 x.a, .int .i64 x.b, .int .i64 x.c, .int .i64 x.d, .int .i64 x.e, .int .i64 x.f], ⟨rfl, by decide, by simp, sit.ha.cells⟩, ?_⟩;refine Both.mk ?_ ?_;apply CallI.use1
  focus (exact fun w3 h3 => mother_any k hlt w3)
  intro w3 v3 h3 hB3;have hF := h3.from S2.below hF (fun b hb => by simp at hb <;> omega)
  have hF := hF.trans (hB3.mono hF.size);have hXV3 := hF.size;refine Both.mk ?_ ?_;apply CallI.use1
  focus (exact fun w4 h4 => mwith_any x (other k) (by unfold other; split <;> omega) (Bd.not (Zo.get b k)).1 w4)
  intro w4 v4 h4 hB4;have hF := h4.from S2.below hF (fun b hb => by simp at hb <;> omega)
  have hF := hF.trans (hB4.mono hF.size);have hXV4 := hF.size;rw [hzz];refine NewI.mk fun b1 hb1 => ?_;have hb1 : v4.heap.size <= b1 := hb1;rotate_left;refine NewI.mk fun b1 hb1 => ?_;have hb1 : v3.heap.size <= b1 := hb1;apply CallI.use1
  focus (exact fun w4 h4 => mwith_any x (other k) (by unfold other; split <;> omega) (Bd.not (Zo.get b k)).1 w4)
  intro w4 v4 h4 hB4;have hF := h4.from S2.below hF (fun b hb => by simp at hb <;> omega)
  have hF := hF.trans (hB4.mono hF.size);have hXV4 := hF.size;rw [hzz];rotate_left;refine NewI.mk fun b1 hb1 => ?_;have hb1 : w2.heap.size <= b1 := hb1;apply CallI.use1
  focus (exact fun w3 h3 => mother_any k hlt w3)
  intro w3 v3 h3 hB3;have hF := h3.from S2.below hF (fun b hb => by simp at hb <;> omega)
  have hF := hF.trans (hB3.mono hF.size);have hXV3 := hF.size;apply CallI.use1
  focus (exact fun w4 h4 => mwith_any x (other k) (by unfold other; split <;> omega) (Bd.not (Zo.get b k)).1 w4)
  intro w4 v4 h4 hB4;have hF := h4.from S2.below hF (fun b hb => by simp at hb <;> omega)
  have hF := hF.trans (hB4.mono hF.size);have hXV4 := hF.size;rw [hzz]
  all_goals
   refine Branch.mk (fun hc3 => ?_) (fun hc3 => ?_);have h6 : ¬ z.2 = 6 := by simpa using hc3
   rw [if_neg h6] at hpre;refine ⟨fun w5 h5 => ?_⟩;have hF := h5.from S2.below hF (fun b hb => by simp at hb <;> omega)
   have sit5 := S2.go hn0 (hJ pre) hF;refine (hY (pre) z w5 sit5.j (by have h12 := congrArg List.length hpre; have := parts_len a b; simp only [List.length_append, List.length_cons] at h12; (try simp only [List.length_append, List.length_cons, List.length_nil]); omega)).mono ?_;rintro e v5 (⟨rfl, hj5, hk5⟩ | ⟨rfl, hx5, hk5⟩);refine ⟨_, rfl, sit5.below.trans hk5.1, ?_⟩;have sitX : Sit n₀ Ba Bb W x b (J (pre ++ [z])) v5 := ⟨sit5.below.trans hk5.1, Nat.le_trans sit5.size hk5.1.size, sit5.ha.same hk5.2.1, sit5.hb.same hk5.2.2, hj5⟩;have hF := Below.refl v5.heap.size v5;have hBaX := sitX.ha.lt;have hpre : (pre ++ [z]) ++ _ = parts a b := (List.append_assoc _ _ _).trans hpre
   first | refine Branch.no rfl ?_ | skip
   generalize pre ++ [z] = P at sitX hpre ⊢;rotate_left;refine ⟨_, rfl, sit5.below.trans hk5, ?_⟩
   first | refine Branch.yes rfl ?_ | skip
   exact EndI.mk fun w9 h9 => .inr ⟨pre ++ [z], ⟨_, (List.append_assoc _ _ _).trans hpre⟩, hJx _ _ _ hx5 (at_grown h9 (by simp) _)⟩;have h6 : z.2 = 6 := by simpa using hc3
   rw [if_pos h6, List.nil_append] at hpre;have sitX := S2
   first | refine Branch.no rfl ?_ | skip
   obtain ⟨P, hP⟩ : ∃ P, P = pre := ⟨_, rfl⟩;rw [<- hP] at sitX hpre
  all_goals
   refine LoadA.mk ⟨[.int .i64 x.a, .int .i64 x.b, .int .i64 x.c, .int .i64 x.d, .int .i64 x.e, .int .i64 x.f], ⟨rfl, by decide, (by simp <;> omega), (sitX.go hn0 (hJ _) hF).ha.cells⟩, ?_⟩;apply CallI.use1
   focus (exact fun w6 h6 => mwith_any x k hlt (Zo.get b k) w6)
   intro w6 v6 h6 hB6;have hF := h6.from sitX.below hF (fun b hb => by simp at hb <;> omega)
   have hF := hF.trans (hB6.mono hF.size);have hXV := hF.size;rw [hyy];refine NewI.mk fun b2 hb2 => ?_;have hb2 : v6.heap.size <= b2 := hb2;refine Branch.mk (fun hc4 => ?_) (fun hc4 => ?_)
   ·have h6y : y.2 = 6 := by simpa using hc4
    rw [if_pos h6y, List.append_nil] at hpre;exact EndI.mk fun w9 h9 => .inl ⟨_, rfl, by rw [<- hpre]; exact (sitX.go hn0 (hJ _) (h9.from sitX.below hF (fun b hb => by simp at hb <;> omega))).j⟩
   have h6y : ¬ y.2 = 6 := by simpa using hc4
   rw [if_neg h6y] at hpre;refine Need.mk rfl ?_;refine ⟨fun w7 h7 => ?_⟩;have hF7 := h7.from sitX.below hF (fun b hb => by simp at hb <;> omega)
   have sit7 := sitX.go hn0 (hJ _) hF7;refine ⟨Ba, 0, _, _, rfl, sit7.ha, by simp, ⟨below_setRow (Below.refl _ _) ha0 _, fun b hb => setRow_other _ _ _ _ (by simp at hb <;> omega)⟩, ?_⟩;generalize hw8 : w7.setRow Ba _ = w8;have sit8 : Sit n₀ Ba Bb W y.1 b (J (P)) w8 := by
    rw [<- hw8];exact ⟨below_setRow sit7.below ha0 _, by rw [setRow_size]; exact sit7.size, setRow_heap _ _ _ _ _ _ sit7.ha, (setRow_other _ _ _ _ (fun e => hab e.symm)).trans sit7.hb, hJ _ _ _ sit7.j (grown_setRow _ _ _)⟩
   clear hw8;refine Branch.mk (fun hc5 => ?_) (fun hc5 => ?_)
   ·have h0y : ¬ y.2 = 0 := by simpa using hc5
    rw [if_neg h0y] at hpre;refine LoadA.mk ⟨[.int .i64 y.1.a, .int .i64 y.1.b, .int .i64 y.1.c, .int .i64 y.1.d, .int .i64 y.1.e, .int .i64 y.1.f], ⟨rfl, by decide, (by simp <;> omega), sit8.ha.cells⟩, ?_⟩;refine ⟨fun w5 h5 => ?_⟩;have sit5 := sit8.at hn0 (hJ _) h5 (fun b hb => by simp at hb <;> omega);refine (hY (P) y w5 sit5.j (by have h12 := congrArg List.length hpre; have := parts_len a b; simp only [List.length_append, List.length_cons] at h12; (try simp only [List.length_append, List.length_cons, List.length_nil]); omega)).mono ?_;rintro e v5 (⟨rfl, hj5, hk5⟩ | ⟨rfl, hx5, hk5⟩)
    ·refine ⟨_, rfl, sit5.below.trans hk5.1, ?_⟩
     have sitX : Sit n₀ Ba Bb W y.1 b (J (P ++ [y])) v5 := ⟨sit5.below.trans hk5.1, Nat.le_trans sit5.size hk5.1.size, sit5.ha.same hk5.2.1, sit5.hb.same hk5.2.2, hj5⟩;have hF := Below.refl v5.heap.size v5;have hBaX := sitX.ha.lt;have hpre : (P ++ [y]) ++ _ = parts a b := (List.append_assoc _ _ _).trans hpre
     first | refine Branch.no rfl ?_ | skip
     refine Need.ok (EndI.mk fun w11 h11 => ⟨((k + 1, y.1, P ++ [y]), w11), Cov.au rfl rfl rfl rfl rfl, rfl, ?_, by simp only; omega⟩);have sit11 := sitX.at hn0 (hJ _) h11 (fun b hb => by simp at hb <;> omega);exact ⟨hlt, sit11.below, sit11.size, sit11.ha, sit11.hb, sit11.j, by first | exact hpre | (rw [List.append_assoc]; exact hpre)⟩
    ·refine ⟨_, rfl, sit5.below.trans hk5, ?_⟩
     first | refine Branch.yes rfl ?_ | skip
     exact EndI.mk fun w9 h9 => .inr ⟨P ++ [y], ⟨_, (List.append_assoc _ _ _).trans hpre⟩, hJx _ _ _ hx5 (at_grown h9 (by simp) _)⟩
   ·have h0y : y.2 = 0 := by simpa using hc5
    rw [if_pos h0y, List.nil_append] at hpre
    first | refine Branch.no rfl ?_ | skip
    refine Need.ok (EndI.mk fun w11 h11 => ⟨((k + 1, y.1, P), w11), Cov.au rfl rfl rfl rfl rfl, rfl, ?_, by simp only; omega⟩);have sit11 := sit8.at hn0 (hJ _) h11 (fun b hb => by simp at hb <;> omega);exact ⟨hlt, sit11.below, sit11.size, sit11.ha, sit11.hb, sit11.j, by first | exact hpre | (rw [List.append_assoc]; exact hpre)⟩
 ·refine EndI.mk fun w9 h9 => .inl ⟨parts a b, rfl, ?_⟩
  have h6 : k = 6 := by (have : ¬ (k : Int) < 6 := by simpa using hc); omega
  subst h6;simp only [List.drop, go, List.append_nil] at hpre;rw [<- hpre];exact hJ _ _ _ hj (at_grown h9 (by simp) _)
namespace Mi
def minus (a b : Zn) : List Zn × Int :=
 if Zo.chk a = 0 /\ Zo.chk b = 0 then (match (parts a b).find? (fun x => decide (x.2 ≠ 0)) with | some x => ([], x.2) | none => ((parts a b).map (·.1), 0)) else ([], 8)
end Mi
theorem parts_at (a b : Zn) (w : World) :
 Calls Tryz.prog 226 #[.agg #[.int .i64 a.a, .int .i64 a.b, .int .i64 a.c, .int .i64 a.d, .int .i64 a.e, .int .i64 a.f], .agg #[.int .i64 b.a, .int .i64 b.b, .int .i64 b.c, .int .i64 b.d, .int .i64 b.e, .int .i64 b.f]] w fun e w' => e = .returned (.func (.func 234) #[] #[.pointer (some ⟨w.heap.size + 1, 0, none⟩), .pointer (some ⟨w.heap.size, 0, none⟩)]) /\ w' = (w.alloc (.cells #[.int .i64 a.a, .int .i64 a.b, .int .i64 a.c, .int .i64 a.d, .int .i64 a.e, .int .i64 a.f] 86)).alloc (.cells #[.int .i64 b.a, .int .i64 b.b, .int .i64 b.c, .int .i64 b.d, .int .i64 b.e, .int .i64 b.f] 86) := by
 go_enter Tryz.func226, Tryz.ntmps226
 go_wp2
 go_ret
 exact ⟨by simp, rfl⟩
open Mi in
theorem parts_any (a b : Zn) (w : World) :
 Calls Tryz.prog 226 #[.agg #[.int .i64 a.a, .int .i64 a.b, .int .i64 a.c, .int .i64 a.d, .int .i64 a.e, .int .i64 a.f], .agg #[.int .i64 b.a, .int .i64 b.b, .int .i64 b.c, .int .i64 b.d, .int .i64 b.e, .int .i64 b.f]] w (Ret w fun v w' => ∃ Ba Bb, v = .func (.func 234) #[] #[.pointer (some ⟨Bb, 0, none⟩), .pointer (some ⟨Ba, 0, none⟩)] /\ w.heap.size <= Ba /\ w.heap.size <= Bb /\ Ba ≠ Bb /\ Holds w' Ba a /\ Holds w' Bb b) :=
 (parts_at a b w).mono fun e w' ⟨he, hw⟩ => ⟨_, he, by rw [hw]; exact ((Below.refl _ _).alloc (Nat.le_refl _) _).alloc (by simp) _, w.heap.size, w.heap.size + 1, rfl, Nat.le_refl _, by omega, by omega, by
   rw [hw]; exact (Below.heap_alloc _ _ _ (by simp)).trans (World.alloc_heap_new w _), by
   rw [hw];have := World.alloc_heap_new (w.alloc (.cells #[.int .i64 a.a, .int .i64 a.b, .int .i64 a.c, .int .i64 a.d, .int .i64 a.e, .int .i64 a.f] 86)) (.cells #[.int .i64 b.a, .int .i64 b.b, .int .i64 b.c, .int .i64 b.d, .int .i64 b.e, .int .i64 b.f] 86)
   rwa [World.size_alloc] at this⟩
open Mi in
theorem minus_any (a b : Zn) (w : World) :
 Calls Tryz.prog 206 #[.agg #[.int .i64 a.a, .int .i64 a.b, .int .i64 a.c, .int .i64 a.d, .int .i64 a.e, .int .i64 a.f], .agg #[.int .i64 b.a, .int .i64 b.b, .int .i64 b.c, .int .i64 b.d, .int .i64 b.e, .int .i64 b.f]] w (Ret w fun v w' => ∃ a' c', v = .tuple #[.slice a' (Mi.minus a b).1.length c', .int .i64 (Mi.minus a b).2] /\ Own 86 w.heap.size w' (.slice a' (Mi.minus a b).1.length c') (Mi.minus a b).1) := by
 refine fun_at 9 w.heap.size w (Nat.le_refl _) Tryz.func206 (args := [.agg [.val (.int .i64 a.a), .val (.int .i64 a.b), .val (.int .i64 a.c), .val (.int .i64 a.d), .val (.int .i64 a.e), .val (.int .i64 a.f)], .agg [.val (.int .i64 b.a), .val (.int .i64 b.b), .val (.int .i64 b.c), .val (.int .i64 b.d), .val (.int .i64 b.e), .val (.int .i64 b.f)]]) rfl rfl ?_;refine NewI.mk fun b1 hb1 => ?_;refine NewI.mk fun b2 hb2 => ?_;refine NewI.mk fun b3 hb3 => ?_;refine NewI.mk fun b4 hb4 => ?_;unfold Mi.minus;have st := Stay.first (w := w)
 apply CallI.use1
 focus (exact fun w1 h1 => zcheck_any a w1)
 intro w1 v1 h1 hB1;have st := st.nx h1 hB1;refine Branch.mk (fun hc => ?_) (fun hc => ?_)
 ·have h0 : ¬ Zo.chk a = 0 := by simpa using hc
  rw [if_neg (fun h => h0 h.1)];exact EndI.mk fun w9 h9 => ⟨_, _, rfl, Own.nil⟩
 have h0a : Zo.chk a = 0 := by simpa using hc
 apply CallI.use1
 focus (exact fun w2 h2 => zcheck_any b w2)
 intro w2 v2 h2 hB2;have st := st.nx h2 hB2;refine Branch.mk (fun hc2 => ?_) (fun hc2 => ?_)
 ·have h0 : ¬ Zo.chk b = 0 := by simpa using hc2
  rw [if_neg (fun h => h0 h.2)];exact EndI.mk fun w9 h9 => ⟨_, _, rfl, Own.nil⟩
 have h0b : Zo.chk b = 0 := by simpa using hc2
 rw [if_pos ⟨h0a, h0b⟩];apply CallI.use
 focus (exact fun w3 h3 => parts_any a b w3)
 rintro v w3 v3 h3 hB3 ⟨Ba, Bb, rfl, hBa, hBb, hab, hha, hhb⟩;have st := st.nx h3 hB3;have hBv := hB3.size;have e4 : w.heap.size <= b4 := hb4;have lb : ∀ b, b ∈ [b1, b2, b3, b4] -> b < w3.heap.size := fun b hb => h3.lt b hb;have hw3 : w.heap.size <= w3.heap.size := h3.below.size;refine RawI.mk fun ac w7 hR => ?_;have h7 := hR.at_;have hha7 := hha.below (at_below h7 (by simp));have hhb7 := hhb.below (at_below h7 (by simp));have hlA := hha7.lt;have hlB := hhb7.lt;have hv7 : v3.heap.size <= w7.heap.size := h7.size;have lb7 : ∀ b, b ∈ [b1, b2, b3, b4] -> b < w7.heap.size /\ b ≠ Ba /\ b ≠ Bb := fun b hb => by have := lb b hb; omega
 refine rangeBu cxOk (by decide) hR rfl Tryz.call234 (parts_stops 8 Ba Bb w.heap.size a b w7 hab (by omega) (by omega) hha7 hhb7) (encs := encM) hlA (by show w.heap.size <= Ba; omega) (fun hm => (lb7 Ba hm).2.1 rfl)
  (fun h k => ⟨h.1.trans k.1, k.2.1.trans h.2.1, k.2.2.trans h.2.2⟩) ?_ (fun x => rfl)
  (γ := Value × Int) (fun c => [⟨[.val (.int .i64 a.a), .val (.int .i64 a.b), .val (.int .i64 a.c), .val (.int .i64 a.d), .val (.int .i64 a.e), .val (.int .i64 a.f)], 86⟩, ⟨[.val (.int .i64 b.a), .val (.int .i64 b.b), .val (.int .i64 b.c), .val (.int .i64 b.d), .val (.int .i64 b.e), .val (.int .i64 b.f)], 86⟩, ⟨[.val c.1], 22⟩, ⟨[.val (.int .i64 0)], 28⟩])
  (fun (pre : List (Zn × Int)) (c : Value × Int) W => (∀ x : Zn × Int, x ∈ pre -> x.2 = 0) /\ Own 86 w7.heap.size W c.1 (pre.map (·.1))) ?_ (.slice none 0 0, 0) rfl ⟨by simp, Own.nil⟩
  (fun (c : Code) (pre : List (Zn × Int)) (q : Value × Int) (W : World) => c = .ret /\ ∃ (pre0 : List (Zn × Int)) (x : Zn × Int), pre = pre0 ++ [x] /\ (∀ y : Zn × Int, y ∈ pre0 -> y.2 = 0) /\ x.2 ≠ 0 /\ q.2 = x.2)
  (fun _ q => [⟨[.val (.int .i64 a.a), .val (.int .i64 a.b), .val (.int .i64 a.c), .val (.int .i64 a.d), .val (.int .i64 a.e), .val (.int .i64 a.f)], 86⟩, ⟨[.val (.int .i64 b.a), .val (.int .i64 b.b), .val (.int .i64 b.c), .val (.int .i64 b.d), .val (.int .i64 b.e), .val (.int .i64 b.f)], 86⟩, ⟨[.val (.slice none 0 0)], 22⟩, ⟨[.val (.int .i64 q.2)], 28⟩])
  (fun c q pre A B row h hg hr => h) (fun z => [(6, .loc 4 0), (7, .val (.int .i64 z.2))]) (fun z => [⟨[.val (.int .i64 z.1.a), .val (.int .i64 z.1.b), .val (.int .i64 z.1.c), .val (.int .i64 z.1.d), .val (.int .i64 z.1.e), .val (.int .i64 z.1.f)], 86⟩]) (fun c bs => ∀ k, c.1.ownBlock = some k -> k ∉ bs) ?asg ?body ?done ?stop
 case asg =>
  intro l pre z c W hΦ hBW hsW hN;refine NewI.mk fun b5 hb5 => ?_;refine ⟨rfl, [b5], rfl, fun k hk hm => by have := hΦ.2.lt k hk; have hb5 : W.heap.size <= b5 := hb5; simp at hm; omega, Need.mk ⟨rfl, rfl, rfl, rfl⟩ (EndI.mk fun w9 h9 => ?_)⟩;have hg := at_below h9 (fun b hb => by simp at hb; subst hb; exact hb5);exact ⟨below_keepsFrom hg _, ⟨hg.mono (by omega), hg.block _ (by omega), hg.block _ (by omega)⟩, hΦ.1, hΦ.2.below hg⟩
 ·exact fun W l o o' hl ho h1 h2 => ⟨⟨rfl, rfl, rfl, by simp, fun k hk => World.putObj_heap_other (by omega)⟩, World.putObj_heap_other (by omega), World.putObj_heap_other (by omega)⟩
 ·rintro c pre A C row ⟨hz, hO⟩ hg hr
  refine ⟨hz, Own.kept hO hg ?_⟩;obtain ⟨_, ⟨e, _⟩ | ⟨g, cp, cur, e, hbg, hgb, _⟩⟩ := id hO
  ·rw [e]; exact .inl rfl
  ·rw [e]
   refine .inr (fun e' => ?_);rcases hr g e'.symm with h | ⟨_, o, ho, hcl⟩
   ·omega
   ·rw [hgb] at ho; cases ho; cases hcl
 case body =>
  intro l pre x c bs W hbs hψ hΦ hBW hsW hN;obtain ⟨b5, rfl⟩ := List.length_eq_one_iff.1 hbs;obtain ⟨hz, hO⟩ := hΦ;refine Branch.mk (fun hc3 => ?_) (fun hc3 => ?_)
  ·have hx : x.2 ≠ 0 := by simpa using hc3
   refine ⟨(c.1, x.2), Need.mk (CovH.mk rfl rfl rfl) (EndI.mk fun w9 h9 => ?_)⟩;refine ⟨⟨h9.size, fun k o hk ho hcl => (h9.step k (Array.getElem?_eq_some_iff.1 ho).1 (fun hm => ?_)).trans ho⟩, rfl, pre, x, rfl, hz, hx, rfl⟩;have := lb7 b3 (by simp);have := lb7 b4 (by simp);simp at hm;omega
  ·have hx : x.2 = 0 := by simpa using hc3
   refine NewI.mk fun b6 hb6 => ?_;have hb6' : W.heap.size <= b6 := hb6;have hpl := parts_len a b;have l3 := lb7 b3 (by simp);have hr : ∀ k, c.1.ownBlock = some k -> w.heap.size <= k /\ k ∉ [b1, b2, b3, b4, b5, b6] := fun k hk => by
    have hkk := hO.lt k hk;have h5 := hψ k hk;have m1 := lb7 b1 (by simp);have m2 := lb7 b2 (by simp);have m4 := lb7 b4 (by simp);simp at h5;refine ⟨by omega, fun hm => ?_⟩;simp only [List.mem_cons, List.not_mem_nil, or_false] at hm;omega
   refine GenN.app (α := Zn) elZ (pre.map (·.1)) [x.1] w7.heap.size (fun w5 h5 => hO.below h5.go) (fun w5 h5 => src_own h5 5 rfl rfl rfl rfl) (by unfold maxLen; simp; omega) (by simp; omega) (fun w5 h5 => Nat.le_trans hsW h5.size)
    (fun w5 w6 h5 hg => keep_grown h5 hg hr) fun sv' w5 w6 h5 hg hO' => ?_
   obtain ⟨a', c', rfl⟩ := hO'.form;refine ⟨(.slice a' ((pre.map (·.1)) ++ [x.1]).length c', 0), ?_⟩;refine Need.mk (CovH.mk rfl rfl rfl) (EndI.mk fun w9 h9 => ?_);have hW9 : W.heap.size <= w9.heap.size := Nat.le_trans h5.size (Nat.le_trans hg.size h9.size);have row : ∀ k, k < w7.heap.size -> c.1.ownBlock ≠ some k := fun k hk e => by have := hO.lt k e; omega
   have keep1 : ∀ k, k < W.heap.size -> k ≠ b3 -> c.1.ownBlock ≠ some k -> w9.heap[k]? = W.heap[k]? := fun k hkW h3 hrow => by
    refine (h9.step k (Nat.lt_of_lt_of_le hkW (Nat.le_trans h5.size hg.size)) (fun hm => ?_)).trans ((hg.block k (Nat.lt_of_lt_of_le hkW h5.size) (fun e => hrow e.symm)).trans (h5.go.block k hkW));simp at hm; omega
   refine ⟨⟨hW9, fun k o hk7 hk hcl => ?_⟩, ⟨?_, ?_, ?_⟩, ?_, ?_⟩
   ·have hkW : k < W.heap.size := (Array.getElem?_eq_some_iff.1 hk).1
    refine (keep1 k hkW (by omega) (fun e => ?_)).trans hk;obtain ⟨_, ⟨e0, _⟩ | ⟨g, cp, cur, e0, _, hgb, _⟩⟩ := id hO
    ·rw [e0] at e; cases e
    ·rw [e0] at e
     injection e with e;subst e;rw [hgb] at hk; cases hk; cases hcl
   ·exact below_between (X := w) hBW (by exact h9.below) hW9
   ·exact keep1 Ba (by omega) (by have := lb7 b3 (by simp); omega) (row Ba hlA)
   ·exact keep1 Bb (by omega) (by have := lb7 b3 (by simp); omega) (row Bb hlB)
   ·intro y hy
    rcases List.mem_append.1 hy with hy | hy
    ·exact hz y hy
    ·rw [List.mem_singleton.1 hy]; exact hx
   ·have e1 : (pre ++ [x]).map (·.1) = pre.map (·.1) ++ [x.1] := by simp
    rw [e1];exact hO'.at h9 (fun b hb => by simp at hb; subst hb; exact l3.1)
 case done =>
  rintro D xs c W hD hSx ⟨hz, hO⟩ hmark;subst hSx;have hDW : D < W.heap.size := (Array.getElem?_eq_some_iff.1 hmark).1;have hf : (parts a b).find? (fun x => decide (x.2 ≠ 0)) = none := List.find?_eq_none.2 fun x hx => by simp [hz x hx]
  rw [hf];obtain ⟨a', c', hcc⟩ := hO.form;obtain ⟨c1, c2⟩ := c;simp only at hO hcc;subst hcc;have l3 := lb7 b3 (by simp);have l4 := lb7 b4 (by simp);have hDb : D ∉ [b4, b3] := fun hm => by simp at hm; omega
  refine EndM.mk fun w10 h10 => ⟨⟨Nat.le_trans (show w.heap.size <= w7.heap.size by omega) hD, (h10.step D hDW hDb).trans hmark⟩, fun w11 hu => ?_⟩;have hO10 := hO.at h10 (fun b hb => by simp at hb; omega);refine ⟨_, _, rfl, (Own.kept (row := some D) hO10 ⟨hu.2.1, hu.2.2.1, hu.2.2.2.1, by rw [hu.1]; exact Nat.le_refl _, fun k _ hk => hu.2.2.2.2 k (fun e => hk (by rw [e]))⟩ ?_).lower (by omega)⟩;obtain ⟨_, ⟨e, _⟩ | ⟨g, cp, cur, e, _, hgb, _⟩⟩ := id hO10
  ·rw [e]; exact .inl rfl
  ·rw [e]
   refine .inr (fun e' => ?_);injection e' with e';subst e';have := (h10.step _ hDW hDb).trans hmark;rw [hgb] at this; cases this
 case stop =>
  rintro D cd e pre q W hD hSp ⟨rfl, pre0, x, rfl, hz, hx, hq⟩ hex hmark;have hDW : D < W.heap.size := (Array.getElem?_eq_some_iff.1 hmark).1;obtain ⟨t, ht⟩ := hSp;have hf : (parts a b).find? (fun x => decide (x.2 ≠ 0)) = some x := by
   rw [<- ht, List.append_assoc, List.find?_append, List.find?_eq_none.2 (fun y hy => by simp [hz y hy])];simp [hx]
  rw [hf];injection hex with hex;subst hex;refine EndM.mk fun w10 h10 => ⟨⟨Nat.le_trans (show w.heap.size <= w7.heap.size by omega) hD, (h10.step D hDW (by simp)).trans hmark⟩, fun w11 hu => ?_⟩;exact ⟨_, _, by rw [hq]; rfl, Own.nil⟩
namespace Mi
def inner (b : Zn) : List Zn -> List Zn -> List Zn × Int
 | [], next => (next, 0)
 | z :: t, next => if (minus z b).2 ≠ 0 then ([], (minus z b).2) else if 4096 < (next ++ (minus z b).1).length then ([], 4) else inner b t (next ++ (minus z b).1)
def outer : List Zn -> List Zn -> List Zn × Int
 | [], out => (out, 0)
 | b :: l, out => if (inner b out []).2 ≠ 0 then ([], (inner b out []).2) else outer l (inner b out []).1
def left (a : Zn) (l : List Zn) : List Zn × Int :=
 if Zo.chk a ≠ 0 then ([], 8) else if l.any (fun b => decide (Zo.chk b ≠ 0)) = true then ([], 8) else outer l [a]
theorem inner_cons (b z : Zn) (t next : List Zn) : inner b (z :: t) next = if (minus z b).2 ≠ 0 then ([], (minus z b).2) else if 4096 < (next ++ (minus z b).1).length then ([], 4) else inner b t (next ++ (minus z b).1) := rfl
theorem outer_cons (b : Zn) (l out : List Zn) : outer (b :: l) out = if (inner b out []).2 ≠ 0 then ([], (inner b out []).2) else outer l (inner b out []).1 := rfl
theorem minus_len (a b : Zn) : (minus a b).1.length <= 12 := by
 unfold minus;split
 ·split
  ·simp
  ·simp; exact parts_len a b
 ·simp
end Mi
section
variable {α : Type} [Enc α] {w0 : Base} {l : List World} {hp : List LB} {r r0 L : List Nat} {w w1 w2 : World} {e : TypeId} {base : Nat} {v sv : Value} {xs : List α}
theorem GenN.appR {P : Program} {K : Value -> World -> Prop} {t ty : TypeId} {bytes : Nat} {consts : Array Bool} (hE : ElOk P t e (size α) bytes) (lp : Lp w0 l r0 e base w v xs) (hr : ∀ k, v.ownBlock = some k -> k ∉ r) (hL : ∀ b, b ∈ L -> w.heap.size <= b)
 (ms : List α) (hsrc : ∀ w1, At w0 hp r L w w1 -> SrcC w1 sv (size α) ms.length (cellsL ms)) (h63 : xs.length + ms.length <= 1000000) (hby : bytes <= 1000000)
 (hk : ∀ a' c' w5 w6, At w0 hp r L w w5 -> Lp w0 l r0 e base w6 (.slice a' (xs ++ ms).length c') (xs ++ ms) -> w5.heap.size <= w6.heap.size -> (∀ k, k < w5.heap.size -> k < base \/ w.heap.size <= k -> w6.heap[k]? = w5.heap[k]?) -> K (.slice a' (xs ++ ms).length c') w6) :
 GenN P w0 (Keep w0) (builtin .append #[t, t] ty consts #[v, sv]) hp r L w K := by
 have hLp : ∀ w1, At w0 hp r L w w1 -> Lp w0 l r0 e base w1 v xs := fun w1 h1 => lp.at h1 fun b hb => .inl (hL b hb);have hrow : ∀ k, v.ownBlock = some k -> w0.B <= k /\ k ∉ r := fun k hk => ⟨Nat.le_trans lp.b0 (lp.own.lt k hk).1, hr k hk⟩;refine GenN.app (α := α) hE xs ms base (fun w1 h1 => (hLp w1 h1).own) hsrc (by unfold maxLen; omega) ?_ (fun w1 h1 => Nat.le_trans lp.size h1.size) (fun w1 w2 h1 hg => keep_grown h1 hg hrow) fun v' w5 w6 h5 hg hO => ?_
 ·calc _ <= 1000000 * 1000000 := Nat.mul_le_mul h63 hby
   _ <= _ := by decide
 ·obtain ⟨a', c', rfl⟩ := hO.form
  have h5' := hLp w5 h5;refine hk a' c' w5 w6 h5 ⟨⟨lp.st.base, fun X hX => ?_⟩, hO, lp.anc, lp.blk, Nat.le_trans h5'.size hg.size, lp.b0⟩ hg.size fun k hk hkb => ?_
  ·have hX5 := h5'.st.all X hX
   refine ⟨hg.os.trans hX5.os, hg.tape.trans hX5.tape, hg.output.trans hX5.output, Nat.le_trans hX5.size hg.size, fun k hk => ?_⟩;refine (hg.block k (Nat.lt_of_lt_of_le hk hX5.size) (fun e => ?_)).trans (hX5.block k hk);have h1 := lp.own.lt k e.symm;have h2 := lp.anc X hX;omega
  ·refine hg.block k hk (fun e => ?_)
   have h1 := lp.own.lt k e.symm;omega
end
open Mi in
theorem left_any (z : Zn) (l : List Zn) (a : Option Addr) (cap : Nat) (w : World) (hS : Sl w.heap.size w (.slice a l.length cap) l) :
 Calls Tryz.prog 184 #[.agg #[.int .i64 z.a, .int .i64 z.b, .int .i64 z.c, .int .i64 z.d, .int .i64 z.e, .int .i64 z.f], .slice a l.length cap] w (Ret w fun v w' => ∃ a' c', v = .tuple #[.slice a' (Mi.left z l).1.length c', .int .i64 (Mi.left z l).2] /\ Sl w'.heap.size w' (.slice a' (Mi.left z l).1.length c') (Mi.left z l).1) := by
 refine fun_ret 0 w Tryz.func184 (args := [.agg [.val (.int .i64 z.a), .val (.int .i64 z.b), .val (.int .i64 z.c), .val (.int .i64 z.d), .val (.int .i64 z.e), .val (.int .i64 z.f)], .val (.slice a l.length cap)]) rfl rfl ?_;obtain ⟨_, _, hfe, hcap1, hcap2, _⟩ := hS.form;injection hfe with _ _ hfe;subst hfe;unfold maxLen at hcap2;have st := Stay.first (w := w)
 refine NewI.mk fun b1 hb1 => ?_;unfold Mi.left;apply CallI.use1
 focus (exact fun w1 h1 => zcheck_any z w1)
 intro w1 v1 h1 hB1;have st := st.nx h1 hB1;refine Branch.mk (fun hc => ?_) (fun hc => ?_)
 ·have h0 : Zo.chk z ≠ 0 := by simpa using hc
  rw [if_pos h0];exact EndI.mk fun w9 h9 => ⟨_, _, rfl, Sl.nil⟩
 have h0 : Zo.chk z = 0 := by simpa using hc
 rw [if_neg (by simp [h0])];refine LoopI.invC (α := Nat × World) (fun y => [(21, .val (.int .i64 y.1))]) (fun y => y.2) (fun y => y.1 <= l.length /\ Below w.heap.size w y.2 /\ ∀ x, x ∈ l.take y.1 -> Zo.chk x = 0) (fun y => l.length - y.1) ?_ ?_
 ·intro w3 h3
  exact ⟨(0, w3), Cov.au rfl rfl rfl rfl rfl, rfl, Nat.zero_le _, h3.below, by simp⟩
 rintro ⟨k, V⟩ ⟨hk, hV, hall⟩;refine Branch.mk (fun hc2 => ?_) (fun hc2 => ?_)
 ·have hlt : k < l.length := by simpa using hc2
  have hg := List.getElem?_eq_getElem (l := l) (i := k) hlt;generalize l[k] = x at hg;have hSV := hS.go hV hV.size;refine hSV.idx hg fun ad had => ?_;refine hSV.ld hg had (Below.refl _ _) (by simp) ?_;refine NewI.mk fun b2 hb2 => ?_;apply CallI.use1
  focus (exact fun w4 h4 => zcheck_any x w4)
  intro w4 v4 h4 hB4;refine Branch.mk (fun hc3 => ?_) (fun hc3 => ?_)
  ·have h1 : Zo.chk x ≠ 0 := by simpa using hc3
   rw [if_pos (by rw [List.any_eq_true]; exact ⟨x, List.mem_of_getElem? hg, by simpa using h1⟩)];exact EndI.mk fun w9 h9 => ⟨_, _, rfl, Sl.nil⟩
  ·have h1 : Zo.chk x = 0 := by simpa using hc3
   refine Need.ok (EndI.mk fun w9 h9 => ⟨(k + 1, w9), Cov.au rfl rfl rfl rfl rfl, rfl, ⟨hlt, h9.below, fun y hy => ?_⟩, by simp only; omega⟩);have e : l.take (k + 1) = l.take k ++ [x] := by rw [List.take_add_one, hg]; rfl
   rw [e] at hy;rcases List.mem_append.1 hy with hy | hy
   ·exact hall y hy
   ·rw [List.mem_singleton.1 hy]; exact h1
 have hge : k = l.length := by (have : ¬ k < l.length := by simpa using hc2); omega
 subst hge;rw [List.take_length] at hall;rw [if_neg (by rw [List.any_eq_true]; rintro ⟨x, hx, h⟩; simp [hall x hx] at h)];refine NewI.mk fun b2 hb2 => ?_;have hb2w : w.heap.size <= b2 := Nat.le_trans hV.size hb2
 refine LoopI.invC (α := Nat × World × Value × List Zn) (fun y => [(33, .val (.int .i64 y.1)), (8, .val y.2.2.1)]) (fun y => y.2.1)
  (fun y => y.1 <= l.length /\ Below w.heap.size w y.2.1 /\ Sl y.2.1.heap.size y.2.1 y.2.2.1 y.2.2.2 /\ y.2.2.2.length <= 4096 /\ outer l [z] = outer (l.drop y.1) y.2.2.2) (fun y => l.length - y.1) ?_ ?_
 ·intro w3 h3
  exact ⟨(0, w3, .slice (some ⟨b2, 0, none⟩) 1 1, [z]), Cov.au rfl rfl rfl rfl rfl, rfl, Nat.zero_le _, h3.below, Sl.own (l := [z]) h3 1 rfl rfl rfl (Nat.le_refl _) (by simp [maxLen]), by simp, rfl⟩
 rintro ⟨i, V2, ov, out⟩ ⟨hi, hV2, hSo, hol, heq⟩;simp only at hi hV2 hSo hol heq;obtain ⟨ao, co, rfl, _⟩ := hSo.form;refine Branch.mk (fun hc3 => ?_) (fun hc3 => ?_)
 ·have hlt : i < l.length := by simpa using hc3
  have hg := List.getElem?_eq_getElem (l := l) (i := i) hlt;have hd := List.drop_eq_getElem_cons hlt;generalize l[i] = b at hg hd;rw [hd, outer_cons] at heq;have hSV := hS.go hV2 hV2.size;refine hSV.idx hg fun ad had => ?_;refine hSV.ld hg had (Below.refl _ _) (by simp) ?_;refine NewI.mk fun b3 hb3 => ?_;have st2 := Stay.start (w0 := ⟨w, w.heap.size, Nat.le_refl _⟩) hV2;have hb3w : V2.heap.size <= b3 := hb3
  refine LoopI.invC (α := Nat × World × Value × List Zn) (fun y => [(39, .val (.int .i64 y.1)), (11, .val y.2.2.1)]) (fun y => y.2.1)
   (fun y => y.1 <= out.length /\ (∃ base, Lp ⟨w, w.heap.size, Nat.le_refl _⟩ [V2] [b1, b2, b3] 86 base y.2.1 y.2.2.1 y.2.2.2) /\ y.2.2.2.length <= 4096 /\ inner b out [] = inner b (out.drop y.1) y.2.2.2) (fun y => out.length - y.1) ?_ ?_
  ·intro w5 h5
   exact ⟨(0, w5, .slice none 0 0, []), Cov.au rfl rfl rfl rfl rfl, rfl, Nat.zero_le _, ⟨_, Lp.start st2 h5 (fun x hx => by simp at hx <;> omega)⟩, by simp, rfl⟩
  rintro ⟨j, V5, nv, next⟩ ⟨hj, ⟨base, lp⟩, hnl, hin⟩;simp only at hj lp hnl hin;obtain ⟨an, cn, rfl⟩ := lp.own.form;refine Branch.mk (fun hc4 => ?_) (fun hc4 => ?_)
  ·have hlt2 : j < out.length := by simpa using hc4
   have hg2 := List.getElem?_eq_getElem (l := out) (i := j) hlt2;have hd2 := List.drop_eq_getElem_cons hlt2;generalize out[j] = x at hg2 hd2;rw [hd2, inner_cons] at hin;have hSo5 := hSo.st lp.st;refine hSo5.idx hg2 fun ad2 had2 => ?_;refine hSo5.ld hg2 had2 (Below.refl _ _) (by simp) ?_;refine NewI.mk fun b4 hb4 => ?_;have hb4w : V5.heap.size <= b4 := hb4;apply CallI.use
   focus (exact fun w6 h6 => minus_any x b w6)
   rintro v w6 v6 h6 hB6 ⟨am, cm, rfl, hOm⟩;have lp6 := (lp.at h6 (fun y hy => by simp at hy <;> (left; omega))).go hB6;have hml := minus_len x b;refine Branch.mk (fun hc5 => ?_) (fun hc5 => ?_)
   ·have he : (minus x b).2 ≠ 0 := by simpa using hc5
    rw [if_pos he] at hin;rw [hin, if_pos he] at heq;rw [heq];exact EndI.mk fun w9 h9 => ⟨_, _, rfl, Sl.nil⟩
   have he : (minus x b).2 = 0 := by simpa using hc5
   rw [if_neg (by simp [he])] at hin;have h66 := h6.size;have h67 := hB6.size;refine GenN.appR (α := Zn) elZ lp6 (fun y hy hm => by have h1 := lp.own.lt y hy; have q1 := lp.blk b1 (by simp); have q2 := lp.blk b2 (by simp); have q3 := lp.blk b3 (by simp); simp at hm; omega) (by simp) (minus x b).1 (fun w8 h8 => (hOm.sl.go h8.go h8.size).src) (by omega) (by decide) fun a' c' w8 w9 h8 lp9 hsz hbl => ?_;refine Branch.mk (fun hc6 => ?_) (fun hc6 => ?_)
   ·have h4 : 4096 < (next ++ (minus x b).1).length := by (have : (4096 : Int) < (next ++ (minus x b).1).length := by simpa using hc6); omega
    rw [if_pos h4] at hin;rw [hin, if_pos (by decide)] at heq;rw [heq];exact EndI.mk fun w9 h9 => ⟨_, _, rfl, Sl.nil⟩
   have h4 : ¬ 4096 < (next ++ (minus x b).1).length := by (have : ¬ (4096 : Int) < (next ++ (minus x b).1).length := by simpa using hc6); omega
   rw [if_neg h4] at hin;have ho : (out.length : Int) <= 4096 := by omega
   refine Need.ok (EndI.mk fun w10 h10 => ⟨(j + 1, w10, .slice a' (next ++ (minus x b).1).length c', next ++ (minus x b).1), Cov.au rfl rfl rfl rfl rfl, rfl, ⟨hlt2, ⟨base, ?_⟩, Nat.le_of_not_lt h4, hin⟩, by simp only; omega⟩);exact lp9.at h10 (by simp)
  ·have hge2 : j = out.length := by (have : ¬ j < out.length := by simpa using hc4); omega
   subst hge2;rw [List.drop_length] at hin;have hin : inner b out [] = (next, 0) := hin;rw [hin, if_neg (by simp)] at heq;refine Need.ok (EndI.mk fun w10 h10 => ⟨(i + 1, w10, .slice an next.length cn, next), Cov.au rfl rfl rfl rfl rfl, rfl, ⟨hlt, h10.below, (lp.at h10 (by simp)).own.sl, hnl, heq⟩, by simp only; omega⟩)
 ·have hge : i = l.length := by (have : ¬ i < l.length := by simpa using hc3); omega
  subst hge;rw [List.drop_length] at heq;rw [heq];exact EndI.mk fun w9 h9 => ⟨_, _, rfl, hSo.go h9.go h9.size⟩
theorem indexZ_any (l : List Zn) (p : Zn -> Bool) (a : Option Addr) (cap : Nat) (fid : FuncId) (caps : Array Value) (B : Nat) (w : World) (hB : B <= w.heap.size) (hS : Sl B w (.slice a l.length cap) l)
 (T : Nat -> World -> Prop) (h0 : T 0 w) (hst : ∀ k W W', T k W -> Below W.heap.size W W' -> T k W') (en : Enters Tryz.prog fid)
 (hcall : ∀ k x W, l[k]? = some x -> Below B w W -> T k W -> Calls Tryz.prog fid (val x :: caps.toList).toArray W fun e W' => e = .returned (.bool (p x)) /\ Below B W W' /\ T (k + 1) W') :
 Calls Tryz.prog 80 #[.slice a l.length cap, .func (.func fid) #[] caps] w fun e w' => ∃ v, e = .returned v /\ Below B w w' /\ v = .int .i64 (idxF p l) /\ T (cntF p l) w' := by
 obtain ⟨a', cap', e', hcap, hmax, _⟩ := hS.form;injection e' with e1 e2 e3;subst e1; subst e3;unfold maxLen at hmax;refine fun_at 0 B w hB Tryz.func80 (args := [.val (.slice a l.length cap), .val (.func (.func fid) #[] caps)]) rfl rfl ?_;refine LoopI.inv (α := Nat × World) (fun x => [(8, .val (.int .i64 x.1))]) (fun _ => []) (fun x => x.2) (fun x => x.1 <= l.length /\ T x.1 x.2 /\ Below B w x.2 /\ ∀ j y, j < x.1 -> l[j]? = some y -> p y = false) (fun x => l.length - x.1) ?_ ?_
 ·intro w1 h1
  exact ⟨(0, w1), Cov.au rfl rfl rfl rfl rfl, rfl, Nat.zero_le _, hst _ _ _ h0 h1.go, h1.below, fun j y hj => by omega⟩
 ·rintro ⟨k, W⟩ ⟨hk, hT, hBw, hno⟩
  refine Branch.mk (fun hb => ?_) (fun hb => ?_)
  ·have hlt : k < l.length := by simpa using hb
   obtain ⟨x, hx⟩ : ∃ x, l[k]? = some x := ⟨l[k], List.getElem?_eq_getElem hlt⟩;refine hS.idx hx fun ad had => ?_;refine hS.ld hx had hBw (by simp) ?_;refine Need.mk en ?_;refine CallI.mk fun w1 h1 => ?_;have hT1 := hst _ _ _ hT h1.go;refine (hcall k x w1 hx h1.below hT1).mono ?_;rintro e w2 ⟨rfl, hB2, hT2⟩;refine ⟨⟨hB2, by simp⟩, _, rfl, ?_⟩;refine Branch.mk (fun hp => ?_) (fun hp => ?_)
   ·refine EndI.mk fun w3 h3 => ?_
    obtain ⟨i1, i2⟩ := idxF_at p l k x hx hp hno;refine ⟨by rw [i1], by rw [i2]; exact hst _ _ _ hT2 h3.go⟩
   ·refine Need.mk (by show _ /\ _; omega) (EndI.mk fun w3 h3 => ?_)
    refine ⟨(k + 1, w3), Cov.au rfl rfl rfl rfl rfl, rfl, ⟨hlt, hst _ _ _ hT2 h3.go, h3.below, fun j y hj hy => ?_⟩, by simp only; omega⟩
    by_cases hjk : j = k
    ·subst hjk; rw [hx] at hy; injection hy with hy; subst hy; exact hp
    ·exact hno j y (by omega) hy
  ·have hge : k = l.length := by (have : ¬ k < l.length := by simpa using hb); omega
   subst hge;refine EndI.mk fun w3 h3 => ?_;obtain ⟨i1, i2⟩ := idxF_none p l fun j y hy => hno j y (List.getElem?_eq_some_iff.1 hy).1 hy;exact ⟨by rw [i1], by rw [i2]; exact hst _ _ _ hT h3.go⟩
theorem containsZ_any (l : List Zn) (p : Zn -> Bool) (a : Option Addr) (cap : Nat) (fid : FuncId) (caps : Array Value) (B : Nat) (w : World) (hB : B <= w.heap.size) (hS : Sl B w (.slice a l.length cap) l)
 (T : Nat -> World -> Prop) (h0 : T 0 w) (hst : ∀ k W W', T k W -> Below W.heap.size W W' -> T k W') (en : Enters Tryz.prog fid)
 (hcall : ∀ k x W, l[k]? = some x -> Below B w W -> T k W -> Calls Tryz.prog fid (val x :: caps.toList).toArray W fun e W' => e = .returned (.bool (p x)) /\ Below B W W' /\ T (k + 1) W') :
 Calls Tryz.prog 39 #[.slice a l.length cap, .func (.func fid) #[] caps] w fun e w' => ∃ v, e = .returned v /\ Below B w w' /\ v = .bool (l.any p) /\ T (cntF p l) w' := by
 refine fun_at 0 B w hB Tryz.func39 (args := [.val (.slice a l.length cap), .val (.func (.func fid) #[] caps)]) rfl rfl ?_;refine CallI.mk fun w1 h1 => ?_;have hB1 : B <= w1.heap.size := Nat.le_trans hB h1.size;refine (indexZ_any l p a cap fid caps B w1 hB1 (hS.below h1.below) T (hst _ _ _ h0 h1.go) hst en fun k x W hx hW hT => hcall k x W hx (h1.below.trans hW) hT).mono ?_;rintro e w2 ⟨v, rfl, hB2, rfl, hT⟩;refine ⟨⟨hB2, by simp⟩, _, rfl, ?_⟩;refine EndI.mk fun w3 h3 => ⟨?_, hst _ _ _ hT h3.go⟩;rw [<- idxF_any]
theorem containsZ_pure (l : List Zn) (p : Zn -> Bool) (a : Option Addr) (cap : Nat) (fid : FuncId) (caps : Array Value) (w : World) (hS : Sl w.heap.size w (.slice a l.length cap) l) (en : Enters Tryz.prog fid)
 (hcall : ∀ x W, x ∈ l -> Below w.heap.size w W -> Calls Tryz.prog fid (val x :: caps.toList).toArray W fun e W' => e = .returned (.bool (p x)) /\ Below W.heap.size W W') :
 Calls Tryz.prog 39 #[.slice a l.length cap, .func (.func fid) #[] caps] w fun e w' => e = .returned (.bool (l.any p)) /\ Below w.heap.size w w' := by
 refine (containsZ_any l p a cap fid caps w.heap.size w (Nat.le_refl _) hS (fun _ _ => True) trivial (fun _ _ _ _ _ => trivial) en fun k x W hx hB _ => ?_).mono ?_
 ·refine (hcall x W (List.mem_of_getElem? hx) hB).mono ?_
  rintro e W' ⟨rfl, hB'⟩;exact ⟨rfl, hB'.mono hB.size, trivial⟩
 ·rintro e w' ⟨v, rfl, hB, rfl, _⟩
  exact ⟨rfl, hB⟩
theorem cloneZ_any (l : List Zn) (a : Option Addr) (cap : Nat) (w : World) (hS : Sl w.heap.size w (.slice a l.length cap) l) (hlen : l.length <= 1000000) :
 Calls Tryz.prog 44 #[.slice a l.length cap] w (Ret w fun v w' => Own 86 w.heap.size w' v l) := by
 refine fun_ret 0 w Tryz.func44 (args := [.val (.slice a l.length cap)]) rfl rfl ?_;refine GenV.to (fun w1 => Lib.run_eql_slice_nil w1 22 86 a l.length cap 0 0 Tryz.underlying22) fun w1 h1 => ?_;refine Branch.mk (fun hb => ?_) (fun hb => ?_)
 ·refine EndI.mk fun w2 h2 => ?_
  have ha : a = none := by cases a <;> simp_all
  obtain ⟨a', cap', e', hcap, hmax, hn⟩ := hS.form;injection e' with e1 e2 e3;subst e1; subst e3;have h0 := hn ha;obtain rfl : l = [] := List.eq_nil_of_length_eq_zero (by omega);exact Own.nil
 ·refine NewI.mk fun b hb1 => ?_
  have hsrc : ∀ w2, At ⟨w, w.heap.size, Nat.le_refl _⟩ [⟨[], 86⟩] [b] [] w1 w2 -> SrcC w2 (.slice a l.length cap) 6 l.length (cellsL l) := fun w2 h2 => (hS.below h2.below).src;refine GenN.appF (α := Zn) elZ [] l w.heap.size rfl (fun w2 h2 => ?_) hsrc ?_ ?_ (fun w2 h2 => h2.below.size) fun v' w2 w3 h2 hB ho => ?_
  ·exact ⟨rfl, .inr ⟨b, 0, #[], rfl, h2.fresh b (by simp), h2.blk 0 b _ rfl rfl, Nat.le_refl _, by simp [maxLen], rfl, rfl⟩⟩
  ·simp [maxLen]; omega
  ·simp; omega
  ·exact EndI.mk fun w4 h4 => ho.below h4.go
namespace Cv
def odd (z : Zn) : Bool := decide (Zo.chk z ≠ 0)
def checked (ls : List (List Zn)) : Int := if ls.any (fun l => decide (4096 < l.length)) = true then 4 else if ls.any (fun l => l.any odd) = true then 8 else 0
def in_ (z : Zn) (l : List Zn) : Bool × Int :=
 if checked [l, [z]] = 0 then (decide ((Mi.left z l).2 = 0) && decide ((Mi.left z l).1.length = 0), (Mi.left z l).2) else (false, checked [l, [z]])
end Cv
def Shown (n : Nat) (W : World) (ss : List Svl) (ls : List (List Zn)) : Prop := ss.length = ls.length /\ ∀ (k : Nat) (s : Svl) (l : List Zn), ss[k]? = some s -> ls[k]? = some l -> Sl n W (.slice s.a s.len s.cap) l /\ s.len = l.length
theorem codd_any (z : Zn) (w : World) : Calls Tryz.prog 179 #[.agg #[.int .i64 z.a, .int .i64 z.b, .int .i64 z.c, .int .i64 z.d, .int .i64 z.e, .int .i64 z.f]] w fun e w' => e = .returned (.bool (Cv.odd z)) /\ Below w.heap.size w w' := by
 refine fun_eq 0 w Tryz.func179 (args := [.agg [.val (.int .i64 z.a), .val (.int .i64 z.b), .val (.int .i64 z.c), .val (.int .i64 z.d), .val (.int .i64 z.e), .val (.int .i64 z.f)]]) rfl rfl ?_;refine NewI.mk fun b1 hb1 => ?_;refine CallI.to1 (fun w => zcheck_any z w) fun w2 => ?_;exact EndI.mk fun w9 h9 => rfl
theorem checked_any (ss : List Svl) (ls : List (List Zn)) (a : Option Addr) (cap : Nat) (w : World) (hA : Shown w.heap.size w ss ls) (hS : Sl w.heap.size w (.slice a ss.length cap) ss) :
 Calls Tryz.prog 136 #[.slice a ss.length cap] w fun e w' => e = .returned (.int .i64 (Cv.checked ls)) /\ Below w.heap.size w w' := by
 refine fun_eq 0 w Tryz.func136 (args := [.val (.slice a ss.length cap)]) rfl rfl ?_;obtain ⟨hlen, hA⟩ := hA;have hform := hS.form;obtain ⟨_, _, hfe, hcap1, hcap2, _⟩ := hform;injection hfe with _ _ hfe;subst hfe;unfold maxLen at hcap2;unfold Cv.checked;refine LoopI.invC (α := Nat × World) (fun y => [(10, .val (.int .i64 y.1))]) (fun y => y.2) (fun y => y.1 <= ss.length /\ Below w.heap.size w y.2 /\ ∀ l, l ∈ ls.take y.1 -> l.length <= 4096) (fun y => ss.length - y.1) ?_ ?_
 ·intro w1 h1
  exact ⟨(0, w1), Cov.au rfl rfl rfl rfl rfl, rfl, Nat.zero_le _, h1.below, by simp⟩
 rintro ⟨k, W⟩ ⟨hk, hW, hall⟩;refine Branch.mk (fun hc => ?_) (fun hc => ?_)
 ·have hlt : k < ss.length := by simpa using hc
  have hg := List.getElem?_eq_getElem (l := ss) (i := k) hlt;have hl := List.getElem?_eq_getElem (l := ls) (i := k) (by omega);obtain ⟨hs1, hs2⟩ := hA k _ _ hg hl;generalize ls[k]'(by omega) = l at hl hs1 hs2;have hSW := hS.go hW hW.size;refine hSW.idx hg fun ad had => ?_;refine hSW.ldv hg rfl had (Below.refl _ _) (by simp) ?_;refine Branch.mk (fun hc2 => ?_) (fun hc2 => ?_)
  ·have h4 : 4096 < l.length := by (have : (4096 : Int) < (ss[k]'hlt).len := by simpa using hc2); omega
   rw [if_pos (by rw [List.any_eq_true]; exact ⟨l, List.mem_of_getElem? hl, by simpa using h4⟩)];exact EndI.mk fun w3 h3 => rfl
  ·have hle : l.length <= 4096 := by (have : ¬ (4096 : Int) < (ss[k]'hlt).len := by simpa using hc2); omega
   refine Need.ok (EndI.mk fun w7 h7 => ⟨(k + 1, w7), Cov.au rfl rfl rfl rfl rfl, rfl, ⟨hlt, h7.below, fun y hy => ?_⟩, by simp only; omega⟩);have e : ls.take (k + 1) = ls.take k ++ [l] := by rw [List.take_add_one, hl]; rfl
   rw [e] at hy;rcases List.mem_append.1 hy with hy | hy
   ·exact hall y hy
   ·rw [List.mem_singleton.1 hy]; exact hle
 have hge : k = ls.length := by (have : ¬ k < ss.length := by simpa using hc); omega
 subst hge;rw [List.take_length] at hall;rw [if_neg (by rw [List.any_eq_true]; rintro ⟨x, hx, h⟩; have := hall x hx; simp at h; omega)];clear hall hc hk;refine LoopI.invC (α := Nat × World) (fun y => [(20, .val (.int .i64 y.1))]) (fun y => y.2) (fun y => y.1 <= ss.length /\ Below w.heap.size w y.2 /\ ∀ l, l ∈ ls.take y.1 -> l.any Cv.odd = false) (fun y => ss.length - y.1) ?_ ?_
 ·intro w1 h1
  exact ⟨(0, w1), Cov.au rfl rfl rfl rfl rfl, rfl, Nat.zero_le _, h1.below, by simp⟩
 rintro ⟨k, V⟩ ⟨hk, hV, hall⟩;refine Branch.mk (fun hc => ?_) (fun hc => ?_)
 ·have hlt : k < ss.length := by simpa using hc
  have hg := List.getElem?_eq_getElem (l := ss) (i := k) hlt;have hl := List.getElem?_eq_getElem (l := ls) (i := k) (by omega);obtain ⟨hs1, hs2⟩ := hA k _ _ hg hl;generalize ls[k]'(by omega) = l at hl hs1 hs2;rw [hs2] at hs1;have hSW := hS.go hV hV.size;refine hSW.idx hg fun ad had => ?_;refine hSW.ldv hg rfl had (Below.refl _ _) (by simp) ?_;rw [hs2];apply CallI.use1
  focus (exact fun w4 h4 => containsZ_pure l Cv.odd _ _ 179 #[] w4 (hs1.go h4.below h4.below.size) Tryz.call179 fun x W _ _ => codd_any x W)
  intro w4 v4 h4 hB4;refine Branch.mk (fun hc2 => ?_) (fun hc2 => ?_)
  ·have h4 : l.any Cv.odd = true := by simpa using hc2
   rw [if_pos (by rw [List.any_eq_true]; exact ⟨l, List.mem_of_getElem? hl, h4⟩)];exact EndI.mk fun w3 h3 => rfl
  ·have hle : l.any Cv.odd = false := by simpa using hc2
   refine Need.ok (EndI.mk fun w7 h7 => ⟨(k + 1, w7), Cov.au rfl rfl rfl rfl rfl, rfl, ⟨hlt, h7.below, fun y hy => ?_⟩, by simp only; omega⟩);have e : ls.take (k + 1) = ls.take k ++ [l] := by rw [List.take_add_one, hl]; rfl
   rw [e] at hy;rcases List.mem_append.1 hy with hy | hy
   ·exact hall y hy
   ·rw [List.mem_singleton.1 hy]; exact hle
 have hge : k = ls.length := by (have : ¬ k < ss.length := by simpa using hc); omega
 subst hge;rw [List.take_length] at hall;rw [if_neg (by rw [List.any_eq_true]; rintro ⟨x, hx, h⟩; rw [hall x hx] at h; cases h)];exact EndI.mk fun w9 h9 => rfl
theorem shown_two {n : Nat} {W : World} {s t : Svl} {l m : List Zn} (h1 : Sl n W (.slice s.a s.len s.cap) l) (e1 : s.len = l.length) (h2 : Sl n W (.slice t.a t.len t.cap) m) (e2 : t.len = m.length) : Shown n W [s, t] [l, m] := by
 refine ⟨rfl, fun k s' l' hs hl => ?_⟩;have hk : k < 2 := (List.getElem?_eq_some_iff.1 hs).1;have : k = 0 \/ k = 1 := by omega
 rcases this with rfl | rfl
 ·simp at hs hl; subst hs; subst hl; exact ⟨h1, e1⟩
 ·simp at hs hl; subst hs; subst hl; exact ⟨h2, e2⟩
theorem shown_one {n : Nat} {W : World} {s : Svl} {l : List Zn} (h1 : Sl n W (.slice s.a s.len s.cap) l) (e1 : s.len = l.length) : Shown n W [s] [l] := by
 refine ⟨rfl, fun k s' l' hs hl => ?_⟩;have hk : k < 1 := (List.getElem?_eq_some_iff.1 hs).1;have : k = 0 := by omega
 subst this;simp at hs hl; subst hs; subst hl; exact ⟨h1, e1⟩
theorem cin_any (z : Zn) (l : List Zn) (a : Option Addr) (cap : Nat) (w : World) (hS : Sl w.heap.size w (.slice a l.length cap) l) :
 Calls Tryz.prog 142 #[.agg #[.int .i64 z.a, .int .i64 z.b, .int .i64 z.c, .int .i64 z.d, .int .i64 z.e, .int .i64 z.f], .slice a l.length cap] w fun e w' => e = .returned (.tuple #[.bool (Cv.in_ z l).1, .int .i64 (Cv.in_ z l).2]) /\ Below w.heap.size w w' := by
 refine fun_eq 0 w Tryz.func142 (args := [.agg [.val (.int .i64 z.a), .val (.int .i64 z.b), .val (.int .i64 z.c), .val (.int .i64 z.d), .val (.int .i64 z.e), .val (.int .i64 z.f)], .val (.slice a l.length cap)]) rfl rfl ?_;have st := Stay.first (w := w)
 refine NewI.mk fun b1 hb1 => ?_;refine NewI.mk fun b2 hb2 => ?_;refine NewI.mk fun b3 hb3 => ?_;unfold Cv.in_;apply CallI.use1
 ·exact fun w1 h1 => checked_any [⟨a, l.length, cap⟩, ⟨some ⟨b2, 0, none⟩, 1, 1⟩] [l, [z]] _ _ w1 (shown_two (hS.go h1.below h1.below.size) rfl (Sl.own (l := [z]) h1 1 rfl rfl rfl (Nat.le_refl _) (by simp [maxLen])) rfl) (Sl.own (l := [(⟨a, l.length, cap⟩ : Svl), ⟨some ⟨b2, 0, none⟩, 1, 1⟩]) h1 2 rfl rfl rfl (Nat.le_refl _) (by simp [maxLen]))
 intro w1 v1 h1 hB1;have hv1 : Below w.heap.size w v1 := h1.below.trans (hB1.mono h1.below.size);refine Branch.mk (fun hc => ?_) (fun hc => ?_)
 ·have h0 : ¬ Cv.checked [l, [z]] = 0 := by simpa using hc
  rw [if_neg h0];exact EndI.mk fun w3 h3 => rfl
 have h0 : Cv.checked [l, [z]] = 0 := by simpa using hc
 rw [if_pos h0];apply CallI.use
 focus (exact fun w2 h2 => left_any z l a cap w2 (hS.go h2.below h2.below.size))
 rintro v w2 v2 h2 hB2 ⟨a2, c2, rfl, hS2⟩;generalize Mi.left z l = X at *;obtain ⟨x, e⟩ := X;refine Branch.mk (fun hc2 => ?_) (fun hc2 => ?_)
 ·have h1 : e = 0 := by simpa using hc2
  subst h1;refine EndI.mk fun w3 h3 => ?_;simp
 ·have h1 : ¬ e = 0 := by simpa using hc2
  refine EndI.mk fun w3 h3 => ?_;simp [h1]
theorem grown_belowM {n : Nat} {W w1 w2 : World} {row : Option Nat} (hB : Below n W w1) (hg : w1.grownBy w2 row) (hr : ∀ k, row = some k -> n <= k) (hn : n <= w1.heap.size) : Below n W w2 :=
 ⟨hg.os.trans hB.os, hg.tape.trans hB.tape, hg.output.trans hB.output, Nat.le_trans hB.size hg.size, fun k hk => (hg.block k (Nat.lt_of_lt_of_le hk hn) (fun e => absurd (hr k e.symm) (Nat.not_le.2 hk))).trans (hB.block k hk)⟩
structure ZRow (W : World) (g cap n : Nat) : Prop where
 le : n <= cap
 max : cap <= maxLen
 row : ∃ cur : Array Value, W.heap[g]? = some (.cells cur TZ (0, 0)) /\ cur.size = cap * 6 /\ ∀ j, j < n * 6 -> ∃ x, cur[j]? = some (.int .i64 x)
theorem cellsL_zn : ∀ (l : List Zn) (j : Nat), j < l.length * 6 -> ∃ x, (cellsL l)[j]? = some (.int .i64 x)
 | [], j, h => by simp at h
 | z :: l, j, h => by
   have hlen : (enc z).length = 6 := rfl;rw [List.length_cons] at h
   by_cases hj : j < 6
   ·have : j = 0 \/ j = 1 \/ j = 2 \/ j = 3 \/ j = 4 \/ j = 5 := by omega
    have hx : (cellsL (z :: l))[j]? = (enc z)[j]? := by
     show (enc z ++ cellsL l)[j]? = _;rw [List.getElem?_append_left (by rw [hlen]; exact hj)]
    rw [hx];rcases this with rfl | rfl | rfl | rfl | rfl | rfl
    ·exact ⟨z.a, rfl⟩
    ·exact ⟨z.b, rfl⟩
    ·exact ⟨z.c, rfl⟩
    ·exact ⟨z.d, rfl⟩
    ·exact ⟨z.e, rfl⟩
    ·exact ⟨z.f, rfl⟩
   ·obtain ⟨x, hx⟩ := cellsL_zn l (j - 6) (by omega)
    refine ⟨x, ?_⟩;show (enc z ++ cellsL l)[j]? = _;rw [List.getElem?_append_right (by rw [hlen]; omega), hlen];exact hx
theorem ZRow.of {base : Nat} {W : World} {g n cap : Nat} {l : List Zn} (h : Own TZ base W (.slice (some ⟨g, 0, none⟩) n cap) l) : ZRow W g cap n /\ base <= g /\ g < W.heap.size := by
 obtain ⟨rfl, hb, hlt, cur', hg, hn, hm, hs, ht⟩ := h.at0;refine ⟨⟨hn, hm, cur', hg, hs, fun j hj => ?_⟩, hb, hlt⟩;obtain ⟨x, hx⟩ := cellsL_zn l j hj;refine ⟨x, ?_⟩;have h1 : (cur'.toList.take (l.length * 6))[j]? = some (.int .i64 x) := by
  have : cur'.toList.take (l.length * size Zn) = cellsL l := ht;rw [show l.length * 6 = l.length * size Zn from rfl, this]; exact hx
 rw [List.getElem?_take] at h1;rw [if_pos hj] at h1;rw [<- h1, Array.getElem?_toList]
theorem ZRow.kept {W X : World} {g cap n : Nat} (h : ZRow W g cap n) (e : X.heap[g]? = W.heap[g]?) : ZRow X g cap n := by
 obtain ⟨a, b, cur, c⟩ := h;exact ⟨a, b, cur, e.trans c.1, c.2⟩
theorem ZRow.lt {W : World} {g cap n : Nat} (h : ZRow W g cap n) : g < W.heap.size := by
 obtain ⟨_, _, cur, c, _⟩ := h;exact (Array.getElem?_eq_some_iff.1 c).1
theorem ZRow.at {w0 : Base} {hp : List LB} {r L : List Nat} {w w1 : World} {g cap n : Nat} (h : ZRow w g cap n) (h1 : At w0 hp r L w w1) (hL : g ∉ L) : ZRow w1 g cap n := h.kept (h1.step g h.lt hL)
theorem ZRow.below {W X : World} {g cap n : Nat} (h : ZRow W g cap n) (hB : Below W.heap.size W X) : ZRow X g cap n := h.kept (hB.block _ h.lt)
theorem ZRow.cell {W : World} {g cap n : Nat} (h : ZRow W g cap n) {j : Nat} (hj : j < n * 6) : ∃ x, W.cell? ⟨g, j, none⟩ = some (.int .i64 x) := by
 obtain ⟨_, _, cur, c, _, d⟩ := h;obtain ⟨x, hx⟩ := d j hj;refine ⟨x, ?_⟩;simp [World.cell?, c, hx]
theorem ZRow.set {W : World} {g cap n : Nat} (h : ZRow W g cap n) {j : Nat} (hj : j < n * 6) (x : Int) : ZRow (W.setCell ⟨g, j, none⟩ (.int .i64 x)) g cap n := by
 obtain ⟨a, b, cur, c, d, e⟩ := h;refine ⟨a, b, cur.setIfInBounds j (.int .i64 x), ?_, by simp [d], fun i hi => ?_⟩
 ·simp only [World.setCell]
  rw [Array.getElem?_modify, if_pos rfl, c]
  rfl
 ·by_cases hij : i = j
  ·subst hij
   refine ⟨x, ?_⟩;have : i < cur.size := by rw [d]; have := Nat.mul_le_mul_right 6 a; omega
   simp [this]
  ·obtain ⟨y, hy⟩ := e i hi
   refine ⟨y, ?_⟩;rw [Array.getElem?_setIfInBounds_ne (fun h => hij h.symm)]; exact hy
theorem setCell_neM {W : World} {B o k : Nat} {u : Value} (h : k ≠ B) : (W.setCell ⟨B, o, none⟩ u).heap[k]? = W.heap[k]? := Below.heap_setCell _ _ _ _ (by simpa using h)
theorem at_belowM {w0 : Base} {hp : List LB} {r L : List Nat} {w w1 : World} (h : At w0 hp r L w w1) (hL : ∀ b, b ∈ L -> w.heap.size <= b) : Below w.heap.size w w1 :=
 ⟨h.below.os.trans h.base.os.symm, h.below.tape.trans h.base.tape.symm, h.below.output.trans h.base.output.symm, h.size, fun k hk => h.step k hk fun hm => by have := hL k hm; omega⟩
theorem lt_cellsM {W : World} {B : Nat} {o : Obj} (h : W.heap[B]? = some o) : B < W.heap.size := (Array.getElem?_eq_some_iff.1 h).1
end
end Go.Proofs.YtanhnllkccldhaaGreat
namespace Go.Proofs
open Go.Shelf
def Tryz.growZ_ren : Go.Shelf.Ren := ⟨fun | 4 => 112 | n => n, fun | 22 => 22 | 25 => 86 | 3 => 3 | 4 => 4 | 9 => 9 | 20 => 20 | 0 => 0 | n => n, fun | n => n⟩
theorem Tryz.growZ : Go.Proofs.Lays8.n4 Tryz.prog Tryz.growZ_ren := {
 mixed := by kernel_rfl
 f4 := ⟨Tryz.f112.name, by decide, Tryz.func112.trans (congrArg some (by kernel_rfl))⟩
 t0 := Tryz.underlying0
 a0 := Tryz.isAgg0
 z0 := Tryz.sizeOf0
 v0 := Tryz.zeroValue0
 t3 := Tryz.underlying3
 a3 := Tryz.isAgg3
 z3 := Tryz.sizeOf3
 v3 := Tryz.zeroValue3
 t4 := Tryz.underlying4
 a4 := Tryz.isAgg4
 z4 := Tryz.sizeOf4
 v4 := Tryz.zeroValue4
 t9 := Tryz.underlying9
 a9 := Tryz.isAgg9
 z9 := Tryz.sizeOf9
 v9 := Tryz.zeroValue9
 t20 := Tryz.underlying20
 a20 := Tryz.isAgg20
 z20 := Tryz.sizeOf20
 v20 := Tryz.zeroValue20
 t22 := Tryz.underlying22
 a22 := Tryz.isAgg22
 z22 := Tryz.sizeOf22
 v22 := Tryz.zeroValue22 }
end Go.Proofs
namespace Go.Proofs.YtanhnllkccldhaaGreat
set_option linter.unusedVariables false
set_option linter.unusedSimpArgs false
set_option maxRecDepth 100000
section
open Go.RowKit Go.Proofs.YtanhnllkccldhaaGreat.Eng Enc
theorem own_newZ {w : World} {C : Array Value} {e : TypeId} {G base : Nat} (hb : base <= w.heap.size) (hs : C.size = G * 6) (hG : G <= maxLen) : Own e base (w.drew.alloc (.cells C e)) (.slice (some ⟨w.heap.size, 0, none⟩) 0 G) ([] : List Zn) :=
 ⟨rfl, .inr ⟨w.heap.size, G, C, rfl, hb, World.alloc_heap_new w.drew _, Nat.zero_le _, hG, hs, by simp [cellsL]⟩⟩
theorem growZ_any (n : Nat) (hn : n <= 100000) (w : World) :
 Calls Tryz.prog 112 #[.slice none 0 0, .int .i64 n] w (Ret w fun v w' => Own TZ w.heap.size w' v ([] : List Zn)) := by
 by_cases h0 : n = 0
 ·subst h0
  refine (Any8.slices_Grow_room Tryz.growZ none 0 0 0 w (Nat.le_refl _) (by omega) (by omega) (by omega)).mono ?_;rintro e w' ⟨rfl, rfl⟩;exact ⟨_, rfl, Below.refl _ _, Own.nil⟩
 ·have hi : ∃ i0, Tryz.prog.info? 86 = some i0 /\ i0.zero = some (.agg #[.int .i64 0, .int .i64 0, .int .i64 0, .int .i64 0, .int .i64 0, .int .i64 0]) /\ i0.size = 6 /\ i0.bytes = 48 := by
   have h := infoZone;cases hx : Tryz.prog.info? 86 with
   | none => rw [hx] at h; cases h
   | some i0 =>
     rw [hx] at h;simp only [Option.map_some, Option.some.injEq, Prod.mk.injEq] at h;exact ⟨i0, rfl, h.1, h.2.1, h.2.2⟩
  obtain ⟨i0, hi1, hi2, hi3, hi4⟩ := hi;refine (Any8.slices_Grow_grow Tryz.growZ i0 _ hi1 hi2 (by omega) none 0 0 n [] w (Nat.le_refl _) (by omega) (by rw [hi4]; omega) (by omega) (by simp) (fun _ => rfl) (fun a e => by cases e)).mono ?_;rintro e w' ⟨rfl, rfl⟩;have hG := grownCap_ge w (0 + n) 0 (Tryz.growZ_ren.t 25);have hG2 := grownCap_le_maxLen w (0 + n) 0 (Tryz.growZ_ren.t 25) (by unfold maxLen; omega);refine ⟨_, rfl, ((Below.refl _ _).drew).alloc (Nat.le_refl _) _, own_newZ (e := Tryz.growZ_ren.t 25) (Nat.le_refl _) ?_ hG2⟩;simp only [Array.size_append, Builtin.zeroCells, Array.size_map, Array.size_range];have hz : (Value.agg #[.int .i64 0, .int .i64 0, .int .i64 0, .int .i64 0, .int .i64 0, .int .i64 0]).cells.size = 6 := rfl;rw [hz];generalize grownCap w (0 + n) 0 (Tryz.growZ_ren.t 25) = G at *;show 0 + (0 + n - 0) * 6 + (G - (0 + n)) * 6 = G * 6;omega
theorem flat_take {ls : List (List Zn)} {k : Nat} {l : List Zn} (h : ls[k]? = some l) : (ls.take (k + 1)).flatten = (ls.take k).flatten ++ l := by
 rw [List.take_add_one, h, List.flatten_append]; simp
theorem flat_le (ls : List (List Zn)) (k : Nat) : (ls.take k).flatten.length <= ls.flatten.length := by
 conv => rhs; rw [<- List.take_append_drop k ls, List.flatten_append, List.length_append]
 omega
theorem concat_any (ss : List Svl) (ls : List (List Zn)) (htot : ls.flatten.length <= 100000) (a : Option Addr) (cap : Nat) (w : World) (hA : Shown w.heap.size w ss ls) (hS : Sl w.heap.size w (.slice a ss.length cap) ss) :
 Calls Tryz.prog 71 #[.slice a ss.length cap] w (Ret w fun v w' => ∃ a' c', v = .slice a' ls.flatten.length c' /\ Own TZ w.heap.size w' (.slice a' ls.flatten.length c') ls.flatten) := by
 refine fun_ret 0 w Tryz.func71 (args := [.val (.slice a ss.length cap)]) rfl rfl ?_;obtain ⟨hlen, hA⟩ := hA;obtain ⟨_, _, hfe, hcap1, hcap2, _⟩ := hS.form;injection hfe with _ _ hfe;subst hfe;unfold maxLen at hcap2;refine LoopI.invC (α := Nat × World) (fun y => [(11, .val (.int .i64 y.1)), (3, .val (.int .i64 ((ls.take y.1).flatten.length : Nat)))]) (fun y => y.2) (fun y => y.1 <= ss.length /\ Below w.heap.size w y.2) (fun y => ss.length - y.1) ?_ ?_
 ·intro w1 h1
  exact ⟨(0, w1), Cov.au rfl rfl rfl rfl rfl, rfl, Nat.zero_le _, h1.below⟩
 rintro ⟨k, W⟩ ⟨hk, hW⟩;simp only at hk hW;refine Branch.mk (fun hc => ?_) (fun hc => ?_)
 ·have hlt : k < ss.length := by simpa using hc
  have hg := List.getElem?_eq_getElem (l := ss) (i := k) hlt;have hl := List.getElem?_eq_getElem (l := ls) (i := k) (by omega);obtain ⟨hs1, hs2⟩ := hA k _ _ hg hl;generalize ls[k]'(by omega) = l at hl hs1 hs2;have hft := flat_take hl;have hfl := flat_le ls (k + 1);have hSW := hS.go hW hW.size;refine hSW.idx hg fun ad had => ?_;refine hSW.ldv hg rfl had (Below.refl _ _) (by simp) ?_;rw [hft, List.length_append] at hfl;refine Need.ok ?_;refine Branch.no (decide_eq_false (by simp only; omega)) ?_;refine Need.ok (EndI.mk fun w7 h7 => ⟨(k + 1, w7), ?_, rfl, ⟨hlt, h7.below⟩, by simp only; omega⟩);simp only;rw [hft, List.length_append, <- hs2, Int.natCast_add];exact Cov.au rfl rfl rfl rfl rfl
 have hge : k = ls.length := by (have : ¬ k < ss.length := by simpa using hc); omega
 subst hge;clear hc hk;have hfa : ((ls.take ls.length).flatten.length : Int) = ((ls.flatten.length : Nat) : Int) := by rw [List.take_length]
 conv => whnf
 simp only;rw [hfa];apply CallI.use
 focus (exact fun w2 h2 => growZ_any ls.flatten.length htot w2)
 rintro v w2 v2 h2 hB2 hO2;refine LoopI.invC (α := Nat × World × Value) (fun y => [(27, .val (.int .i64 y.1)), (6, .val y.2.2)]) (fun y => y.2.1) (fun y => y.1 <= ss.length /\ Below w.heap.size w y.2.1 /\ Own TZ w.heap.size y.2.1 y.2.2 (ls.take y.1).flatten) (fun y => ss.length - y.1) ?_ ?_
 ·intro w3 h3
  exact ⟨(0, w3, v), Cov.au rfl rfl rfl rfl rfl, rfl, Nat.zero_le _, h3.below, (hO2.lower h2.below.size).below (at_belowM h3 (by simp))⟩
 rintro ⟨k, U, tv⟩ ⟨hk, hU, hO⟩;simp only at hk hU hO;refine Branch.mk (fun hc => ?_) (fun hc => ?_)
 ·have hlt : k < ss.length := by simpa using hc
  have hg := List.getElem?_eq_getElem (l := ss) (i := k) hlt;have hl := List.getElem?_eq_getElem (l := ls) (i := k) (by omega);obtain ⟨hs1, hs2⟩ := hA k _ _ hg hl;generalize ls[k]'(by omega) = l at hl hs1 hs2;have hft := flat_take hl;have hfl := flat_le ls (k + 1);have hSU := hS.go hU hU.size;refine hSU.idx hg fun ad had => ?_;refine hSU.ldv hg rfl had (Below.refl _ _) (by simp) ?_;rw [hft, List.length_append] at hfl;rw [hs2] at hs1 ⊢;refine GenN.app (α := Zn) elZ (ls.take k).flatten l w.heap.size (fun w5 h5 => hO.at h5 (by simp)) (fun w5 h5 => (hs1.go h5.below h5.below.size).src) (by unfold maxLen; omega) (by omega) (fun w5 h5 => h5.below.size) (fun w5 w6 h5 hg => keep_grown h5 hg (fun k hk => ⟨(hO.lt k hk).1, by simp⟩)) fun v1 w5 w6 h5 hg hO1 => ?_;rw [<- hft] at hO1;refine Need.ok (EndI.mk fun w7 h7 => ⟨(k + 1, w7, v1), Cov.au rfl rfl rfl rfl rfl, rfl, ⟨hlt, h7.below, hO1.below (at_belowM h7 (by simp))⟩, by simp only; omega⟩)
 ·have hge : k = ls.length := by (have : ¬ k < ss.length := by simpa using hc); omega
  subst hge;rw [List.take_length] at hO;obtain ⟨a', c', rfl⟩ := hO.form;exact EndI.mk fun w9 h9 => ⟨_, _, rfl, hO.at h9 (by simp)⟩
end
end Go.Proofs.YtanhnllkccldhaaGreat
namespace Go.Proofs
open Go.Shelf
end Go.Proofs
namespace Go.Proofs.YtanhnllkccldhaaGreat
set_option linter.unusedVariables false
set_option linter.unusedSimpArgs false
set_option maxRecDepth 100000
section
open Go.RowKit Go.Proofs.YtanhnllkccldhaaGreat.Eng Enc
def Incl.End.val (x : Incl.End) : Value := .agg #[.bool x.is, .int .i64 x.at_.num, .int .i64 x.at_.den, .bool x.strict]
end
end Go.Proofs.YtanhnllkccldhaaGreat
namespace Go.Proofs.YtanhnllkccldhaaGreat.Dbm
set_option linter.unusedVariables false
set_option linter.unusedSimpArgs false
open Go.Proofs.YtanhnllkccldhaaGreat.Fr
def satO (d : Rat) : OB -> Prop
 | none => True
 | some v => if Bd.st v = true then d < ((v / 2 : Int) : Rat) else d <= ((v / 2 : Int) : Rat)
theorem sat_iff (d : Rat) (b : Int) : sat d b ↔ satO d (ob b) := by
 unfold sat ob
 by_cases h : b = NO
 ·rw [if_pos h]; exact ⟨fun _ => trivial, fun _ => .inl h⟩
 ·rw [if_neg h]
  exact ⟨fun k => k.resolve_left h, fun k => .inr k⟩
theorem st_iff (v : Int) : Bd.st v = true ↔ v % 2 = 0 := by simp [Bd.st]
theorem satO_add {d e : Rat} {a b : OB} (h : satO d a) (k : satO e b) : satO (d + e) (oadd a b) := by
 cases a with
 | none => trivial
 | some u =>
   cases b with
   | none => trivial
   | some v =>
     simp only [satO, oadd] at h k ⊢;rw [bsum_half];have hp : Bd.st (bsum u v) = true ↔ (Bd.st u = true \/ Bd.st v = true) := by
      rw [st_iff, st_iff, st_iff];unfold bsum;rcases parity u with h1 | h1 <;> rcases parity v with h2 | h2 <;> rw [h1, h2] <;> constructor <;> intro h <;> omega
     rw [Rat.intCast_add];generalize ((u / 2 : Int) : Rat) = x at *;generalize ((v / 2 : Int) : Rat) = y at *;cases hu : Bd.st u <;> cases hv : Bd.st v <;> simp only [hu, hv, Bool.false_eq_true, if_true, if_false, or_self, or_true, true_or, or_false, false_or] at h k hp ⊢
     ·rw [if_neg (by rw [hp]; simp)]; grind
     ·rw [if_pos (by rw [hp]; trivial)]; grind
     ·rw [if_pos (by rw [hp]; trivial)]; grind
     ·rw [if_pos (by rw [hp]; trivial)]; grind
theorem satO_mono {d : Rat} {a b : OB} (h : ole a b) (k : satO d a) : satO d b := by
 cases b with
 | none => trivial
 | some v =>
   cases a with
   | none => exact h.elim
   | some u =>
     have huv : u <= v := h;simp only [satO] at k ⊢;have h1 : u / 2 <= v / 2 := by omega
     have h2 : ((u / 2 : Int) : Rat) <= ((v / 2 : Int) : Rat) := by exact_mod_cast h1
     cases hu : Bd.st u <;> cases hv : Bd.st v <;> simp only [hu, hv, Bool.false_eq_true, if_true, if_false] at k ⊢
     ·grind
     ·have h3 : u / 2 < v / 2 := by
       have a1 : ¬ u % 2 = 0 := fun e => by rw [(st_iff u).2 e] at hu; cases hu
       have a2 := (st_iff v).1 hv;omega
      have h4 : ((u / 2 : Int) : Rat) < ((v / 2 : Int) : Rat) := by exact_mod_cast h3
      grind
     ·grind
     ·grind
theorem satO_zero {v : Int} : satO 0 (some v) ↔ 1 <= v := by
 simp only [satO];cases hv : Bd.st v <;> simp only [Bool.false_eq_true, if_true, if_false]
 ·have a1 : ¬ v % 2 = 0 := fun e => by rw [(st_iff v).2 e] at hv; cases hv
  constructor
  ·intro h
   have : (0 : Int) <= v / 2 := by exact_mod_cast h
   omega
  ·intro h
   have : (0 : Int) <= v / 2 := by omega
   exact_mod_cast this
 ·have a1 := (st_iff v).1 hv
  constructor
  ·intro h
   have : (0 : Int) < v / 2 := by exact_mod_cast h
   omega
  ·intro h
   have : (0 : Int) < v / 2 := by omega
   exact_mod_cast this
def Fits (N : Nat) (E : Mx) (t : Nat -> Rat) : Prop := ∀ i j, i < N -> j < N -> satO (t i - t j) (E i j)
theorem Fits.way {N : Nat} {E : Mx} {t : Nat -> Rat} (h : Fits N E t) : ∀ (mid : List Nat) (i j : Nat), i < N -> j < N -> (∀ a ∈ mid, a < N) -> satO (t i - t j) (Dbm.way E (i :: (mid ++ [j])))
 | [], i, j, hi, hj, _ => by
   simp only [List.nil_append, way_two]; exact h i j hi hj
 | a :: mid, i, j, hi, hj, hm => by
   have ha := hm a (by simp);have ih := h.way mid a j ha hj (fun b hb => hm b (by simp [hb]));simp only [List.cons_append, Dbm.way];have := satO_add (h i a hi ha) ih
   rwa [show t i - t a + (t a - t j) = t i - t j by grind] at this
theorem Inv.fits {N : Nat} {E M : Mx} {t : Nat -> Rat} {k : Nat} (hk : k <= N) (inv : Inv N k E M) (h : Fits N E t) : Fits N M t := fun i j hi hj => by
 by_cases e : i = j
 ·subst e
  rw [inv.diag i hi, Rat.sub_self];exact satO_zero.2 (by omega)
 ·cases hv : M i j with
  | none => trivial
  | some v =>
    obtain ⟨mid, _, hm, hw⟩ := inv.wit i j hi hj e v hv;rw [<- hw];exact h.way mid i j hi hj fun a ha => Nat.lt_of_lt_of_le (hm a ha) hk
theorem Inv.fits_back {N : Nat} {E M : Mx} {t : Nat -> Rat} {k : Nat} (inv : Inv N k E M) (h : Fits N M t) : Fits N E t := fun i j hi hj => satO_mono (inv.low i j hi hj) (h i j hi hj)
theorem fits_diag {N : Nat} {L L1 : List Int} {t : Nat -> Rat} (hd : ∀ i, i < N -> 1 <= L[i * N + i]?.getD 0) (h : ∀ i j, i < N -> j < N -> L1[i * N + j]?.getD 0 = if i = j then 1 else L[i * N + j]?.getD 0) :
 Fits N (mx N L1) t ↔ Fits N (mx N L) t := by
 have h1 : ∀ i j, i < N -> j < N -> i ≠ j -> mx N L1 i j = mx N L i j := fun i j hi hj e => by unfold mx; rw [h i j hi hj, if_neg e]
 constructor
 ·intro k i j hi hj
  by_cases e : i = j
  ·subst e
   rw [Rat.sub_self];unfold mx ob;split
   ·trivial
   ·exact satO_zero.2 (hd i hi)
  ·rw [<- h1 i j hi hj e]; exact k i j hi hj
 ·intro k i j hi hj
  by_cases e : i = j
  ·subst e
   unfold mx;rw [h i i hi hi, if_pos rfl, Rat.sub_self];exact satO_zero.2 (by omega)
  ·rw [h1 i j hi hj e]; exact k i j hi hj
theorem close_fits {N : Nat} {L C : List Int} (h0 : chk N L = 0) (h : closeL N L = some C) (t : Nat -> Rat) : Fits N (mx N C) t ↔ Fits N (mx N L) t := by
 obtain ⟨L1, a2, a3, inv, hl, hE⟩ := close_inv h0 h;rw [<- fits_diag a2 a3];exact ⟨fun k => inv.fits_back k, fun k => inv.fits (Nat.le_refl _) k⟩
theorem close_some {N : Nat} {L : List Int} (h0 : chk N L = 0) {t : Nat -> Rat} (ht : Fits N (mx N L) t) : ∃ C, closeL N L = some C := by
 obtain ⟨c1, c2, c3, c4⟩ := chk_iff.1 h0;have hN4 : N <= 4 := by omega
 have hL : L.length = N * N := by exact_mod_cast c3
 have hdL : ∀ i, i < N -> 1 <= L[i * N + i]?.getD 0 := fun i hi => by
  have := ht i i hi hi;rw [Rat.sub_self] at this;unfold mx ob at this;split at this
  ·rename_i h; rw [h]; decide
  ·exact satO_zero.1 this
 have hd0 : ∀ n, n <= N -> ∃ Ln, (List.range n).foldlM (diag1 N) L = some Ln := by
  intro n
  induction n with
  | zero => intro _; exact ⟨L, rfl⟩
  | succ n ih =>
    intro hn;obtain ⟨Ln, e⟩ := ih (by omega);obtain ⟨a1, a2, a3⟩ := diag_spec hL n Ln (by omega) e;rw [List.range_succ, List.foldlM_append, e];have : Ln[n * N + n]?.getD 0 = L[n * N + n]?.getD 0 := by rw [a3 n n (by omega) (by omega), if_neg (by omega)]
    refine ⟨Ln.set (n * N + n) 1, ?_⟩;simp only [List.foldlM_cons, List.foldlM_nil, Option.bind_eq_bind, Option.bind_some, diag1];rw [if_neg (by rw [this]; have := hdL n (by omega); omega)]; rfl
 obtain ⟨L1, e1⟩ := hd0 N (Nat.le_refl _);obtain ⟨a1, a2, a3⟩ := diag_spec hL N L1 (Nat.le_refl _) e1;have a3' : ∀ i j, i < N -> j < N -> L1[i * N + j]?.getD 0 = if i = j then 1 else L[i * N + j]?.getD 0 := fun i j hi hj => by
  rw [a3 i j hi hj]
  by_cases e : i = j
  ·rw [if_pos ⟨e, hi⟩, if_pos e]
  ·rw [if_neg (fun h => e h.1), if_neg e]
 have hd1 : ∀ i, i < N -> mx N L1 i i = some 1 := fun i hi => by unfold mx; rw [a3' i i hi hi, if_pos rfl]; rfl
 have hE : ∀ i j v, i < N -> j < N -> mx N L1 i j = some v -> -288230376151711744 <= v / 2 /\ v / 2 <= 288230376151711744 := fun i j v hi hj hv => by
  obtain ⟨e1, e2⟩ := mx_some hv;rw [a3' i j hi hj] at e1;split at e1
  ·subst e1; decide
  ·have := chk_lim h0 (i * N + j) (by rw [hL]; exact place_lt hi hj)
   rw [e1] at this;exact this.resolve_left e2
 have ht1 := (fits_diag (t := t) hdL a3').2 ht;have hst : ∀ n, n <= N -> ∃ Cn, (List.range n).foldlM (stage N) L1 = some Cn := by
  intro n
  induction n with
  | zero => intro _; exact ⟨L1, rfl⟩
  | succ n ih =>
    intro hn;obtain ⟨M, e⟩ := ih (by omega);obtain ⟨b1, b2⟩ := fold_inv hN4 a1 hd1 hE n M (by omega) e;rw [List.range_succ, List.foldlM_append, e];have hlM := inv_lim b2 (by omega) hN4 hE;have hMd : M[n * N + n]?.getD 0 = 1 := (mx_some (b2.diag n (by omega))).1;have hthr : ∀ i j, i < N -> j < N -> mx N (thrL N n M) i j = thr n (mx N M) i j := fun i j hi hj => thrL_mx (by omega) b1 hMd (fun q hq => lim_mono (hlM q hq) (by omega)) hi hj;have htM := b2.fits (by omega) ht1;have hok : diagOk N (thrL N n M) = true := by
     unfold diagOk;rw [List.all_eq_true];intro i hi;have hi := List.mem_range.1 hi;refine decide_eq_true ?_;have h1 : satO 0 (mx N (thrL N n M) i i) := by
      rw [hthr i i hi hi];rcases thr_cases n (mx N M) i i with h | ⟨h, _⟩
      ·rw [h, b2.diag i hi]; exact satO_zero.2 (by omega)
      ·rw [h]
       have := satO_add (htM i n hi (by omega)) (htM n i (by omega) hi)
       rwa [show t i - t n + (t n - t i) = 0 by grind] at this
     unfold mx ob at h1;split at h1
     ·rename_i h; rw [h]; decide
     ·exact satO_zero.1 h1
    refine ⟨thrL N n M, ?_⟩;simp only [List.foldlM_cons, List.foldlM_nil, Option.bind_eq_bind, Option.bind_some, stage];rw [if_pos hok]; rfl
 obtain ⟨C, e2⟩ := hst N (Nat.le_refl _);refine ⟨C, ?_⟩;unfold closeL;rw [e1, Option.bind_some, e2]
end Go.Proofs.YtanhnllkccldhaaGreat.Dbm
namespace Go.Proofs.YtanhnllkccldhaaGreat
set_option linter.unusedVariables false
set_option linter.unusedSimpArgs false
set_option maxRecDepth 100000
section
namespace Dbm
theorem keptK {N : Nat} {L : List Int} {T : List Rt} : keptL N L T = true ↔ ∀ i j, i < N -> j < N -> (Fr.keeps ((moments T)[i]?.getD ⟨0, 1⟩) ((moments T)[j]?.getD ⟨0, 1⟩) (L[i * N + j]?.getD 0)).1 = true := by
 unfold keptL;rw [List.all_eq_true];constructor
 ·intro h i j hi hj
  have := h (i * N + j) (List.mem_range.2 (place_lt hi hj));unfold pairOk at this
  rwa [place_div hj, place_mod hj] at this
 ·intro h q hq
  have hq := List.mem_range.1 hq;unfold pairOk;have := h (q / N) (q % N) (div_lt hq) (mod_lt hq)
  rwa [div_mod] at this
theorem momK {T : List Rt} (h : T.all Rt.ok = true) (i : Nat) : ((moments T)[i]?.getD ⟨0, 1⟩).ok = true := by
 have h0 : (⟨0, 1⟩ : Rt).ok = true := by decide
 cases hg : (moments T)[i]? with
 | none => exact h0
 | some x =>
   rcases List.mem_cons.1 (List.mem_of_getElem? hg) with rfl | hm
   ·exact h0
   ·exact List.all_eq_true.1 h x hm
def tvs (T : List Rt) (i : Nat) : Rat := Fr.v ((moments T)[i]?.getD ⟨0, 1⟩)
theorem may_limK {b : Int} (h : lim 2305843009213693951 b) : Bd.may b = true := by
 unfold Bd.may;rcases h with h | h
 ·rw [h]; rfl
 ·have : Num.okB (b / 2) = true := Num.okB_iff.2 (by omega)
  rw [this]; simp
theorem kept_fitsK {N : Nat} {L : List Int} {T : List Rt} (hl : ∀ i j, i < N -> j < N -> lim 2305843009213693951 (L[i * N + j]?.getD 0)) (hT : T.all Rt.ok = true) : keptL N L T = true ↔ Fits N (mx N L) (tvs T) := by
 rw [keptK];have key : ∀ i j, i < N -> j < N -> ((Fr.keeps ((moments T)[i]?.getD ⟨0, 1⟩) ((moments T)[j]?.getD ⟨0, 1⟩) (L[i * N + j]?.getD 0)).1 = true ↔ satO (tvs T i - tvs T j) (mx N L i j)) := fun i j hi hj => by
  rw [Fr.keeps_sat (momK hT i) (momK hT j) (may_limK (hl i j hi hj)), sat_iff]; rfl
 exact ⟨fun h i j hi hj => (key i j hi hj).1 (h i j hi hj), fun h i j hi hj => (key i j hi hj).2 (h i j hi hj)⟩
theorem chk_lenK {N : Nat} {L : List Int} (h : chk N L = 0) : L.length = N * N := by have := (chk_iff.1 h).2.2.1; exact_mod_cast this
theorem chk_limK {N : Nat} {L : List Int} (h : chk N L = 0) (i j : Nat) (hi : i < N) (hj : j < N) : lim 2305843009213693951 (L[i * N + j]?.getD 0) :=
 lim_mono (chk_lim h _ (by rw [chk_lenK h]; exact place_lt hi hj)) (by omega)
end Dbm
namespace Fr
structure Sm (D M : Int) (a : Rt) : Prop where
 ok : a.ok = true
 den : a.den <= D
 lo : -(M * a.den) <= a.num
 hi : a.num <= M * a.den
theorem Sm.mono {D D' M M' : Int} {a : Rt} (h : Sm D M a) (hD : D <= D') (hM : M <= M') : Sm D' M' a := by
 have o := ok_bd h.ok;have hm : M * a.den <= M' * a.den := Int.mul_le_mul_of_nonneg_right hM (by omega);exact ⟨h.ok, Int.le_trans h.den hD, by have := h.lo; omega, by have := h.hi; omega⟩
theorem v_den {a : Rt} (ha : a.ok = true) : (a.den : Rat) ≠ 0 := by
 have oa := ok_bd ha;intro h; have : a.den = 0 := by exact_mod_cast h
 omega
theorem low_sm {T D M d : Int} (hD : 1 <= D) (hd : D <= d) (hd2 : d <= 1048576) (hM : 0 <= M) (hM2 : M < 2305843009213693952) (hMd : M * d <= 9223372036854775807) (h1 : -(M * D) <= T) (h2 : T <= M * D) :
 okB (T / Int.gcd T D) (D / Int.gcd T D) = true /\ inI (T / Int.gcd T D) = true /\ Sm d M ⟨T / Int.gcd T D, D / Int.gcd T D⟩ /\ T / Int.gcd T D * D = T * (D / Int.gcd T D) := by
 have hg : 1 <= (Int.gcd T D : Int) := by
  have : 0 < Int.gcd T D := Int.gcd_pos_of_ne_zero_right _ (by omega);omega
 have d1 : (Int.gcd T D : Int) ∣ T := Int.gcd_dvd_left ..;have d2 : (Int.gcd T D : Int) ∣ D := Int.gcd_dvd_right ..;have hcop : Int.gcd (T / Int.gcd T D) (D / Int.gcd T D) = 1 := Int.gcd_ediv_gcd_ediv_gcd (i := T) (j := D) (by omega);generalize (Int.gcd T D : Int) = g at *;obtain ⟨u, rfl⟩ := d1;obtain ⟨x, rfl⟩ := d2;rw [Int.mul_ediv_cancel_left _ (by omega), Int.mul_ediv_cancel_left _ (by omega)] at *;have hx : 1 <= x := by
  rcases Int.lt_or_le 0 x with h | h
  ·omega
  ·have := Int.mul_nonpos_of_nonneg_of_nonpos (a := g) (b := x) (by omega) h
   omega
 have hxd : x <= d := by
  have := Int.mul_le_mul_of_nonneg_right hg (show 0 <= x by omega);omega
 have k1 : -(M * x) <= u := by
  refine Int.le_of_mul_le_mul_left (a := g) ?_ (by omega);rw [Int.mul_neg, Int.mul_left_comm]; exact h1
 have k2 : u <= M * x := by
  refine Int.le_of_mul_le_mul_left (a := g) ?_ (by omega);rw [Int.mul_left_comm g M x]; exact h2
 have hMx : M * x <= M * d := Int.mul_le_mul_of_nonneg_left hxd hM;have hin : inB u x = true := by
  apply in_iff.2;have a1 : -M <= u / x := by
   refine (Int.le_ediv_iff_mul_le (by omega)).2 ?_;rw [Int.neg_mul]; exact k1
  have a2 : u / x <= M := by
   have := Int.ediv_le_ediv (c := x) (by omega) k2
   rwa [Int.mul_ediv_cancel _ (by omega)] at this
  omega
 have hok : okB u x = true := by
  unfold okB;rw [hin];have hc2 : Nat.gcd u.natAbs x.natAbs = 1 := hcop;simp only [hc2]; simp; omega
 refine ⟨hok, ?_, ⟨hok, hxd, k1, k2⟩, ?_⟩
 ·unfold inI; simp; omega
 ·rw [Int.mul_left_comm, <- Int.mul_assoc]
theorem v_of_mul {a : Rt} (ha : a.ok = true) {T D : Int} (hD : 1 <= D) (h : a.num * D = T * a.den) : v a * (D : Rat) = T := by
 have h1 := v_den ha;have h2 : (a.num : Rat) * (D : Rat) = (T : Rat) * (a.den : Rat) := by exact_mod_cast h
 unfold v
 grind
theorem sum_sm {a b : Rt} {k Da Db Ma Mb d M : Int} (ha : Sm Da Ma a) (hb : Sm Db Mb b) (hk : k = 1 \/ k = 2) (hMa : 0 <= Ma) (hMb : 0 <= Mb) (hd : Da * Db * k <= d) (hd2 : d <= 1048576) (hM : Ma + Mb <= M * k) (hM2 : M < 2305843009213693952) (hMd : M * d <= 9223372036854775807) :
 (sum a b k).2 = 0 /\ Sm d M (sum a b k).1 /\ v (sum a b k).1 * (k : Rat) = v a + v b := by
 have oa := ok_bd ha.ok;have ob := ok_bd hb.ok;have hM0 : 0 <= M := by rcases hk with rfl | rfl <;> omega
 have e1 : a.den * b.den <= Da * Db := Int.mul_le_mul ha.den hb.den (by omega) (by have := ha.den; omega);have e2 : 1 <= a.den * b.den := by
  have := Int.mul_le_mul (a := 1) (b := 1) oa.1 ob.1 (by omega) (by omega);omega
 have hdn : 1 <= dn a b k /\ dn a b k <= d := by
  unfold dn;rcases hk with rfl | rfl <;> omega
 have hT : -(M * dn a b k) <= tn a b /\ tn a b <= M * dn a b k := by
  have p1 : a.num * b.den <= Ma * a.den * b.den := Int.mul_le_mul_of_nonneg_right ha.hi (by omega);have p2 : b.num * a.den <= Mb * b.den * a.den := Int.mul_le_mul_of_nonneg_right hb.hi (by omega);have p3 : -(Ma * a.den) * b.den <= a.num * b.den := Int.mul_le_mul_of_nonneg_right ha.lo (by omega);have p4 : -(Mb * b.den) * a.den <= b.num * a.den := Int.mul_le_mul_of_nonneg_right hb.lo (by omega);have p5 : (Ma + Mb) * (a.den * b.den) <= M * k * (a.den * b.den) := Int.mul_le_mul_of_nonneg_right hM (by omega);have q1 : M * dn a b k = M * k * (a.den * b.den) := by unfold dn; grind
  have q2 : Ma * a.den * b.den + Mb * b.den * a.den = (Ma + Mb) * (a.den * b.den) := by grind
  have q3 : -(Ma * a.den) * b.den + -(Mb * b.den) * a.den = -((Ma + Mb) * (a.den * b.den)) := by grind
  rw [q1]; unfold tn;omega
 obtain ⟨l1, l2, l3, l4⟩ := low_sm hdn.1 hdn.2 hd2 hM0 hM2 hMd hT.1 hT.2;unfold sum;rw [if_pos ⟨l1, l2⟩];refine ⟨rfl, l3, ?_⟩;have hv := v_of_mul l3.ok hdn.1 l4;have h1 := v_den ha.ok;have h2 := v_den hb.ok;simp only at hv ⊢;have hk0 : (k : Rat) ≠ 0 := by rcases hk with rfl | rfl <;> decide
 generalize v (⟨tn a b / Int.gcd (tn a b) (dn a b k), dn a b k / Int.gcd (tn a b) (dn a b k)⟩ : Rt) = x at *;unfold dn tn at hv
 push_cast at hv
 unfold v
 grind
theorem of_sm {c M : Int} (h : -M <= c /\ c <= M) (hM : M < 2305843009213693952) : Sm 1 M (of c 1).1 /\ v (of c 1).1 = c := by
 have hok : okB c 1 = true := by
  unfold okB;have : inB c 1 = true := in_iff.2 (by simp; omega);rw [this]; simp
 have e : of c 1 = (⟨c, 1⟩, 0) := by
  unfold of low;have hg : Int.gcd c 1 = 1 := by simp
  rw [if_neg (by omega), hg];simp only [Int.cast_ofNat_Int, Int.ediv_one];rw [if_pos hok]
 rw [e];refine ⟨⟨hok, by simp, by simp; omega, by simp; omega⟩, ?_⟩;show (c : Rat) / ((1 : Int) : Rat) = c;have h1 : ((1 : Int) : Rat) = 1 := rfl;rw [h1]; grind
theorem shift_sm {a : Rt} {D M c m d : Int} (ha : Sm D M a) (hM : 0 <= M) (hc : -m <= c /\ c <= m) (hd : D <= d) (hd2 : d <= 1048576) (hM2 : M + m < 2305843009213693952) (hMd : (M + m) * d <= 9223372036854775807) : Sm d (M + m) (shift a c) /\ v (shift a c) = v a + c := by
 obtain ⟨h1, h2⟩ := of_sm hc (by omega);have h := sum_sm (k := 1) (d := d) (M := M + m) ha h1 (.inl rfl) hM (by omega) (by omega) hd2 (by omega) hM2 hMd;unfold shift add;rw [if_pos ⟨ha.ok, h1.ok⟩];refine ⟨h.2.1, ?_⟩;have := h.2.2;rw [h2] at this
 grind
theorem mid_sm {a b : Rt} {D M d : Int} (ha : Sm D M a) (hb : Sm D M b) (hM : 0 <= M) (hd : D * D * 2 <= d) (hd2 : d <= 1048576) (hM2 : M < 2305843009213693952) (hMd : M * d <= 9223372036854775807) : Sm d M (mid a b).1 /\ v (mid a b).1 * 2 = v a + v b := by
 have h := sum_sm (k := 2) (d := d) (M := M) ha hb (.inr rfl) hM hM hd hd2 (by omega) hM2 hMd;unfold mid;rw [if_pos ⟨ha.ok, hb.ok⟩];exact ⟨h.2.1, by have := h.2.2; exact_mod_cast this⟩
theorem cmp_v {a b : Rt} (ha : a.ok = true) (hb : b.ok = true) : ((cmp a b).1 < 0 /\ v a < v b) \/ ((cmp a b).1 = 0 /\ v a = v b) \/ (0 < (cmp a b).1 /\ v b < v a) := by
 unfold cmp;rw [if_pos ⟨ha, hb⟩];simp only;have hD := den_pos ha hb;have hs := v_sub ha hb;have key : ∀ x : Int, (v a - v b) * ((a.den * b.den : Int) : Rat) = ((a.num * b.den - b.num * a.den : Int) : Rat) := fun _ => by
  rw [hs];exact Rat.div_mul_cancel (by intro h; rw [h] at hD; exact absurd hD (by decide))
 have k0 := key 0;unfold cmpR cmpI;split
 ·rename_i h
  refine .inl ⟨by omega, ?_⟩;have : ((a.num * b.den - b.num * a.den : Int) : Rat) < 0 := by exact_mod_cast (by omega : a.num * b.den - b.num * a.den < 0)
  rw [<- k0] at this;rcases Classical.em (v a < v b) with hh | hh
  ·exact hh
  ·have h2 : 0 <= v a - v b := by grind
   have := Rat.mul_nonneg h2 (Rat.le_of_lt hD)
   grind
 ·split
  ·rename_i h
   refine .inr (.inr ⟨by omega, ?_⟩);have : (0 : Rat) < ((a.num * b.den - b.num * a.den : Int) : Rat) := by exact_mod_cast (by omega : 0 < a.num * b.den - b.num * a.den)
   rw [<- k0] at this;rcases Classical.em (v b < v a) with hh | hh
   ·exact hh
   ·have h2 : 0 <= v b - v a := by grind
    have := Rat.mul_nonneg h2 (Rat.le_of_lt hD)
    grind
  ·refine .inr (.inl ⟨rfl, ?_⟩)
   have : ((a.num * b.den - b.num * a.den : Int) : Rat) = 0 := by exact_mod_cast (by omega : a.num * b.den - b.num * a.den = 0)
   rw [this] at k0;rcases Rat.mul_eq_zero.1 k0 with h | h
   ·grind
   ·rw [h] at hD; exact absurd hD (by decide)
end Fr
namespace Incl
open Fr Dbm
def loQ (E : End) (x : Rat) : Prop := E.is = true -> (if E.strict = true then v E.at_ < x else v E.at_ <= x)
def hiQ (E : End) (x : Rat) : Prop := E.is = true -> (if E.strict = true then x < v E.at_ else x <= v E.at_)
def Att (P : Rat -> Int -> Prop) (s : Int) (E : End) : Prop := E.is = true -> ∃ r b, P r b /\ b ≠ NO /\ v E.at_ = r - (s : Rat) * ((b / 2 : Int) : Rat) /\ (E.strict = true ↔ Bd.st b = true)
structure EOk (D M : Int) (P : Rat -> Int -> Prop) (s : Int) (E : End) : Prop where
 sm : E.is = true -> Sm D M E.at_
 att : Att P s E
theorem value_no : Bd.value NO = (0, false, 6) := by decide
theorem value_of {b : Int} (h : lim 288230376151711744 b) (hn : b ≠ NO) : Bd.value b = (b / 2, Bd.st b, 0) := by
 have hb := h.resolve_left hn;have hm : Bd.may b = true := by
  unfold Bd.may Num.okB
  simp; right; omega
 have hn' : ¬ b = 9223372036854775807 := hn;unfold Bd.value;rw [if_pos hm, if_neg hn']
theorem near_lo {P : Rat -> Int -> Prop} {E : End} {D M Dr Mr b : Int} {r : Rt} (hE : EOk D M P 1 E) (hr : Sm Dr Mr r) (hMr : 0 <= Mr) (hDr : Dr <= D) (hD : D <= 1048576) (hMM : Mr + 288230376151711744 <= M) (hM2 : M < 2305843009213693952) (hMd : M * D <= 9223372036854775807) (hb : lim 288230376151711744 b) (hP : P (v r) b) :
 EOk D M P 1 (nearer E b r 1) /\ ∀ x, loQ (nearer E b r 1) x ↔ (loQ E x /\ satO (v r - x) (ob b)) := by
 unfold nearer
 by_cases hn : b = NO
 ·subst hn
  rw [value_no];rw [if_pos (by decide)];refine ⟨hE, fun x => ⟨fun h => ⟨h, ?_⟩, fun h => h.1⟩⟩;simp [ob, satO]
 have hbb := hb.resolve_left hn;rw [value_of hb hn];simp only [ne_eq, not_true_eq_false, if_false];have hDp : 1 <= D := by have := (ok_bd hr.ok).1; have := hr.den; omega
 have hMd2 : (Mr + 288230376151711744) * D <= 9223372036854775807 := Int.le_trans (Int.mul_le_mul_of_nonneg_right hMM (by omega)) hMd;obtain ⟨s1, s2⟩ := shift_sm (c := -1 * (b / 2)) (m := 288230376151711744) (d := D) hr hMr (by omega) hDr hD (by omega) hMd2;have s1 := s1.mono (Int.le_refl D) hMM;have s3 : v (shift r (-1 * (b / 2))) = v r - ((b / 2 : Int) : Rat) := by rw [s2]; push_cast; grind
 generalize shift r (-1 * (b / 2)) = at_ at *;have hob : ob b = some b := by unfold ob; rw [if_neg hn]
 rw [hob];have hnew : EOk D M P 1 ⟨true, at_, Bd.st b⟩ := ⟨fun _ => s1, fun _ => ⟨v r, b, hP, hn, by rw [s3]; push_cast; grind, Iff.rfl⟩⟩;have hsat : ∀ x, satO (v r - x) (some b) ↔ (if Bd.st b = true then v at_ < x else v at_ <= x) := fun x => by
  simp only [satO, s3];cases Bd.st b <;> simp <;> constructor <;> intro h <;> grind
 by_cases hi : E.is = false
 ·rw [if_pos (.inl hi)]
  refine ⟨hnew, fun x => ?_⟩;rw [hsat];unfold loQ;rw [hi]; simp
 have hi : E.is = true := by simpa using hi
 have hc := cmp_v s1.ok (hE.sm hi).ok;rcases hc with ⟨c1, c2⟩ | ⟨c1, c2⟩ | ⟨c1, c2⟩
 ·rw [if_neg (by rw [hi]; simp; omega), if_neg (by omega)]
  refine ⟨hE, fun x => ⟨fun h => ⟨h, ?_⟩, fun h => h.1⟩⟩;rw [hsat];have h' := h hi;split at h' <;> split <;> grind
 ·rw [if_neg (by rw [hi, c1]; simp), if_pos c1]
  refine ⟨⟨fun _ => hE.sm hi, fun _ => ?_⟩, fun x => ?_⟩
  ·obtain ⟨r', b', p1, p2, p3, p4⟩ := hE.att hi
   cases hs : Bd.st b
   ·exact ⟨r', b', p1, p2, p3, by simp only [Bool.or_false]; exact p4⟩
   ·exact ⟨v r, b, hP, hn, by simp only; rw [<- c2, s3]; push_cast; grind, by simp [hs]⟩
  ·rw [hsat]
   unfold loQ;simp only [hi, true_implies];cases hs : E.strict <;> cases hs2 : Bd.st b <;> simp <;> rw [c2] <;> (try constructor) <;> grind
 ·rw [if_pos (.inr (by omega))]
  refine ⟨hnew, fun x => ?_⟩;rw [hsat];unfold loQ;simp only [hi, true_implies];constructor
  ·intro h
   refine ⟨?_, h⟩;split at h <;> split <;> grind
  ·exact fun h => h.2
theorem near_hi {P : Rat -> Int -> Prop} {E : End} {D M Dr Mr b : Int} {r : Rt} (hE : EOk D M P (-1) E) (hr : Sm Dr Mr r) (hMr : 0 <= Mr) (hDr : Dr <= D) (hD : D <= 1048576) (hMM : Mr + 288230376151711744 <= M) (hM2 : M < 2305843009213693952) (hMd : M * D <= 9223372036854775807) (hb : lim 288230376151711744 b) (hP : P (v r) b) :
 EOk D M P (-1) (nearer E b r (-1)) /\ ∀ x, hiQ (nearer E b r (-1)) x ↔ (hiQ E x /\ satO (x - v r) (ob b)) := by
 unfold nearer
 by_cases hn : b = NO
 ·subst hn
  rw [value_no];rw [if_pos (by decide)];refine ⟨hE, fun x => ⟨fun h => ⟨h, ?_⟩, fun h => h.1⟩⟩;simp [ob, satO]
 have hbb := hb.resolve_left hn;rw [value_of hb hn];simp only [ne_eq, not_true_eq_false, if_false];have hDp : 1 <= D := by have := (ok_bd hr.ok).1; have := hr.den; omega
 have hMd2 : (Mr + 288230376151711744) * D <= 9223372036854775807 := Int.le_trans (Int.mul_le_mul_of_nonneg_right hMM (by omega)) hMd;obtain ⟨s1, s2⟩ := shift_sm (c := - -1 * (b / 2)) (m := 288230376151711744) (d := D) hr hMr (by omega) hDr hD (by omega) hMd2;have s1 := s1.mono (Int.le_refl D) hMM;have s3 : v (shift r (- -1 * (b / 2))) = v r + ((b / 2 : Int) : Rat) := by rw [s2]; push_cast; grind
 generalize shift r (- -1 * (b / 2)) = at_ at *;have hob : ob b = some b := by unfold ob; rw [if_neg hn]
 rw [hob];have hnew : EOk D M P (-1) ⟨true, at_, Bd.st b⟩ := ⟨fun _ => s1, fun _ => ⟨v r, b, hP, hn, by rw [s3]; push_cast; grind, Iff.rfl⟩⟩;have hsat : ∀ x, satO (x - v r) (some b) ↔ (if Bd.st b = true then x < v at_ else x <= v at_) := fun x => by
  simp only [satO, s3];cases Bd.st b <;> simp <;> constructor <;> intro h <;> grind
 by_cases hi : E.is = false
 ·rw [if_pos (.inl hi)]
  refine ⟨hnew, fun x => ?_⟩;rw [hsat];unfold hiQ;rw [hi]; simp
 have hi : E.is = true := by simpa using hi
 have hc := cmp_v s1.ok (hE.sm hi).ok;rcases hc with ⟨c1, c2⟩ | ⟨c1, c2⟩ | ⟨c1, c2⟩
 ·rw [if_pos (.inr (by omega))]
  refine ⟨hnew, fun x => ?_⟩;rw [hsat];unfold hiQ;simp only [hi, true_implies];constructor
  ·intro h
   refine ⟨?_, h⟩;split at h <;> split <;> grind
  ·exact fun h => h.2
 ·rw [if_neg (by rw [hi, c1]; simp), if_pos c1]
  refine ⟨⟨fun _ => hE.sm hi, fun _ => ?_⟩, fun x => ?_⟩
  ·obtain ⟨r', b', p1, p2, p3, p4⟩ := hE.att hi
   cases hs : Bd.st b
   ·exact ⟨r', b', p1, p2, p3, by simp only [Bool.or_false]; exact p4⟩
   ·exact ⟨v r, b, hP, hn, by simp only; rw [<- c2, s3]; push_cast; grind, by simp [hs]⟩
  ·rw [hsat]
   unfold hiQ;simp only [hi, true_implies];cases hs : E.strict <;> cases hs2 : Bd.st b <;> simp <;> rw [c2] <;> (try constructor) <;> grind
 ·rw [if_neg (by rw [hi]; simp; omega), if_neg (by omega)]
  refine ⟨hE, fun x => ⟨fun h => ⟨h, ?_⟩, fun h => h.1⟩⟩;rw [hsat];have h' := h hi;split at h' <;> split <;> grind
theorem st_bsum (u v : Int) : Bd.st (bsum u v) = true ↔ (Bd.st u = true \/ Bd.st v = true) := by
 rw [st_iff, st_iff, st_iff];unfold bsum;rcases parity u with h1 | h1 <;> rcases parity v with h2 | h2 <;> rw [h1, h2] <;> constructor <;> intro h <;> omega
theorem ends_room {P Q : Rat -> Int -> Prop} {l h : End} {D M : Int} (hl : EOk D M P 1 l) (hh : EOk D M Q (-1) h) (hc : ∀ r b r' b', P r b -> Q r' b' -> b ≠ NO -> b' ≠ NO -> satO (r - r') (some (bsum b b'))) (h1 : l.is = true) (h2 : h.is = true) :
 v l.at_ <= v h.at_ /\ ((l.strict = true \/ h.strict = true) -> v l.at_ < v h.at_) := by
 obtain ⟨r, b, p1, p2, p3, p4⟩ := hl.att h1;obtain ⟨r', b', q1, q2, q3, q4⟩ := hh.att h2;have hs := hc r b r' b' p1 q1 p2 q2;have hst := st_bsum b b';rw [<- p4, <- q4] at hst;simp only [satO, bsum_half] at hs;rw [p3, q3]
 push_cast at hs ⊢
 generalize ((b / 2 : Int) : Rat) = x at *;generalize ((b' / 2 : Int) : Rat) = y at *;split at hs
 ·rename_i hk
  exact ⟨by grind, fun _ => by grind⟩
 ·rename_i hk
  exact ⟨by grind, fun hh => absurd (hst.2 hh) hk⟩
theorem choose_ok {P Q : Rat -> Int -> Prop} {l h : End} {D M : Int} (hl : EOk D M P 1 l) (hh : EOk D M Q (-1) h) (hc : ∀ r b r' b', P r b -> Q r' b' -> b ≠ NO -> b' ≠ NO -> satO (r - r') (some (bsum b b')))
 (hD : 1 <= D) (hD2 : D * D * 2 <= 1048576) (hM : 0 <= M) (hM2 : M + 1 < 2305843009213693952) (hMd : (M + 1) * (D * D * 2) <= 9223372036854775807) :
 Sm (D * D * 2) (M + 1) (choose l h) /\ loQ l (v (choose l h)) /\ hiQ h (v (choose l h)) := by
 have hDD : D <= D * D * 2 := by
  have := Int.mul_le_mul_of_nonneg_right hD (show 0 <= D by omega);omega
 have hroom := ends_room hl hh hc;unfold choose;split
 ·rename_i h1
  refine ⟨(hl.sm h1.1).mono hDD (by omega), fun _ => by rw [h1.2]; simp, fun h2 => ?_⟩;obtain ⟨r1, r2⟩ := hroom h1.1 h2;split
  ·exact r2 (.inr (by assumption))
  ·exact r1
 ·rename_i n1
  split
  ·rename_i h2
   refine ⟨(hh.sm h2.1).mono hDD (by omega), fun h1 => ?_, fun _ => by rw [h2.2]; simp⟩;obtain ⟨r1, r2⟩ := hroom h1 h2.1;split
   ·exact r2 (.inl (by assumption))
   ·exact r1
  ·rename_i n2
   split
   ·rename_i h3
    obtain ⟨r1, r2⟩ := hroom h3.1 h3.2;have s1 : l.strict = true := by
     cases hs : l.strict
     ·exact absurd ⟨h3.1, hs⟩ n1
     ·rfl
    have r3 := r2 (.inl s1);obtain ⟨m1, m2⟩ := mid_sm (d := D * D * 2) (hl.sm h3.1) (hh.sm h3.2) hM (Int.le_refl _) hD2 (by omega) (Int.le_trans (Int.mul_le_mul_of_nonneg_right (show M <= M + 1 by omega) (by omega)) hMd);refine ⟨m1.mono (Int.le_refl _) (by omega), fun _ => ?_, fun _ => ?_⟩
    ·split <;> grind
    ·split <;> grind
   ·rename_i n3
    split
    ·rename_i h1
     have h2 : h.is = false := by
      cases hs : h.is
      ·rfl
      ·exact absurd ⟨h1, hs⟩ n3
     obtain ⟨m1, m2⟩ := shift_sm (c := 1) (m := 1) (d := D * D * 2) (hl.sm h1) hM (by omega) hDD hD2 hM2 hMd;refine ⟨m1, fun _ => ?_, fun hh2 => by rw [h2] at hh2; cases hh2⟩;rw [m2];split <;> grind
    ·rename_i n4
     have h1 : l.is = false := by simpa using n4
     split
     ·rename_i h2
      obtain ⟨m1, m2⟩ := shift_sm (c := -1) (m := 1) (d := D * D * 2) (hh.sm h2) hM (by omega) hDD hD2 hM2 hMd;refine ⟨m1, fun hh2 => absurd hh2 (by rw [h1]; decide), fun _ => ?_⟩;rw [m2];split <;> grind
     ·rename_i n5
      have h2 : h.is = false := by simpa using n5
      refine ⟨⟨by decide, by simp only; omega, by simp only; omega, by simp only; omega⟩, fun hh2 => absurd hh2 (by rw [h1]; decide), fun hh2 => absurd hh2 (by rw [h2]; decide)⟩
theorem ends_ok {n : Nat} {C : List Int} {so : List Rt} {D M Dr Mr : Int} (hso : ∀ j, j < so.length -> Sm Dr Mr (so[j]?.getD ⟨0, 1⟩)) (hMr : 0 <= Mr) (hDr : Dr <= D) (hD : D <= 1048576) (hMM : Mr + 288230376151711744 <= M) (hM2 : M < 2305843009213693952) (hMd : M * D <= 9223372036854775807)
 (hb : ∀ j, j < so.length -> lim 288230376151711744 (C[j * n + so.length]?.getD 0) /\ lim 288230376151711744 (C[so.length * n + j]?.getD 0)) : ∀ k, k <= so.length ->
 (EOk D M (fun r b => ∃ j, j < so.length /\ r = v (so[j]?.getD ⟨0, 1⟩) /\ b = C[j * n + so.length]?.getD 0) 1 (ends n C so k).1 /\ ∀ x, loQ (ends n C so k).1 x ↔ ∀ j, j < k -> satO (v (so[j]?.getD ⟨0, 1⟩) - x) (ob (C[j * n + so.length]?.getD 0))) /\
 (EOk D M (fun r b => ∃ j, j < so.length /\ r = v (so[j]?.getD ⟨0, 1⟩) /\ b = C[so.length * n + j]?.getD 0) (-1) (ends n C so k).2 /\ ∀ x, hiQ (ends n C so k).2 x ↔ ∀ j, j < k -> satO (x - v (so[j]?.getD ⟨0, 1⟩)) (ob (C[so.length * n + j]?.getD 0)))
 | 0, _ => by
   exact ⟨⟨⟨fun h => by simp [ends, End.none] at h, fun h => by simp [ends, End.none] at h⟩, fun x => ⟨fun _ j hj => by omega, fun _ h => by simp [ends, End.none] at h⟩⟩, ⟨⟨fun h => by simp [ends, End.none] at h, fun h => by simp [ends, End.none] at h⟩, fun x => ⟨fun _ j hj => by omega, fun _ h => by simp [ends, End.none] at h⟩⟩⟩
 | k + 1, hk => by
   obtain ⟨⟨l1, l2⟩, ⟨h1, h2⟩⟩ := ends_ok hso hMr hDr hD hMM hM2 hMd hb k (by omega);obtain ⟨a1, a2⟩ := near_lo l1 (hso k (by omega)) hMr hDr hD hMM hM2 hMd (hb k (by omega)).1 ⟨k, by omega, rfl, rfl⟩;obtain ⟨b1, b2⟩ := near_hi h1 (hso k (by omega)) hMr hDr hD hMM hM2 hMd (hb k (by omega)).2 ⟨k, by omega, rfl, rfl⟩;have key : ∀ (p : Nat -> Prop), (∀ j, j < k + 1 -> p j) ↔ ((∀ j, j < k -> p j) /\ p k) := fun p => by
    constructor
    ·exact fun h => ⟨fun j hj => h j (by omega), h k (by omega)⟩
    ·rintro ⟨h, h'⟩ j hj
     rcases Nat.lt_succ_iff_lt_or_eq.1 hj with hj | rfl
     ·exact h j hj
     ·exact h'
   refine ⟨⟨a1, fun x => ?_⟩, ⟨b1, fun x => ?_⟩⟩
   ·show loQ (nearer _ _ _ 1) x ↔ _
    rw [a2, l2, key (fun j => satO (v (so[j]?.getD ⟨0, 1⟩) - x) (ob (C[j * n + so.length]?.getD 0)))]
   ·show hiQ (nearer _ _ _ (-1)) x ↔ _
    rw [b2, h2, key (fun j => satO (x - v (so[j]?.getD ⟨0, 1⟩)) (ob (C[so.length * n + j]?.getD 0)))]
theorem pick_ok {N : Nat} {C : List Int} {so : List Rt} {D M : Int} (hC : Clo N C) (hlim : ∀ i j, i < N -> j < N -> lim 288230376151711744 (C[i * N + j]?.getD 0)) (hm : so.length < N) (hso : ∀ j, j < so.length -> Sm D M (so[j]?.getD ⟨0, 1⟩))
 (hf : ∀ i j, i < so.length -> j < so.length -> satO (v (so[i]?.getD ⟨0, 1⟩) - v (so[j]?.getD ⟨0, 1⟩)) (mx N C i j)) (hM : 0 <= M) (hD : 1 <= D) (hD2 : D * D * 2 <= 1048576) (hM2 : M + 288230376151711744 + 1 < 2305843009213693952) (hMd : (M + 288230376151711744 + 1) * (D * D * 2) <= 9223372036854775807) :
 Sm (D * D * 2) (M + 288230376151711744 + 1) (pick N C so) /\ ∀ j, j < so.length -> satO (v (so[j]?.getD ⟨0, 1⟩) - v (pick N C so)) (mx N C j so.length) /\ satO (v (pick N C so) - v (so[j]?.getD ⟨0, 1⟩)) (mx N C so.length j) := by
 have hDD : D <= D * D * 2 := by
  have := Int.mul_le_mul_of_nonneg_right hD (show 0 <= D by omega);omega
 have hq : (M + 288230376151711744) * D <= 9223372036854775807 := Int.le_trans (Int.mul_le_mul (show M + 288230376151711744 <= M + 288230376151711744 + 1 by omega) hDD (by omega) (by omega)) hMd;obtain ⟨⟨l1, l2⟩, ⟨h1, h2⟩⟩ := ends_ok (n := N) (C := C) (D := D) (M := M + 288230376151711744) hso hM (Int.le_refl _) (by omega) (Int.le_refl _) (by omega) hq (fun j hj => ⟨hlim j _ (by omega) hm, hlim _ j hm (by omega)⟩) so.length (Nat.le_refl _);have hc : ∀ r b r' b', (∃ j, j < so.length /\ r = v (so[j]?.getD ⟨0, 1⟩) /\ b = C[j * N + so.length]?.getD 0) -> (∃ j, j < so.length /\ r' = v (so[j]?.getD ⟨0, 1⟩) /\ b' = C[so.length * N + j]?.getD 0) -> b ≠ NO -> b' ≠ NO -> satO (r - r') (some (bsum b b')) := by
  rintro r b r' b' ⟨j, hj, rfl, rfl⟩ ⟨i, hi, rfl, rfl⟩ n1 n2;have ht := hC.tri j i so.length (by omega) (by omega) hm;have := satO_mono ht (hf j i hj hi);have e1 : mx N C j so.length = some (C[j * N + so.length]?.getD 0) := by unfold mx ob; rw [if_neg n1]
  have e2 : mx N C so.length i = some (C[so.length * N + i]?.getD 0) := by unfold mx ob; rw [if_neg n2]
  rw [e1, e2] at this;exact this
 obtain ⟨c1, c2, c3⟩ := choose_ok l1 h1 hc hD hD2 (by omega) hM2 hMd;exact ⟨c1, fun j hj => ⟨(l2 _).1 c2 j hj, (h2 _).1 c3 j hj⟩⟩
theorem picks_in {C : List Int} (hc : chk 3 C = 0) (hC : Clo 3 C) : ∃ t u : Rt, picks 3 C = ([t, u], 0) /\ t.ok = true /\ u.ok = true /\ Fits 3 (mx 3 C) (tvs [t, u]) := by
 have hlen : C.length = 9 := hC.len;have hlim : ∀ i j, i < 3 -> j < 3 -> lim 288230376151711744 (C[i * 3 + j]?.getD 0) := fun i j hi hj => chk_lim hc _ (by omega);have s0 : Sm 1 0 ⟨0, 1⟩ := ⟨by decide, by decide, by decide, by decide⟩;have v0 : v ⟨0, 1⟩ = 0 := by
  show ((0 : Int) : Rat) / ((1 : Int) : Rat) = 0;have h1 : ((1 : Int) : Rat) = 1 := rfl;have h2 : ((0 : Int) : Rat) = 0 := rfl;rw [h1, h2]; grind
 have d1 : ∀ i, i < 3 -> satO 0 (mx 3 C i i) := fun i hi => by
  unfold mx ob;rw [hC.diag i hi];exact satO_zero.2 (by omega)
 obtain ⟨a1, a2⟩ := pick_ok (so := [⟨0, 1⟩]) (D := 1) (M := 0) hC hlim (by decide) (fun j hj => by
  have hj : j < 1 := hj;have e0 : j = 0 := by omega
  rw [e0]; exact s0)
  (fun i j hi hj => by
    have hi : i < 1 := hi;have hj : j < 1 := hj;have e0 : i = 0 := by omega
    have e1 : j = 0 := by omega
    rw [e0, e1, Rat.sub_self]; exact d1 0 (by decide)) (by decide) (by decide) (by decide) (by decide) (by decide)
 generalize ht : pick 3 C [⟨0, 1⟩] = t at *;have b1 := a2 0 (by decide);have a1' : Sm 2 288230376151711745 t := a1;have s0' := s0.mono (show (1 : Int) <= 2 by decide) (show (0 : Int) <= 288230376151711745 by decide)
 obtain ⟨c1, c2⟩ := pick_ok (so := [⟨0, 1⟩, t]) (D := 2) (M := 288230376151711745) hC hlim (by simp) (fun j hj => by
  have hj : j < 2 := hj;have : j = 0 \/ j = 1 := by omega
  rcases this with rfl | rfl
  ·exact s0'
  ·exact a1')
  (fun i j hi hj => by
    have hi : i < 2 := hi;have hj : j < 2 := hj;have : i = 0 \/ i = 1 := by omega
    have : j = 0 \/ j = 1 := by omega
    rcases ‹i = 0 \/ _› with rfl | rfl <;> rcases ‹j = 0 \/ _› with rfl | rfl
    ·rw [Rat.sub_self]; exact d1 0 (by decide)
    ·exact b1.1
    ·exact b1.2
    ·rw [Rat.sub_self]; exact d1 1 (by decide)) (by decide) (by decide) (by decide) (by decide) (by decide)
 generalize hu : pick 3 C [⟨0, 1⟩, t] = u at *;have b2 := c2 0 (by simp);have b3 := c2 1 (by simp);have hp : picked 3 C = [t, u] := by
  unfold picked;show (sofar 3 C 2).drop 1 = _;simp only [sofar, List.singleton_append, List.cons_append, List.nil_append, ht, hu, List.drop_succ_cons, List.drop_zero]
 refine ⟨t, u, ?_, a1.ok, c1.ok, ?_⟩
 ·unfold picks
  rw [if_pos hc];have e3 : Int.toNat 3 = 3 := rfl;rw [e3, hC.close];simp only [hp]
 ·intro i j hi hj
  have : i = 0 \/ i = 1 \/ i = 2 := by omega
  have : j = 0 \/ j = 1 \/ j = 2 := by omega
  rcases ‹i = 0 \/ _› with rfl | rfl | rfl <;> rcases ‹j = 0 \/ _› with rfl | rfl | rfl
  ·rw [Rat.sub_self]; exact d1 0 (by decide)
  ·exact b1.1
  ·exact b2.1
  ·exact b1.2
  ·rw [Rat.sub_self]; exact d1 1 (by decide)
  ·exact b3.1
  ·exact b2.2
  ·exact b3.2
  ·rw [Rat.sub_self]; exact d1 2 (by decide)
end Incl
end
section
open Go.RowKit Go.Proofs.YtanhnllkccldhaaGreat.Eng Enc
namespace Zo
theorem clo {z : Zn} (h : chk z = 0) : Dbm.chk 3 (matL z) = 0 /\ Dbm.Clo 3 (matL z) := by
 have hk := chk_eq.1 h;unfold Dbm.close at hk;split at hk
 ·rename_i h0
  split at hk
  ·rename_i C hC
   have : C = matL z := by simpa using hk
   subst this;exact ⟨h0, Dbm.close_clo h0 hC⟩
  ·simp at hk
 ·simp at hk
def pick (z : Zn) : Pt × Int := if chk z = 0 then (match (Incl.picks 3 (matL z)).1 with | [t, u] => (⟨t, u⟩, 0) | _ => (⟨⟨0, 0⟩, ⟨0, 0⟩⟩, 0)) else (⟨⟨0, 0⟩, ⟨0, 0⟩⟩, 8)
end Zo
namespace Cv
def witness (z : Zn) (l : List Zn) : Pt × Int :=
 if checked [l, [z]] = 0 then (if (Mi.left z l).2 = 0 then (match (Mi.left z l).1 with | [] => (⟨⟨0, 0⟩, ⟨0, 0⟩⟩, 6) | x :: _ => Zo.pick x) else (⟨⟨0, 0⟩, ⟨0, 0⟩⟩, (Mi.left z l).2)) else (⟨⟨0, 0⟩, ⟨0, 0⟩⟩, checked [l, [z]])
end Cv
end
section
namespace Cv
def of (lo hi : Int) : Zn := (Zo.make ⟨lo, false, hi, false, false⟩ ⟨0, false, 4, false, false⟩ ⟨0, true, 0, false, true⟩).1
end Cv
namespace Cv
def among (l : List Zn) (p : Pt) : Bool × Bool := if l.any (fun b => decide ((Zo.has b p).2 ≠ 0)) = true then (false, false) else (l.any (fun b => (Zo.has b p).1), true)
end Cv
end
section
open Go.RowKit Go.Proofs.YtanhnllkccldhaaGreat.Eng Enc
namespace Mi
open Dbm
def Fz (z : Zn) (t : Nat -> Rat) : Prop := Fits 3 (mx 3 (Zo.matL z)) t
def dif (i : Nat) (t : Nat -> Rat) : Rat := if i = 0 then t 1 - t 0 else if i = 1 then t 0 - t 1 else if i = 2 then t 2 - t 0 else if i = 3 then t 0 - t 2 else if i = 4 then t 2 - t 1 else t 1 - t 2
theorem six {k : Nat} (h : k < 6) : k = 0 \/ k = 1 \/ k = 2 \/ k = 3 \/ k = 4 \/ k = 5 := by omega
theorem fz_iff (z : Zn) (t : Nat -> Rat) : Fz z t ↔ ∀ i, i < 6 -> satO (dif i t) (ob (Zo.get z i)) := by
 have o1 : ob 1 = some 1 := by decide
 constructor
 ·intro h i hi
  rcases six hi with rfl | rfl | rfl | rfl | rfl | rfl
  ·exact h 1 0 (by decide) (by decide)
  ·exact h 0 1 (by decide) (by decide)
  ·exact h 2 0 (by decide) (by decide)
  ·exact h 0 2 (by decide) (by decide)
  ·exact h 2 1 (by decide) (by decide)
  ·exact h 1 2 (by decide) (by decide)
 ·intro h i j hi hj
  have : i = 0 \/ i = 1 \/ i = 2 := by omega
  have : j = 0 \/ j = 1 \/ j = 2 := by omega
  rcases ‹i = 0 \/ _› with rfl | rfl | rfl <;> rcases ‹j = 0 \/ _› with rfl | rfl | rfl
  ·rw [Rat.sub_self]; show satO 0 (ob 1); rw [o1]; exact satO_zero.2 (by omega)
  ·exact h 1 (by decide)
  ·exact h 3 (by decide)
  ·exact h 0 (by decide)
  ·rw [Rat.sub_self]; show satO 0 (ob 1); rw [o1]; exact satO_zero.2 (by omega)
  ·exact h 5 (by decide)
  ·exact h 2 (by decide)
  ·exact h 4 (by decide)
  ·rw [Rat.sub_self]; show satO 0 (ob 1); rw [o1]; exact satO_zero.2 (by omega)
theorem satO_min (d : Rat) (x b : Int) : (x = NO \/ x < NO) -> (b = NO \/ b < NO) -> (satO d (ob (min x b)) ↔ satO d (ob x) /\ satO d (ob b)) := by
 intro hx hb;have mono : ∀ u v : Int, u <= v -> (v = NO \/ v < NO) -> satO d (ob u) -> satO d (ob v) := fun u v huv hv h => by
  refine satO_mono ?_ h;unfold ob;split
  ·rename_i hu
   have : v = NO := by omega
   rw [if_pos this]; trivial
  ·split
   ·trivial
   ·exact huv
 rcases Int.le_total x b with h | h
 ·rw [Int.min_eq_left h]
  exact ⟨fun k => ⟨k, mono _ _ h hb k⟩, fun k => k.1⟩
 ·rw [Int.min_eq_right h]
  exact ⟨fun k => ⟨mono _ _ h hx k, k⟩, fun k => k.2⟩
theorem get_set (z : Zn) {i j : Nat} (hi : i < 6) (hj : j < 6) (x : Int) : Zo.get (Zo.set z i x) j = if j = i then x else Zo.get z j := by
 rcases six hi with rfl | rfl | rfl | rfl | rfl | rfl <;> rcases six hj with rfl | rfl | rfl | rfl | rfl | rfl <;> rfl
theorem lim_lt {m b : Int} (h : lim m b) (hm : m <= 2305843009213693951) : b = NO \/ b < NO := by
 rcases h with h | h
 ·exact .inl h
 ·right; unfold NO; omega
theorem get_lim {z : Zn} (h : chk 3 (Zo.matL z) = 0) {i : Nat} (hi : i < 6) : lim 288230376151711744 (Zo.get z i) := by
 have g : ∀ q, q < 9 -> lim 288230376151711744 ((Zo.matL z)[q]?.getD 0) := fun q hq => chk_lim h q hq;rcases six hi with rfl | rfl | rfl | rfl | rfl | rfl
 ·exact g 3 (by decide)
 ·exact g 1 (by decide)
 ·exact g 6 (by decide)
 ·exact g 2 (by decide)
 ·exact g 7 (by decide)
 ·exact g 5 (by decide)
theorem cut_fz {z : Zn} (hz : chk 3 (Zo.matL z) = 0) {i : Nat} (hi : i < 6) {b : Int} (hb : b = NO \/ b < NO) (t : Nat -> Rat) : Fz (cut z i b) t ↔ Fz z t /\ satO (dif i t) (ob b) := by
 have hm := satO_min (dif i t) (Zo.get z i) b (lim_lt (get_lim hz hi) (by omega)) hb;rw [fz_iff, fz_iff];unfold cut;constructor
 ·intro h
  have hi' := h i hi;rw [get_set z hi hi, if_pos rfl] at hi';refine ⟨fun j hj => ?_, (hm.1 hi').2⟩
  by_cases e : j = i
  ·subst e; exact (hm.1 hi').1
  ·have := h j hj
   rwa [get_set z hi hj, if_neg e] at this
 ·rintro ⟨h1, h2⟩ j hj
  rw [get_set z hi hj]
  by_cases e : j = i
  ·subst e; rw [if_pos rfl]; exact hm.2 ⟨h1 j hj, h2⟩
  ·rw [if_neg e]; exact h1 j hj
theorem of_ok {L : List Int} (h : (Zo.of 3 L).2 = 0) : Zo.chk (Zo.of 3 L).1 = 0 /\ ∀ t, Fz (Zo.of 3 L).1 t ↔ Fits 3 (mx 3 L) t := by
 unfold Zo.of at h ⊢
 by_cases h0 : chk 3 L = 0
 case neg => rw [if_neg h0] at h; cases h
 rw [if_pos h0, if_pos rfl] at h ⊢;have hcl : close 3 L = (match closeL 3 L with | some L' => (3, L', 0) | none => (0, [], 6)) := by unfold close; rw [if_pos h0]; rfl
 cases hC : closeL 3 L with
 | none => rw [hC] at hcl; rw [hcl] at h; rw [if_neg (by decide)] at h; cases h
 | some C =>
   rw [hC] at hcl;rw [hcl] at h ⊢;rw [if_pos rfl] at h ⊢;unfold Zo.told at h ⊢
   by_cases h1 : chk 3 C = 0
   case neg =>
    have : (if chk 3 C = 0 then (Zo.ofL C, (0 : Int)) else (Zo.nought, 8)).2 = 0 := h;rw [if_neg h1] at this; cases this
   have e1 : (if chk 3 C = 0 then (Zo.ofL C, (0 : Int)) else (Zo.nought, 8)) = (Zo.ofL C, 0) := if_pos h1;show Zo.chk (if chk 3 C = 0 then (Zo.ofL C, (0 : Int)) else (Zo.nought, 8)).1 = 0 /\ ∀ t, Fz (if chk 3 C = 0 then (Zo.ofL C, (0 : Int)) else (Zo.nought, 8)).1 t ↔ _;rw [e1];have clo := close_clo h0 hC;have hm : Zo.matL (Zo.ofL C) = C := by
    have hlen : C.length = 9 := clo.len;have d0 := clo.diag 0 (by decide);have d1 := clo.diag 1 (by decide);have d2 := clo.diag 2 (by decide)
    match C, hlen with
    | [c0, c1, c2, c3, c4, c5, c6, c7, c8], _ =>
      simp at d0 d1 d2;subst d0; subst d1; subst d2
      rfl
   refine ⟨?_, fun t => ?_⟩
   ·unfold Zo.chk
    rw [hm];have : close 3 C = (3, C, 0) := by
     unfold close;rw [if_pos h1];show (match closeL 3 C with | some L' => ((3 : Int), L', (0 : Int)) | none => (0, [], 6)) = _;rw [clo.close]
    rw [if_pos this]
   ·unfold Fz
    rw [hm];exact close_fits h0 hC t
theorem wth_ok {z : Zn} (hz : chk 3 (Zo.matL z) = 0) {i : Nat} (hi : i < 6) {b : Int} (hb : b = NO \/ b < NO) (h : (wth z i b).2 = 0) : Zo.chk (wth z i b).1 = 0 /\ ∀ t, Fz (wth z i b).1 t ↔ Fz z t /\ satO (dif i t) (ob b) := by
 unfold wth at h ⊢
 by_cases h0 : chk 3 (Zo.matL (cut z i b)) = 0
 case neg => rw [if_neg h0] at h; cases h
 rw [if_pos h0] at h ⊢;obtain ⟨h1, h2⟩ := of_ok h;exact ⟨h1, fun t => (h2 t).trans (cut_fz hz hi hb t)⟩
theorem dif_other {i : Nat} (hi : i < 6) (t : Nat -> Rat) : dif (other i) t = - dif i t := by
 rcases six hi with rfl | rfl | rfl | rfl | rfl | rfl <;> simp [dif, other] <;> grind
theorem not_lt {b : Int} (h : (Bd.not b).2 = 0) (hl : lim 288230376151711744 b) : b ≠ NO /\ (Bd.not b).1 < NO /\ ∀ d : Rat, satO (-d) (ob (Bd.not b).1) ↔ ¬ satO d (ob b) := by
 unfold Bd.not at h ⊢
 by_cases hn : b = NO
 ·subst hn
  rw [Incl.value_no] at h;rw [if_neg (by decide)] at h; cases h
 rw [Incl.value_of hl hn] at h ⊢;simp only [if_true] at h ⊢;have hb := hl.resolve_left hn;have hok : Num.okB (-(b / 2)) = true := Num.okB_iff.2 (by omega);unfold Bd.made at h ⊢;rw [if_pos hok] at h ⊢;simp only;refine ⟨hn, ?_, fun d => ?_⟩
 ·unfold Bd.mk NO; split <;> omega
 ·have hob : ob b = some b := by unfold ob; rw [if_neg hn]
  rw [hob];have hm : Bd.mk (-(b / 2)) (!Bd.st b) < NO /\ -1000000000000000000 <= Bd.mk (-(b / 2)) (!Bd.st b) := by unfold Bd.mk NO; split <;> omega
  have hob2 : ob (Bd.mk (-(b / 2)) (!Bd.st b)) = some (Bd.mk (-(b / 2)) (!Bd.st b)) := by unfold ob; rw [if_neg (by omega)]
  rw [hob2];simp only [satO];cases hs : Bd.st b
  ·have e1 : Bd.mk (-(b / 2)) (!false) = -(b / 2) * 2 := rfl
   have e2 : Bd.st (-(b / 2) * 2) = true := (st_iff _).2 (by omega);have e3 : -(b / 2) * 2 / 2 = -(b / 2) := by omega
   rw [e1, e2, e3, Rat.intCast_neg];simp only [Bool.false_eq_true, if_true, if_false];constructor <;> intro h <;> grind
  ·have e1 : Bd.mk (-(b / 2)) (!true) = -(b / 2) * 2 + 1 := rfl
   have e2 : Bd.st (-(b / 2) * 2 + 1) = false := by
    cases hh : Bd.st (-(b / 2) * 2 + 1)
    ·rfl
    ·have := (st_iff _).1 hh; omega
   have e3 : (-(b / 2) * 2 + 1) / 2 = -(b / 2) := by omega
   rw [e1, e2, e3, Rat.intCast_neg];simp only [Bool.false_eq_true, if_true, if_false];constructor <;> intro h <;> grind
theorem go_ok {b : Zn} (hb : chk 3 (Zo.matL b) = 0) : ∀ (l : List Nat) (x : Zn), (∀ i, i ∈ l -> i < 6) -> chk 3 (Zo.matL x) = 0 -> (∀ y, y ∈ go b l x -> y.2 = 0) ->
 ∀ y, y ∈ go b l x -> Zo.chk y.1 = 0 /\ ∀ t, Fz y.1 t -> Fz x t /\ ∃ i, i < 6 /\ ¬ satO (dif i t) (ob (Zo.get b i))
 | [], x, _, _, _, y, hy => by simp [go] at hy
 | i :: l, x, hl, hx, h0, y, hy => by
   have hi := hl i (by simp);have hll : ∀ j, j ∈ l -> j < 6 := fun j hj => hl j (by simp [hj]);unfold go at h0 hy
   by_cases hn : (Bd.not (Zo.get b i)).2 ≠ 0
   ·rw [if_pos hn] at h0 hy
    exact go_ok hb l x hll hx h0 y hy
   rw [if_neg hn] at h0 hy;have hn : (Bd.not (Zo.get b i)).2 = 0 := by simpa using hn
   obtain ⟨n1, n2, n3⟩ := not_lt hn (get_lim hb hi);have ho : other i < 6 := by unfold other; split <;> omega
   rcases List.mem_append.1 hy with hy' | hy'
   ·by_cases h6 : (wth x (other i) (Bd.not (Zo.get b i)).1).2 = 6
    ·rw [if_pos h6] at hy'; simp at hy'
    ·rw [if_neg h6] at hy'
     have e := List.mem_singleton.1 hy';have hz := h0 _ (by rw [if_neg h6]; exact List.mem_append.2 (.inl (List.mem_singleton.2 rfl)));obtain ⟨w1, w2⟩ := wth_ok hx ho (.inr n2) hz;rw [e];refine ⟨w1, fun t ht => ?_⟩;obtain ⟨k1, k2⟩ := (w2 t).1 ht;rw [dif_other hi] at k2;exact ⟨k1, i, hi, (n3 _).1 k2⟩
   ·by_cases h6 : (wth x i (Zo.get b i)).2 = 6
    ·rw [if_pos h6] at hy'; simp at hy'
    ·rw [if_neg h6] at hy' h0
     have hz : (wth x i (Zo.get b i)).2 = 0 := by
      by_cases e : (wth x i (Zo.get b i)).2 = 0
      ·exact e
      ·exact h0 _ (List.mem_append.2 (.inr (List.mem_append.2 (.inl (by rw [if_neg e]; exact List.mem_singleton.2 rfl)))))
     rw [if_pos hz, List.nil_append] at hy' h0;obtain ⟨w1, w2⟩ := wth_ok hx hi (lim_lt (get_lim hb hi) (by omega)) hz;obtain ⟨g1, g2⟩ := go_ok hb l _ hll (Zo.clo w1).1 (fun y hy => h0 y (List.mem_append.2 (.inr hy))) y hy';refine ⟨g1, fun t ht => ?_⟩;obtain ⟨k1, k2⟩ := g2 t ht;exact ⟨((w2 t).1 k1).1, k2⟩
def Within (S : (Nat -> Rat) -> Prop) (l : List Zn) : Prop := ∀ z, z ∈ l -> Zo.chk z = 0 /\ ∀ t, Fz z t -> S t
theorem minus_ok {a b : Zn} (ha : Zo.chk a = 0) (hb : Zo.chk b = 0) (h : (minus a b).2 = 0) : Within (fun t => Fz a t /\ ¬ Fz b t) (minus a b).1 := by
 unfold minus at h ⊢;rw [if_pos ⟨ha, hb⟩] at h ⊢;cases hf : (parts a b).find? (fun x => decide (x.2 ≠ 0)) with
 | some x =>
   rw [hf] at h;have := List.find?_some hf;simp at this h;exact absurd h this
 | none =>
   have h0 : ∀ y, y ∈ parts a b -> y.2 = 0 := fun y hy => by have := List.find?_eq_none.1 hf y hy; simpa using this
   intro z hz;simp only [List.mem_map] at hz;obtain ⟨y, hy, rfl⟩ := hz;obtain ⟨g1, g2⟩ := go_ok (Zo.clo hb).1 [0, 1, 2, 3, 4, 5] a (by simp) (Zo.clo ha).1 h0 y hy;refine ⟨g1, fun t ht => ?_⟩;obtain ⟨k1, i, hi, k2⟩ := g2 t ht;exact ⟨k1, fun hbt => k2 ((fz_iff b t).1 hbt i hi)⟩
theorem inner_ok {b : Zn} (hb : Zo.chk b = 0) {A : (Nat -> Rat) -> Prop} : ∀ (out next : List Zn), Within A out -> Within (fun t => A t /\ ¬ Fz b t) next -> (inner b out next).2 = 0 -> Within (fun t => A t /\ ¬ Fz b t) (inner b out next).1
 | [], next, _, hn, _ => hn
 | z :: t, next, ho, hn, h => by
   rw [inner_cons] at h ⊢
   by_cases h1 : (minus z b).2 ≠ 0
   ·rw [if_pos h1] at h; exact absurd h h1
   rw [if_neg h1] at h ⊢
   by_cases h2 : 4096 < (next ++ (minus z b).1).length
   ·rw [if_pos h2] at h; cases h
   rw [if_neg h2] at h ⊢;obtain ⟨z1, z2⟩ := ho z (by simp);refine inner_ok hb t _ (fun y hy => ho y (by simp [hy])) (fun y hy => ?_) h;rcases List.mem_append.1 hy with hy | hy
   ·exact hn y hy
   ·obtain ⟨k1, k2⟩ := minus_ok z1 hb (by simpa using h1) y hy
    exact ⟨k1, fun t ht => ⟨z2 t (k2 t ht).1, (k2 t ht).2⟩⟩
theorem outer_ok : ∀ (l out : List Zn) {A : (Nat -> Rat) -> Prop}, (∀ b, b ∈ l -> Zo.chk b = 0) -> Within A out -> (outer l out).2 = 0 -> Within (fun t => A t /\ ∀ b, b ∈ l -> ¬ Fz b t) (outer l out).1
 | [], out, A, _, ho, _ => fun z hz => ⟨(ho z hz).1, fun t ht => ⟨(ho z hz).2 t ht, by simp⟩⟩
 | b :: l, out, A, hl, ho, h => by
   rw [outer_cons] at h ⊢
   by_cases h1 : (inner b out []).2 ≠ 0
   ·rw [if_pos h1] at h; exact absurd h h1
   rw [if_neg h1] at h ⊢;have hi := inner_ok (hl b (by simp)) out [] ho (fun z hz => by simp at hz) (by simpa using h1);have ho' := outer_ok l _ (fun y hy => hl y (by simp [hy])) hi h;intro z hz;obtain ⟨k1, k2⟩ := ho' z hz;refine ⟨k1, fun t ht => ?_⟩;obtain ⟨⟨q1, q2⟩, q3⟩ := k2 t ht;refine ⟨q1, fun y hy => ?_⟩;rcases List.mem_cons.1 hy with rfl | hy
   ·exact q2
   ·exact q3 y hy
theorem left_ok {a : Zn} {l : List Zn} (h : (left a l).2 = 0) : Zo.chk a = 0 /\ (∀ b, b ∈ l -> Zo.chk b = 0) /\ left a l = outer l [a] /\ Within (fun t => Fz a t /\ ∀ b, b ∈ l -> ¬ Fz b t) (left a l).1 := by
 unfold left at h ⊢
 by_cases ha : Zo.chk a ≠ 0
 ·rw [if_pos ha] at h; cases h
 rw [if_neg ha] at h ⊢;have ha : Zo.chk a = 0 := by simpa using ha
 by_cases hl : l.any (fun b => decide (Zo.chk b ≠ 0)) = true
 ·rw [if_pos hl] at h; cases h
 rw [if_neg hl] at h ⊢;have hl : ∀ b, b ∈ l -> Zo.chk b = 0 := fun b hb => by
  rcases Classical.em (Zo.chk b = 0) with e | e
  ·exact e
  ·exact absurd (List.any_eq_true.2 ⟨b, hb, by simpa using e⟩) hl
 exact ⟨ha, hl, rfl, outer_ok l [a] hl (fun z hz => by rw [List.mem_singleton.1 hz]; exact ⟨ha, fun t ht => ht⟩) h⟩
end Mi
theorem Zo.has_ok {z : Zn} {p : Pt} (hz : Zo.chk z = 0) (ht : p.t.ok = true) (hu : p.u.ok = true) : (Zo.has z p).2 = 0 /\ ((Zo.has z p).1 = true ↔ Mi.Fz z (Dbm.tvs [p.t, p.u])) := by
 obtain ⟨c1, c2⟩ := Zo.clo hz;have hT : ([p.t, p.u] : List Rt).all Rt.ok = true := by simp [ht, hu]
 unfold Zo.has;rw [if_pos ⟨hz, ht, hu⟩];unfold Dbm.keeps;rw [if_pos ⟨c1, hT⟩, if_pos (by simp)];exact ⟨rfl, Dbm.kept_fitsK (N := 3) (fun i j hi hj => Dbm.chk_limK c1 i j hi hj) hT⟩
theorem Zo.pick_ok {z : Zn} (hz : Zo.chk z = 0) : (Zo.pick z).2 = 0 /\ (Zo.pick z).1.t.ok = true /\ (Zo.pick z).1.u.ok = true /\ Mi.Fz z (Dbm.tvs [(Zo.pick z).1.t, (Zo.pick z).1.u]) := by
 obtain ⟨c1, c2⟩ := Zo.clo hz;obtain ⟨t, u, hp, ht, hu, hf⟩ := Incl.picks_in c1 c2;unfold Zo.pick;rw [if_pos hz, hp];exact ⟨rfl, ht, hu, hf⟩
namespace Cv
structure WitLaw (z : Zn) (l : List Zn) (more : Zn) : Prop where
 err : (in_ z l).2 ≠ 0 -> (witness z l).2 = (in_ z l).2 /\ (in_ z l).1 = false
 yes : (in_ z l).2 = 0 -> (in_ z l).1 = true -> (witness z l).2 = 6 /\ ((in_ z (l ++ [more])).2 = 0 -> (in_ z (l ++ [more])).1 = true)
 no : (in_ z l).2 = 0 -> (in_ z l).1 = false -> (witness z l).2 = 0 /\ Zo.has z (witness z l).1 = (true, 0) /\ among l (witness z l).1 = (false, true)
 ins : (witness z l).1.ins
theorem in_split (z : Zn) (l : List Zn) : (checked [l, [z]] ≠ 0 /\ in_ z l = (false, checked [l, [z]])) \/ (checked [l, [z]] = 0 /\ in_ z l = (decide ((Mi.left z l).2 = 0) && decide ((Mi.left z l).1.length = 0), (Mi.left z l).2)) := by
 unfold in_
 by_cases h : checked [l, [z]] = 0
 ·right; rw [if_pos h]; exact ⟨h, rfl⟩
 ·left; rw [if_neg h]; exact ⟨h, rfl⟩
end Cv
namespace Mi
open Dbm
theorem of_none {L : List Int} (h : (Zo.of 3 L).2 = 6) (t : Nat -> Rat) : ¬ Fits 3 (mx 3 L) t := by
 intro ht;unfold Zo.of at h
 by_cases h0 : chk 3 L = 0
 case neg => rw [if_neg h0] at h; cases h
 rw [if_pos h0, if_pos rfl] at h;obtain ⟨C, hC⟩ := close_some h0 ht;have hcl : close 3 L = (3, C, 0) := by
  unfold close; rw [if_pos h0];show (match closeL 3 L with | some L' => ((3 : Int), L', (0 : Int)) | none => (0, [], 6)) = _;rw [hC]
 rw [hcl] at h;rw [if_pos rfl] at h;unfold Zo.told at h
 by_cases h1 : chk 3 C = 0
 ·have : (if chk 3 C = 0 then (Zo.ofL C, (0 : Int)) else (Zo.nought, 8)).2 = 6 := h
  rw [if_pos h1] at this; cases this
 ·have : (if chk 3 C = 0 then (Zo.ofL C, (0 : Int)) else (Zo.nought, 8)).2 = 6 := h
  rw [if_neg h1] at this; cases this
theorem wth_none {z : Zn} (hz : chk 3 (Zo.matL z) = 0) {i : Nat} (hi : i < 6) {b : Int} (hb : b = NO \/ b < NO) (h : (wth z i b).2 = 6) (t : Nat -> Rat) : ¬ (Fz z t /\ satO (dif i t) (ob b)) := by
 unfold wth at h
 by_cases h0 : chk 3 (Zo.matL (cut z i b)) = 0
 case neg => rw [if_neg h0] at h; cases h
 rw [if_pos h0] at h;intro ht;exact of_none h t ((cut_fz hz hi hb t).2 ht)
theorem not_err {b : Int} (h : (Bd.not b).2 ≠ 0) (hl : lim 288230376151711744 b) : b = NO := by
 by_cases hn : b = NO
 ·exact hn
 exfalso;apply h;unfold Bd.not;rw [Incl.value_of hl hn];have hb := hl.resolve_left hn;have hok : Num.okB (-(b / 2)) = true := Num.okB_iff.2 (by omega);simp only [if_true];unfold Bd.made;rw [if_pos hok]
theorem go_all {b : Zn} (hb : chk 3 (Zo.matL b) = 0) : ∀ (l : List Nat) (x : Zn), (∀ i, i ∈ l -> i < 6) -> chk 3 (Zo.matL x) = 0 -> (∀ y, y ∈ go b l x -> y.2 = 0) ->
 ∀ t, Fz x t -> (∃ i, i ∈ l /\ ¬ satO (dif i t) (ob (Zo.get b i))) -> ∃ y, y ∈ go b l x /\ Fz y.1 t
 | [], x, _, _, _, t, _, ⟨i, hi, _⟩ => by simp at hi
 | i :: l, x, hl, hx, h0, t, ht, hi0 => by
   have hi := hl i (by simp);have hll : ∀ j, j ∈ l -> j < 6 := fun j hj => hl j (by simp [hj]);unfold go at h0 ⊢
   by_cases hn : (Bd.not (Zo.get b i)).2 ≠ 0
   ·rw [if_pos hn] at h0 ⊢
    have hno := not_err hn (get_lim hb hi);obtain ⟨j, hj, hs⟩ := hi0;rcases List.mem_cons.1 hj with rfl | hj
    ·exfalso; apply hs; rw [hno]; trivial
    ·exact go_all hb l x hll hx h0 t ht ⟨j, hj, hs⟩
   rw [if_neg hn] at h0 ⊢;have hn : (Bd.not (Zo.get b i)).2 = 0 := by simpa using hn
   obtain ⟨n1, n2, n3⟩ := not_lt hn (get_lim hb hi);have ho : other i < 6 := by unfold other; split <;> omega
   by_cases hs : satO (dif i t) (ob (Zo.get b i))
   ·have h6 : (wth x i (Zo.get b i)).2 ≠ 6 := fun e => wth_none hx hi (lim_lt (get_lim hb hi) (by omega)) e t ⟨ht, hs⟩
    rw [if_neg h6] at h0 ⊢;have hz : (wth x i (Zo.get b i)).2 = 0 := by
     by_cases e : (wth x i (Zo.get b i)).2 = 0
     ·exact e
     ·exact h0 _ (List.mem_append.2 (.inr (List.mem_append.2 (.inl (by rw [if_neg e]; exact List.mem_singleton.2 rfl)))))
    rw [if_pos hz, List.nil_append] at h0 ⊢;obtain ⟨w1, w2⟩ := wth_ok hx hi (lim_lt (get_lim hb hi) (by omega)) hz;obtain ⟨j, hj, hsj⟩ := hi0;rcases List.mem_cons.1 hj with rfl | hj
    ·exact absurd hs hsj
    obtain ⟨y, hy, hyt⟩ := go_all hb l _ hll (Zo.clo w1).1 (fun y hy => h0 y (List.mem_append.2 (.inr hy))) t ((w2 t).2 ⟨ht, hs⟩) ⟨j, hj, hsj⟩;exact ⟨y, List.mem_append.2 (.inr hy), hyt⟩
   ·have hsn : satO (dif (other i) t) (ob (Bd.not (Zo.get b i)).1) := by rw [dif_other hi]; exact (n3 _).2 hs
    have h6 : (wth x (other i) (Bd.not (Zo.get b i)).1).2 ≠ 6 := fun e => wth_none hx ho (.inr n2) e t ⟨ht, hsn⟩;rw [if_neg h6] at h0 ⊢;have hm : wth x (other i) (Bd.not (Zo.get b i)).1 ∈ [wth x (other i) (Bd.not (Zo.get b i)).1] ++ (if (wth x i (Zo.get b i)).2 = 6 then [] else (if (wth x i (Zo.get b i)).2 = 0 then [] else [wth x i (Zo.get b i)]) ++ go b l (wth x i (Zo.get b i)).1) := List.mem_append.2 (.inl (List.mem_singleton.2 rfl));obtain ⟨w1, w2⟩ := wth_ok hx ho (.inr n2) (h0 _ hm);exact ⟨_, hm, (w2 t).2 ⟨ht, hsn⟩⟩
theorem minus_all {a b : Zn} (ha : Zo.chk a = 0) (hb : Zo.chk b = 0) (h : (minus a b).2 = 0) {t : Nat -> Rat} (ht : Fz a t) (hn : ¬ Fz b t) : ∃ y, y ∈ (minus a b).1 /\ Fz y t := by
 unfold minus at h ⊢;rw [if_pos ⟨ha, hb⟩] at h ⊢;cases hf : (parts a b).find? (fun x => decide (x.2 ≠ 0)) with
 | some x =>
   rw [hf] at h;have := List.find?_some hf;simp at this h;exact absurd h this
 | none =>
   have h0 : ∀ y, y ∈ parts a b -> y.2 = 0 := fun y hy => by have := List.find?_eq_none.1 hf y hy; simpa using this
   have hex : ∃ i, i < 6 /\ ¬ satO (dif i t) (ob (Zo.get b i)) := by
    apply Classical.byContradiction;intro hall;exact hn ((fz_iff b t).2 fun i hi => Classical.byContradiction fun hs => hall ⟨i, hi, hs⟩)
   obtain ⟨i, hi, hs⟩ := hex;obtain ⟨y, hy, hyt⟩ := go_all (Zo.clo hb).1 [0, 1, 2, 3, 4, 5] a (by simp) (Zo.clo ha).1 h0 t ht ⟨i, by rcases six hi with rfl | rfl | rfl | rfl | rfl | rfl <;> simp, hs⟩;exact ⟨y.1, List.mem_map.2 ⟨y, hy, rfl⟩, hyt⟩
theorem inner_all {b : Zn} (hb : Zo.chk b = 0) : ∀ (out next : List Zn), (∀ z, z ∈ out -> Zo.chk z = 0) -> (inner b out next).2 = 0 -> ∀ t, ((∃ y, y ∈ next /\ Fz y t) \/ ((∃ y, y ∈ out /\ Fz y t) /\ ¬ Fz b t)) -> ∃ y, y ∈ (inner b out next).1 /\ Fz y t
 | [], next, _, _, t, h => by
   rcases h with h | ⟨⟨y, hy, _⟩, _⟩
   ·exact h
   ·simp at hy
 | z :: o, next, ho, h, t, hm => by
   rw [inner_cons] at h ⊢
   by_cases h1 : (minus z b).2 ≠ 0
   ·rw [if_pos h1] at h; exact absurd h h1
   rw [if_neg h1] at h ⊢
   by_cases h2 : 4096 < (next ++ (minus z b).1).length
   ·rw [if_pos h2] at h; cases h
   rw [if_neg h2] at h ⊢;refine inner_all hb o _ (fun y hy => ho y (by simp [hy])) h t ?_;rcases hm with ⟨y, hy, hyt⟩ | ⟨⟨y, hy, hyt⟩, hnb⟩
   ·exact .inl ⟨y, List.mem_append.2 (.inl hy), hyt⟩
   ·rcases List.mem_cons.1 hy with rfl | hy
    ·obtain ⟨x, hx, hxt⟩ := minus_all (ho y (by simp)) hb (by simpa using h1) hyt hnb
     exact .inl ⟨x, List.mem_append.2 (.inr hx), hxt⟩
    ·exact .inr ⟨⟨y, hy, hyt⟩, hnb⟩
theorem outer_all : ∀ (l out : List Zn), (∀ b, b ∈ l -> Zo.chk b = 0) -> (∀ b, b ∈ out -> Zo.chk b = 0) -> (outer l out).2 = 0 -> ∀ t, (∃ y, y ∈ out /\ Fz y t) -> (∀ b, b ∈ l -> ¬ Fz b t) -> ∃ y, y ∈ (outer l out).1 /\ Fz y t
 | [], out, _, _, _, t, h, _ => h
 | b :: l, out, hl, ho, h, t, hm, hn => by
   rw [outer_cons] at h ⊢
   by_cases h1 : (inner b out []).2 ≠ 0
   ·rw [if_pos h1] at h; exact absurd h h1
   rw [if_neg h1] at h ⊢;have hb := hl b (by simp);have hi := inner_ok hb (A := fun _ => True) out [] (fun z hz => ⟨ho z hz, fun _ _ => trivial⟩) (fun z hz => by simp at hz) (by simpa using h1);exact outer_all l _ (fun y hy => hl y (by simp [hy])) (fun y hy => (hi y hy).1) h t (inner_all hb out [] ho (by simpa using h1) t (.inr ⟨hm, hn b (by simp)⟩)) fun y hy => hn y (by simp [hy])
theorem left_all {a : Zn} {l : List Zn} (h : (left a l).2 = 0) {t : Nat -> Rat} (ht : Fz a t) (hn : ∀ b, b ∈ l -> ¬ Fz b t) : ∃ y, y ∈ (left a l).1 /\ Fz y t := by
 obtain ⟨ha, hl, hlo, _⟩ := left_ok h;rw [hlo] at h ⊢;exact outer_all l [a] hl (fun b hb => by rw [List.mem_singleton.1 hb]; exact ha) h t ⟨a, by simp, ht⟩ hn
theorem fz_ex {z : Zn} (hz : Zo.chk z = 0) : ∃ t, Fz z t := ⟨_, (Zo.pick_ok hz).2.2.2⟩
end Mi
namespace Cv
open Mi
def Cov (z : Zn) (l : List Zn) : Prop := ∀ t, Fz z t -> ∃ b, b ∈ l /\ Fz b t
theorem Cov.mono {z : Zn} {l m : List Zn} (h : Cov z l) (hs : ∀ x, x ∈ l -> x ∈ m) : Cov z m := fun t ht => by
 obtain ⟨b, hb, hbt⟩ := h t ht;exact ⟨b, hs b hb, hbt⟩
theorem in_ok {z : Zn} {l : List Zn} (h : (in_ z l).2 = 0) : Zo.chk z = 0 /\ (∀ b, b ∈ l -> Zo.chk b = 0) /\ ((in_ z l).1 = true ↔ Cov z l) := by
 rcases in_split z l with ⟨h0, e⟩ | ⟨h0, e⟩
 ·rw [e] at h; exact absurd h h0
 rw [e] at h ⊢;simp only at h;obtain ⟨ha, hl, hlo, hw⟩ := left_ok h;refine ⟨ha, hl, ?_⟩;simp only [h, decide_true, Bool.true_and, decide_eq_true_eq];constructor
 ·intro hlen t ht
  apply Classical.byContradiction;intro hno;obtain ⟨y, hy, _⟩ := left_all h ht fun b hb hbt => hno ⟨b, hb, hbt⟩;rw [List.eq_nil_of_length_eq_zero hlen] at hy;simp at hy
 ·intro hc
  cases hx : (left z l).1 with
  | nil => rfl
  | cons x r =>
    exfalso;obtain ⟨x1, x2⟩ := hw x (by rw [hx]; simp);obtain ⟨t, ht⟩ := fz_ex x1;obtain ⟨q1, q2⟩ := x2 t ht;obtain ⟨b, hb, hbt⟩ := hc t q1;exact q2 b hb hbt
end Cv
end
section
open Go.RowKit Go.Shelf Go.Proofs.YtanhnllkccldhaaGreat.Eng
attribute [local go_sem] Oper.semAt_some
namespace VZ
def firstN {α : Type} (f : Nat -> α) (k : Nat) : List α := (List.range k).map f
theorem firstN_succ {α : Type} (f : Nat -> α) (k : Nat) : firstN f (k + 1) = firstN f k ++ [f k] := by simp [firstN, List.range_succ]
theorem firstN_len {α : Type} (f : Nat -> α) (k : Nat) : (firstN f k).length = k := by simp [firstN]
def nth (zs : List Zn) (j : Nat) : Zn := zs[j]?.getD ⟨0, 0, 0, 0, 0, 0⟩
theorem firstN_take (zs : List Zn) {k : Nat} (hk : k <= zs.length) : firstN (nth zs) k = zs.take k := by
 apply List.ext_getElem
 ·simp [firstN, hk]
 ·intro i h1 h2
  have : i < zs.length := by simp [firstN] at h1; omega
  simp [firstN, nth, this]
end VZ
open VZ
theorem grown_anyV {X Y : World} (h : X.grownBy Y none) (row : Option Nat) : X.grownBy Y row := ⟨h.os, h.tape, h.output, h.size, fun k hk _ => h.block k hk (fun e => nomatch e)⟩
set_option maxRecDepth 100000 in
set_option maxHeartbeats 2000000 in
theorem valuesZ1_in (n : Nat) (hn : 1 <= n) (l Bs n₀ b off len cap : Nat) (f : Nat -> Zn) (hreach : len * 48 <= 140737488351232) (hb : b < n₀) (J Jx : List Zn -> World -> Prop) (hJg : ∀ pre A B, J pre A -> A.grownBy B none -> J pre B)
 (hY : ∀ pre x W, J pre W -> pre.length < len -> YieldAt Fence.wide (n - 1) Tryz.prog l #[.agg #[.int .i64 x.a, .int .i64 x.b, .int .i64 x.c, .int .i64 x.d, .int .i64 x.e, .int .i64 x.f]] W fun e W' =>
   (e = .returned (.bool true) /\ J (pre ++ [x]) W' /\ Below n₀ W W') \/ (e = .returned (.bool false) /\ Jx (pre ++ [x]) W'))
 (W : World) (hn0 : n₀ <= W.heap.size) (hBs : W.cell? ⟨Bs, 0, none⟩ = some (.slice (some ⟨b, off, none⟩) len cap))
 (c0 : ∀ j, j < len -> W.cell? ⟨b, off + j * 6, none⟩ = some (.int .i64 (f j).a)) (c1 : ∀ j, j < len -> W.cell? ⟨b, off + j * 6 + 1, none⟩ = some (.int .i64 (f j).b))
 (c2 : ∀ j, j < len -> W.cell? ⟨b, off + j * 6 + 2, none⟩ = some (.int .i64 (f j).c)) (c3 : ∀ j, j < len -> W.cell? ⟨b, off + j * 6 + 3, none⟩ = some (.int .i64 (f j).d))
 (c4 : ∀ j, j < len -> W.cell? ⟨b, off + j * 6 + 4, none⟩ = some (.int .i64 (f j).e)) (c5 : ∀ j, j < len -> W.cell? ⟨b, off + j * 6 + 5, none⟩ = some (.int .i64 (f j).f)) (h0 : J [] W) :
 CallsIn Fence.wide n Tryz.prog 182 #[.func (.yield l) #[] #[], .pointer (some ⟨Bs, 0, none⟩)] W fun e W' => (∃ v, e = .returned v) /\
  ((∃ ys, ys = firstN f len /\ J ys W') \/ (∃ pre, (∃ k, k <= len /\ pre = firstN f k) /\ Jx pre W')) := by
 refine callsIn_of_wp Tryz.func182 rfl trivial ?_ rfl;simp only [Tryz.ntmps182, List.size_toArray, List.length_cons, List.length_nil, Nat.reduceAdd, Nat.reduceSub, Array.replicate_succ, Array.replicate_zero, List.push_toArray, List.append_toArray, List.nil_append, List.cons_append]
 gi_wp2
 gi_loopw [7] (fun i wr => ∃ k : Nat, k <= len /\ i = .int .i64 k /\ J (firstN f k) wr /\ Below n₀ W wr)
  (fun i _ => len - (intOf i).toNat)
 case atStart => exact ⟨0, Nat.zero_le _, rfl, h0, Below.refl _ _⟩
 case round =>
  obtain ⟨k, hk, rfl, hJs, hnx⟩ := hrel;have g0 : k < len -> wr.cell? ⟨b, off + k * 6, none⟩ = some (.int .i64 (f k).a) := fun h => (hnx.cell (p := ⟨b, off + k * 6, none⟩) hb).trans (c0 k h);have g1 : k < len -> wr.cell? ⟨b, off + k * 6 + 1, none⟩ = some (.int .i64 (f k).b) := fun h => (hnx.cell (p := ⟨b, off + k * 6 + 1, none⟩) hb).trans (c1 k h);have g2 : k < len -> wr.cell? ⟨b, off + k * 6 + 2, none⟩ = some (.int .i64 (f k).c) := fun h => (hnx.cell (p := ⟨b, off + k * 6 + 2, none⟩) hb).trans (c2 k h);have g3 : k < len -> wr.cell? ⟨b, off + k * 6 + 3, none⟩ = some (.int .i64 (f k).d) := fun h => (hnx.cell (p := ⟨b, off + k * 6 + 3, none⟩) hb).trans (c3 k h);have g4 : k < len -> wr.cell? ⟨b, off + k * 6 + 4, none⟩ = some (.int .i64 (f k).e) := fun h => (hnx.cell (p := ⟨b, off + k * 6 + 4, none⟩) hb).trans (c4 k h);have g5 : k < len -> wr.cell? ⟨b, off + k * 6 + 5, none⟩ = some (.int .i64 (f k).f) := fun h => (hnx.cell (p := ⟨b, off + k * 6 + 5, none⟩) hb).trans (c5 k h);clear c0 c1 c2 c3 c4 c5
  by_cases hlt : k < len
  ·obtain ⟨fn, tmps, assign, body, hy, hR⟩ := hY _ (f k) (wr.alloc (.cells #[.int .i64 (f k).a, .int .i64 (f k).b, .int .i64 (f k).c, .int .i64 (f k).d, .int .i64 (f k).e, .int .i64 (f k).f] 86)) (hJg _ _ _ hJs (World.grownBy_alloc _ _ none)) (by rw [firstN_len]; exact hlt)
   have g0 := g0 hlt;have g1 := g1 hlt;have g2 := g2 hlt;have g3 := g3 hlt;have g4 := g4 hlt;have g5 := g5 hlt
   gi_wp2
   refine hR.mono ?_;rintro e W3 (⟨rfl, hJ3, hk3⟩ | ⟨rfl, hJx3⟩)
   ·gi_wp2
    go_roundw
    case rel => exact ⟨k + 1, by omega, by simp, by rw [firstN_succ]; exact hJ3, hnx.trans (((Below.refl n₀ wr).alloc (Nat.le_trans hn0 hnx.size) _).trans hk3)⟩
    case measure => simp [intOf]; omega
   ·gi_wp2
    refine bodyPost_ret (results_none rfl _ _ _) rfl ?_;exact ⟨⟨_, rfl⟩, .inr ⟨_, ⟨k + 1, by omega, (firstN_succ _ _).symm⟩, hJx3⟩⟩
  ·obtain rfl : k = len := by omega
   gi_wp2
   go_end0
   exact ⟨⟨_, rfl⟩, .inl ⟨_, rfl, hJs⟩⟩
set_option maxRecDepth 100000 in
set_option maxHeartbeats 1000000 in
theorem valuesZ1_nil_in (n : Nat) (l Bs : Nat) (a : Option Addr) (cap : Nat) (J : List Zn -> World -> Prop) (W : World) (hBs : W.cell? ⟨Bs, 0, none⟩ = some (.slice a 0 cap)) (h0 : J [] W) :
 CallsIn Fence.wide n Tryz.prog 182 #[.func (.yield l) #[] #[], .pointer (some ⟨Bs, 0, none⟩)] W fun e W' => (∃ v, e = .returned v) /\ J [] W' := by
 refine callsIn_of_wp Tryz.func182 rfl trivial ?_ rfl;simp only [Tryz.ntmps182, List.size_toArray, List.length_cons, List.length_nil, Nat.reduceAdd, Nat.reduceSub, Array.replicate_succ, Array.replicate_zero, List.push_toArray, List.append_toArray, List.nil_append, List.cons_append]
 gi_wp2
 gi_loopw [7] (fun i wr => i = .int .i64 0 /\ J [] wr) (fun _ _ => 0)
 case atStart => exact ⟨rfl, h0⟩
 case round =>
  obtain ⟨rfl, hJs⟩ := hrel
  gi_wp2
  go_end0
  exact ⟨⟨_, rfl⟩, hJs⟩
set_option maxHeartbeats 1000000 in
theorem valuesZ_in (n : Nat) (a : Option Addr) (len cap : Nat) (w : World) :
 CallsIn Fence.wide n Tryz.prog 139 #[.slice a len cap] w fun e w' => e = .returned (.func (.func 182) #[] #[.pointer (some ⟨w.heap.size, 0, none⟩)]) /\ w' = w.alloc (.cells #[.slice a len cap] 22) := by
 refine callsIn_of_wp Tryz.func139 rfl trivial ?_ rfl;simp only [Tryz.ntmps139, List.size_toArray, List.length_cons, List.length_nil, Nat.reduceAdd, Nat.reduceSub, Array.replicate_succ, Array.replicate_zero, List.push_toArray, List.append_toArray, List.nil_append, List.cons_append]
 gi_wp2
 go_ret
 exact ⟨rfl, rfl⟩
theorem valuesZ_stopsB (n : Nat) (hn : 1 <= n) (Bs n₀ n1 : Nat) (a : Option Addr) (cap : Nat) (zs : List Zn) (hreach : zs.length * 48 <= 140737488351232) (w : World) (hBs : Bs < w.heap.size) (hn₀ : n₀ <= w.heap.size)
 (hc : w.cell? ⟨Bs, 0, none⟩ = some (.slice a zs.length cap)) (hI : Sl n₀ w (.slice a zs.length cap) zs) :
 SeqStopsB n Tryz.prog 182 #[.pointer (some ⟨Bs, 0, none⟩)] (fun x : Zn => #[.agg #[.int .i64 x.a, .int .i64 x.b, .int .i64 x.c, .int .i64 x.d, .int .i64 x.e, .int .i64 x.f]]) (Below n₀) (fun ys => ys = zs) (fun pre => pre <+: zs) zs.length Bs n1 w := fun l J Jx W hW hJa _ hY h0 => by
 have hc' := (hW.cell (p := ⟨Bs, 0, none⟩) hBs).trans hc;have hI' := hI.below (hW.mono hn₀)
 by_cases hz : zs = []
 ·subst hz
  exact (valuesZ1_nil_in n l Bs a cap J W hc' h0).mono fun e W' ⟨he, hj⟩ => ⟨he, .inl ⟨_, rfl, hj⟩⟩
 ·have hp : 0 < zs.length := List.length_pos_iff.2 hz
  obtain ⟨a', cap', e0, _, _, _, h4⟩ := hI';injection e0 with e1 e2 e3;subst e1; subst e3;obtain ⟨b, off, rfl, hb, _⟩ := h4 0 _ (List.getElem?_eq_getElem hp);have hcs : ∀ j, j < zs.length -> ∀ i v, (Enc.enc (nth zs j))[i]? = some v -> W.cell? ⟨b, off + j * 6 + i, none⟩ = some v := fun j hj i v hv => by
   obtain ⟨b', o', e, _, hcell⟩ := h4 j _ (List.getElem?_eq_getElem hj);injection e with e; injection e with e1 e2;subst e1; subst e2;have e5 : nth zs j = zs[j] := by unfold nth; rw [List.getElem?_eq_getElem hj]; rfl
   rw [e5] at hv;have := hcell i v hv
   rwa [<- Nat.add_assoc] at this
  refine (valuesZ1_in n hn l Bs n₀ b off zs.length cap (nth zs) hreach hb J Jx (fun pre A B h hg => hJa pre A B h (grown_anyV hg _)) (fun pre x W1 hj hl => (hY pre x W1 hj hl).mono fun e W' h => h.imp id fun h => ⟨h.1, h.2.1⟩) W (Nat.le_trans hn₀ hW.size) hc' (fun j hj => hcs j hj 0 _ rfl) (fun j hj => hcs j hj 1 _ rfl) (fun j hj => hcs j hj 2 _ rfl) (fun j hj => hcs j hj 3 _ rfl) (fun j hj => hcs j hj 4 _ rfl) (fun j hj => hcs j hj 5 _ rfl) h0).mono ?_;rintro e W' ⟨he, ⟨ys, rfl, hj⟩ | ⟨pre, ⟨k, hk, rfl⟩, hj⟩⟩
  ·exact ⟨he, .inl ⟨_, by rw [firstN_take zs (Nat.le_refl _), List.take_length], hj⟩⟩
  ·exact ⟨he, .inr ⟨_, by rw [firstN_take zs hk]; exact List.take_prefix _ _, hj⟩⟩
end
section
open Go.RowKit Go.Proofs.YtanhnllkccldhaaGreat.Eng Enc
theorem appendSeqZ_any (Bs : Nat) (a : Option Addr) (cap : Nat) (zs : List Zn) (hlen : zs.length <= 1000000) (w : World) (hc : w.cell? ⟨Bs, 0, none⟩ = some (.slice a zs.length cap)) (hS : Sl w.heap.size w (.slice a zs.length cap) zs) :
 Calls Tryz.prog 202 #[.slice none 0 0, .func (.func 182) #[] #[.pointer (some ⟨Bs, 0, none⟩)]] w fun e w' => ∃ v, e = .returned v /\ Below Bs w w' /\ Own 86 w.heap.size w' v zs := by
 have hBs : Bs < w.heap.size := World.block_lt_of_cell? _ _ hc;refine fun_at 9 Bs w (Nat.le_of_lt hBs) Tryz.func202 (args := [.val (.slice none 0 0), .val (.func (.func 182) #[] #[.pointer (some ⟨Bs, 0, none⟩)])]) rfl rfl ?_;refine NewI.mk fun b1 hb1 => ?_;have hb1' : w.heap.size <= b1 := hb1;refine RawI.mk fun ac w7 hR => ?_;have h7 := hR.at_;have hg7 : Below w.heap.size w w7 := at_below h7 (by simp);have hl1 := h7.lt b1 (by simp);have hc7 : w7.cell? ⟨Bs, 0, none⟩ = some (.slice a zs.length cap) := (hg7.cell (p := ⟨Bs, 0, none⟩) hBs).trans hc;have hw7 := hg7.size
 refine rangeBu cxOk (by decide) hR rfl Tryz.call182 (valuesZ_stopsB 8 (by omega) Bs w.heap.size Bs a cap zs (by omega) w7 (by omega) hw7 hc7 (hS.below hg7)) (encs := fun x : Zn => [.agg #[.int .i64 x.a, .int .i64 x.b, .int .i64 x.c, .int .i64 x.d, .int .i64 x.e, .int .i64 x.f]]) (by omega) (Nat.le_refl Bs) (fun hm => by simp at hm; omega)
  (fun h k => h.trans k) ?_ (fun x => rfl)
  (γ := Value) (fun c => [⟨[.val c], 22⟩])
  (fun (pre : List Zn) (c : Value) W => Own 86 w7.heap.size W c pre) ?_ (.slice none 0 0) rfl Own.nil
  (fun (c : Code) (pre : List Zn) (q : Value) (W : World) => False)
  (fun _ q => [])
  (fun c q pre A B row h hg hr => h) (fun z => [(5, .loc 1 0)]) (fun z => [⟨[.val (.int .i64 z.a), .val (.int .i64 z.b), .val (.int .i64 z.c), .val (.int .i64 z.d), .val (.int .i64 z.e), .val (.int .i64 z.f)], 86⟩]) (fun c bs => ∀ k, c.ownBlock = some k -> k ∉ bs) ?asg ?body ?done (fun _ _ _ _ _ _ _ _ h => h.elim)
 case asg =>
  intro l pre z c W hΦ hBW hsW hN;refine NewI.mk fun b5 hb5 => ?_;refine ⟨rfl, [b5], rfl, fun k hk hm => by have := hΦ.lt k hk; have hb5 : W.heap.size <= b5 := hb5; simp at hm; omega, Need.mk ⟨rfl, rfl, rfl, rfl⟩ (EndI.mk fun w9 h9 => ?_)⟩;have hg := at_below h9 (fun b hb => by simp at hb; subst hb; exact hb5);exact ⟨below_keepsFrom hg _, hg.mono (by omega), hΦ.below hg⟩
 ·exact fun W l o o' hl ho h1 h2 => ⟨rfl, rfl, rfl, by simp, fun k hk => World.putObj_heap_other (by omega)⟩
 ·rintro c pre A C row hO hg hr
  have hO : Own 86 w7.heap.size A c pre := hO;refine Own.kept hO hg ?_;obtain ⟨_, ⟨e, _⟩ | ⟨g, cp, cur, e, hbg, hgb, _⟩⟩ := id hO
  ·rw [e]; exact .inl rfl
  ·rw [e]
   refine .inr (fun e' => ?_);rcases hr g e'.symm with h | ⟨_, o, ho, hcl⟩
   ·omega
   ·rw [hgb] at ho; cases ho; cases hcl
 case body =>
  intro l pre x c bs W hbs hψ hO hBW hsW hN;have hO : Own 86 w7.heap.size W c pre := hO;obtain ⟨b5, rfl⟩ := List.length_eq_one_iff.1 hbs;refine NewI.mk fun b6 hb6 => ?_;have hb6' : W.heap.size <= b6 := hb6;have hr : ∀ k, c.ownBlock = some k -> Bs <= k /\ k ∉ [b1, b5, b6] := fun k hk => by
   have hkk := hO.lt k hk;have h5 := hψ k hk;simp at h5;refine ⟨by omega, fun hm => ?_⟩;simp only [List.mem_cons, List.not_mem_nil, or_false] at hm;omega
  refine GenN.app (α := Zn) elZ pre [x] w7.heap.size (fun w5 h5 => hO.below h5.go) (fun w5 h5 => src_own h5 2 rfl rfl rfl rfl) (by unfold maxLen; simp; omega) (by simp; omega) (fun w5 h5 => Nat.le_trans hsW h5.size)
   (fun w5 w6 h5 hg => keep_grown h5 hg hr) fun sv' w5 w6 h5 hg hO' => ?_
  obtain ⟨a', c', rfl⟩ := hO'.form;refine ⟨.slice a' (pre ++ [x]).length c', ?_⟩;refine Need.mk (CovH.mk rfl rfl rfl) (EndI.mk fun w9 h9 => ?_);have hW9 : W.heap.size <= w9.heap.size := Nat.le_trans h5.size (Nat.le_trans hg.size h9.size);have keep1 : ∀ k, k < W.heap.size -> k ≠ b1 -> c.ownBlock ≠ some k -> w9.heap[k]? = W.heap[k]? := fun k hkW h3 hrow => by
   refine (h9.step k (Nat.lt_of_lt_of_le hkW (Nat.le_trans h5.size hg.size)) (fun hm => ?_)).trans ((hg.block k (Nat.lt_of_lt_of_le hkW h5.size) (fun e => hrow e.symm)).trans (h5.go.block k hkW));simp at hm; omega
  have row : ∀ k, k < w7.heap.size -> c.ownBlock ≠ some k := fun k hk e => by have := hO.lt k e; omega
  refine ⟨⟨hW9, fun k o hk7 hk hcl => ?_⟩, ?_, ?_⟩
  ·have hkW : k < W.heap.size := (Array.getElem?_eq_some_iff.1 hk).1
   refine (keep1 k hkW (by omega) (fun e => ?_)).trans hk;obtain ⟨_, ⟨e0, _⟩ | ⟨g, cp, cur, e0, _, hgb, _⟩⟩ := id hO
   ·rw [e0] at e; cases e
   ·rw [e0] at e
    injection e with e;subst e;rw [hgb] at hk; cases hk; cases hcl
  ·have hb9 := h9.below
   exact ⟨hb9.os.trans hBW.os.symm, hb9.tape.trans hBW.tape.symm, hb9.output.trans hBW.output.symm, hW9, fun k hk => keep1 k (by omega) (by omega) (row k (by omega))⟩
  ·exact hO'.at h9 (fun b hb => by simp at hb; subst hb; exact hl1)
 case done =>
  rintro D xs c W hD hSx hO hmark;have hO : Own 86 w7.heap.size W c xs := hO;subst hSx;have hDW : D < W.heap.size := (Array.getElem?_eq_some_iff.1 hmark).1;obtain ⟨a', c', rfl⟩ := hO.form;refine EndM.mk fun w10 h10 => ⟨⟨show Bs <= D by omega, (h10.step D hDW (by simp)).trans hmark⟩, fun w11 hu => ?_⟩;have hO10 := hO.at h10 (by simp);refine (Own.kept (row := some D) hO10 ⟨hu.2.1, hu.2.2.1, hu.2.2.2.1, by rw [hu.1]; exact Nat.le_refl _, fun k _ hk => hu.2.2.2.2 k (fun e => hk (by rw [e]))⟩ ?_).lower hw7;obtain ⟨_, ⟨e, _⟩ | ⟨g, cp, cur, e, _, hgb, _⟩⟩ := id hO10
  ·rw [e]; exact .inl rfl
  ·rw [e]
   refine .inr (fun e' => ?_);injection e' with e';subst e';have := (h10.step _ hDW (by simp)).trans hmark;rw [hgb] at this; cases this
theorem collectZ_any (Bs : Nat) (a : Option Addr) (cap : Nat) (zs : List Zn) (hlen : zs.length <= 1000000) (w : World) (hc : w.cell? ⟨Bs, 0, none⟩ = some (.slice a zs.length cap)) (hS : Sl w.heap.size w (.slice a zs.length cap) zs) :
 Calls Tryz.prog 180 #[.func (.func 182) #[] #[.pointer (some ⟨Bs, 0, none⟩)]] w fun e w' => ∃ v, e = .returned v /\ Below Bs w w' /\ Own 86 w.heap.size w' v zs := by
 have hBs : Bs < w.heap.size := World.block_lt_of_cell? _ _ hc;refine fun_at 0 Bs w (Nat.le_of_lt hBs) Tryz.func180 (args := [.val (.func (.func 182) #[] #[.pointer (some ⟨Bs, 0, none⟩)])]) rfl rfl ?_;refine CallI.mk fun w1 h1 => ?_;have hg1 : Below w.heap.size w w1 := h1.go;refine (appendSeqZ_any Bs a cap zs hlen w1 ((hg1.cell (p := ⟨Bs, 0, none⟩) hBs).trans hc) (hS.go hg1 hg1.size)).mono ?_;rintro e w2 ⟨v, rfl, hB2, hO⟩;refine ⟨⟨hB2, by simp⟩, _, rfl, ?_⟩;obtain ⟨a', c', rfl⟩ := hO.form;exact EndI.mk fun w3 h3 => (hO.at h3 (by simp)).lower hg1.size
end
section
open Go.RowKit Go.Shelf
namespace Zo
def cmp (x y : Zn) : Int :=
 if cmpI x.a y.a ≠ 0 then cmpI x.a y.a else if cmpI x.b y.b ≠ 0 then cmpI x.b y.b else if cmpI x.c y.c ≠ 0 then cmpI x.c y.c
 else if cmpI x.d y.d ≠ 0 then cmpI x.d y.d else if cmpI x.e y.e ≠ 0 then cmpI x.e y.e else if cmpI x.f y.f ≠ 0 then cmpI x.f y.f else 0
end Zo
theorem nanB_at (a : Int) (w : World) : Calls Tryz.prog 225 #[.int .i64 a] w fun e w' => e = .returned (.bool false) /\ w' = w := by
 go_enter Tryz.func225, Tryz.ntmps225
 go_wp2
 go_ret
 exact ⟨by simp, rfl⟩
theorem cmpB_at (x y : Int) (w : World) : Calls Tryz.prog 205 #[.int .i64 x, .int .i64 y] w fun e w' => e = .returned (.int .i64 (cmpI x y)) /\ w' = w := by
 have key : (x < y /\ cmpI x y = -1) \/ (¬ x < y /\ y < x /\ cmpI x y = 1) \/ (¬ x < y /\ ¬ y < x /\ cmpI x y = 0) := by unfold cmpI; split <;> (try split) <;> omega
 rcases key with ⟨h1, h⟩ | ⟨h1, h2, h⟩ | ⟨h1, h2, h⟩
 all_goals (rw [h]; clear h)
 all_goals (go_enter Tryz.func205, Tryz.ntmps205)
 all_goals (go_wp2_with (go_at_call 225; refine (nanB_at _ _).mono ?_; rintro e w' ⟨rfl, rfl⟩))
 all_goals (go_ret; exact ⟨rfl, rfl⟩)
set_option maxHeartbeats 2000000 in
theorem compareB_at (bx b_y : Nat) (x y : Zn) (w : World)
 (x0 : w.cell? ⟨bx, 0, none⟩ = some (.int .i64 x.a)) (x1 : w.cell? ⟨bx, 1, none⟩ = some (.int .i64 x.b)) (x2 : w.cell? ⟨bx, 2, none⟩ = some (.int .i64 x.c)) (x3 : w.cell? ⟨bx, 3, none⟩ = some (.int .i64 x.d)) (x4 : w.cell? ⟨bx, 4, none⟩ = some (.int .i64 x.e)) (x5 : w.cell? ⟨bx, 5, none⟩ = some (.int .i64 x.f))
 (y0 : w.cell? ⟨b_y, 0, none⟩ = some (.int .i64 y.a)) (y1 : w.cell? ⟨b_y, 1, none⟩ = some (.int .i64 y.b)) (y2 : w.cell? ⟨b_y, 2, none⟩ = some (.int .i64 y.c)) (y3 : w.cell? ⟨b_y, 3, none⟩ = some (.int .i64 y.d)) (y4 : w.cell? ⟨b_y, 4, none⟩ = some (.int .i64 y.e)) (y5 : w.cell? ⟨b_y, 5, none⟩ = some (.int .i64 y.f)) :
 Calls Tryz.prog 183 #[.slice (some ⟨bx, 0, none⟩) 6 6, .slice (some ⟨b_y, 0, none⟩) 6 6] w fun e w' => e = .returned (.int .i64 (Zo.cmp x y)) /\ w' = w := by
 unfold Zo.cmp
 by_cases h0 : cmpI x.a y.a = 0
 case neg =>
  rw [if_pos h0];have q0 := fun W => cmpB_at x.a y.a W;generalize cmpI x.a y.a = c at *
  go_enter Tryz.func183, Tryz.ntmps183
  go_wp2
  refine wp_loop_rounds 1 ?_;rw [rounds_succ]
  go_wp2_with (go_at_call 205; refine (q0 _).mono ?_; rintro e w' ⟨rfl, rfl⟩)
  go_ret
  exact ⟨rfl, rfl⟩
 rw [if_neg (by simp [h0])]
 by_cases h1 : cmpI x.b y.b = 0
 case neg =>
  rw [if_pos h1];have q0 := fun W => cmpB_at x.a y.a W;rw [h0] at q0;have q1 := fun W => cmpB_at x.b y.b W;generalize cmpI x.b y.b = c at *
  go_enter Tryz.func183, Tryz.ntmps183
  go_wp2
  refine wp_loop_rounds 2 ?_;rw [rounds_succ]
  go_wp2_with (go_at_call 205; refine (q0 _).mono ?_; rintro e w' ⟨rfl, rfl⟩)
  rw [rounds_succ]
  go_wp2_with (go_at_call 205; refine (q1 _).mono ?_; rintro e w' ⟨rfl, rfl⟩)
  go_ret
  exact ⟨rfl, rfl⟩
 rw [if_neg (by simp [h1])]
 by_cases h2 : cmpI x.c y.c = 0
 case neg =>
  rw [if_pos h2];have q0 := fun W => cmpB_at x.a y.a W;rw [h0] at q0;have q1 := fun W => cmpB_at x.b y.b W;rw [h1] at q1;have q2 := fun W => cmpB_at x.c y.c W;generalize cmpI x.c y.c = c at *
  go_enter Tryz.func183, Tryz.ntmps183
  go_wp2
  refine wp_loop_rounds 3 ?_;rw [rounds_succ]
  go_wp2_with (go_at_call 205; refine (q0 _).mono ?_; rintro e w' ⟨rfl, rfl⟩)
  rw [rounds_succ]
  go_wp2_with (go_at_call 205; refine (q1 _).mono ?_; rintro e w' ⟨rfl, rfl⟩)
  rw [rounds_succ]
  go_wp2_with (go_at_call 205; refine (q2 _).mono ?_; rintro e w' ⟨rfl, rfl⟩)
  go_ret
  exact ⟨rfl, rfl⟩
 rw [if_neg (by simp [h2])]
 by_cases h3 : cmpI x.d y.d = 0
 case neg =>
  rw [if_pos h3];have q0 := fun W => cmpB_at x.a y.a W;rw [h0] at q0;have q1 := fun W => cmpB_at x.b y.b W;rw [h1] at q1;have q2 := fun W => cmpB_at x.c y.c W;rw [h2] at q2;have q3 := fun W => cmpB_at x.d y.d W;generalize cmpI x.d y.d = c at *
  go_enter Tryz.func183, Tryz.ntmps183
  go_wp2
  refine wp_loop_rounds 4 ?_;rw [rounds_succ]
  go_wp2_with (go_at_call 205; refine (q0 _).mono ?_; rintro e w' ⟨rfl, rfl⟩)
  rw [rounds_succ]
  go_wp2_with (go_at_call 205; refine (q1 _).mono ?_; rintro e w' ⟨rfl, rfl⟩)
  rw [rounds_succ]
  go_wp2_with (go_at_call 205; refine (q2 _).mono ?_; rintro e w' ⟨rfl, rfl⟩)
  rw [rounds_succ]
  go_wp2_with (go_at_call 205; refine (q3 _).mono ?_; rintro e w' ⟨rfl, rfl⟩)
  go_ret
  exact ⟨rfl, rfl⟩
 rw [if_neg (by simp [h3])]
 by_cases h4 : cmpI x.e y.e = 0
 case neg =>
  rw [if_pos h4];have q0 := fun W => cmpB_at x.a y.a W;rw [h0] at q0;have q1 := fun W => cmpB_at x.b y.b W;rw [h1] at q1;have q2 := fun W => cmpB_at x.c y.c W;rw [h2] at q2;have q3 := fun W => cmpB_at x.d y.d W;rw [h3] at q3;have q4 := fun W => cmpB_at x.e y.e W;generalize cmpI x.e y.e = c at *
  go_enter Tryz.func183, Tryz.ntmps183
  go_wp2
  refine wp_loop_rounds 5 ?_;rw [rounds_succ]
  go_wp2_with (go_at_call 205; refine (q0 _).mono ?_; rintro e w' ⟨rfl, rfl⟩)
  rw [rounds_succ]
  go_wp2_with (go_at_call 205; refine (q1 _).mono ?_; rintro e w' ⟨rfl, rfl⟩)
  rw [rounds_succ]
  go_wp2_with (go_at_call 205; refine (q2 _).mono ?_; rintro e w' ⟨rfl, rfl⟩)
  rw [rounds_succ]
  go_wp2_with (go_at_call 205; refine (q3 _).mono ?_; rintro e w' ⟨rfl, rfl⟩)
  rw [rounds_succ]
  go_wp2_with (go_at_call 205; refine (q4 _).mono ?_; rintro e w' ⟨rfl, rfl⟩)
  go_ret
  exact ⟨rfl, rfl⟩
 rw [if_neg (by simp [h4])]
 by_cases h5 : cmpI x.f y.f = 0
 case neg =>
  rw [if_pos h5];have q0 := fun W => cmpB_at x.a y.a W;rw [h0] at q0;have q1 := fun W => cmpB_at x.b y.b W;rw [h1] at q1;have q2 := fun W => cmpB_at x.c y.c W;rw [h2] at q2;have q3 := fun W => cmpB_at x.d y.d W;rw [h3] at q3;have q4 := fun W => cmpB_at x.e y.e W;rw [h4] at q4;have q5 := fun W => cmpB_at x.f y.f W;generalize cmpI x.f y.f = c at *
  go_enter Tryz.func183, Tryz.ntmps183
  go_wp2
  refine wp_loop_rounds 6 ?_;rw [rounds_succ]
  go_wp2_with (go_at_call 205; refine (q0 _).mono ?_; rintro e w' ⟨rfl, rfl⟩)
  rw [rounds_succ]
  go_wp2_with (go_at_call 205; refine (q1 _).mono ?_; rintro e w' ⟨rfl, rfl⟩)
  rw [rounds_succ]
  go_wp2_with (go_at_call 205; refine (q2 _).mono ?_; rintro e w' ⟨rfl, rfl⟩)
  rw [rounds_succ]
  go_wp2_with (go_at_call 205; refine (q3 _).mono ?_; rintro e w' ⟨rfl, rfl⟩)
  rw [rounds_succ]
  go_wp2_with (go_at_call 205; refine (q4 _).mono ?_; rintro e w' ⟨rfl, rfl⟩)
  rw [rounds_succ]
  go_wp2_with (go_at_call 205; refine (q5 _).mono ?_; rintro e w' ⟨rfl, rfl⟩)
  go_ret
  exact ⟨rfl, rfl⟩
 rw [if_neg (by simp [h5])];have q0 := fun W => cmpB_at x.a y.a W;rw [h0] at q0;have q1 := fun W => cmpB_at x.b y.b W;rw [h1] at q1;have q2 := fun W => cmpB_at x.c y.c W;rw [h2] at q2;have q3 := fun W => cmpB_at x.d y.d W;rw [h3] at q3;have q4 := fun W => cmpB_at x.e y.e W;rw [h4] at q4;have q5 := fun W => cmpB_at x.f y.f W;rw [h5] at q5
 go_enter Tryz.func183, Tryz.ntmps183
 go_wp2
 refine wp_loop_rounds 7 ?_;rw [rounds_succ]
 go_wp2_with (go_at_call 205; refine (q0 _).mono ?_; rintro e w' ⟨rfl, rfl⟩)
 rw [rounds_succ]
 go_wp2_with (go_at_call 205; refine (q1 _).mono ?_; rintro e w' ⟨rfl, rfl⟩)
 rw [rounds_succ]
 go_wp2_with (go_at_call 205; refine (q2 _).mono ?_; rintro e w' ⟨rfl, rfl⟩)
 rw [rounds_succ]
 go_wp2_with (go_at_call 205; refine (q3 _).mono ?_; rintro e w' ⟨rfl, rfl⟩)
 rw [rounds_succ]
 go_wp2_with (go_at_call 205; refine (q4 _).mono ?_; rintro e w' ⟨rfl, rfl⟩)
 rw [rounds_succ]
 go_wp2_with (go_at_call 205; refine (q5 _).mono ?_; rintro e w' ⟨rfl, rfl⟩)
 rw [rounds_succ]
 go_wp2
 go_ret
 exact ⟨rfl, rfl⟩
theorem zcmp_at (x y : Zn) (w : World) : Calls Tryz.prog 140 #[.agg #[.int .i64 x.a, .int .i64 x.b, .int .i64 x.c, .int .i64 x.d, .int .i64 x.e, .int .i64 x.f], .agg #[.int .i64 y.a, .int .i64 y.b, .int .i64 y.c, .int .i64 y.d, .int .i64 y.e, .int .i64 y.f]] w fun e w' => e = .returned (.int .i64 (Zo.cmp x y)) /\ ∃ q os', w' = Go.Sort.grow (w.drewN q) os' := by
 have hcon := fun W x0 x1 x2 x3 x4 x5 y0 y1 y2 y3 y4 y5 => compareB_at w.heap.size (w.heap.size + 1) x y W x0 x1 x2 x3 x4 x5 y0 y1 y2 y3 y4 y5;generalize Zo.cmp x y = c at *
 go_enter Tryz.func140, Tryz.ntmps140
 go_wp2
 go_quiet ((go_at_call 183; exact Calls.quiet_of_same (hcon _ (by simp) (by simp) (by simp) (by simp) (by simp) (by simp) (by simp) (by simp) (by simp) (by simp) (by simp) (by simp))))
 go_wp2
 go_ret
 exact ⟨rfl, _, _, by rw [Go.Sort.alloc_eq_grow, Go.Sort.alloc_eq_grow, Go.Sort.grow_grow]; rfl⟩
end
end Go.Proofs.YtanhnllkccldhaaGreat
namespace Go.Proofs
open Go.Shelf
def Tryz.sortZ_ren : Go.Shelf.Ren := ⟨fun | 6 => 181 | 15 => 204 | 14 => 203 | 28 => 223 | 29 => 224 | 20 => 215 | 21 => 216 | 22 => 217 | 23 => 218 | 24 => 219 | 25 => 220 | 26 => 221 | 27 => 222 | 46 => 229 | 47 => 230 | 48 => 231 | 49 => 232 | 50 => 233 | 57 => 242 | n => n, fun | 22 => 22 | 24 => 86 | 25 => 182 | 3 => 3 | 39 => 244 | 0 => 0 | 53 => 262 | 55 => 169 | 4 => 4 | 46 => 255 | 45 => 254 | 50 => 259 | 5 => 5 | 9 => 9 | 66 => 269 | 70 => 273 | 76 => 283 | 77 => 214 | n => n, fun | n => n⟩
theorem Tryz.sortZ : Go.Proofs.SlLaysF0.n6 Tryz.prog Tryz.sortZ_ren := {
 mixed := by kernel_rfl
 f6 := ⟨Tryz.f181.name, by decide, Tryz.func181.trans (congrArg some (by kernel_rfl))⟩
 f14 := ⟨Tryz.f203.name, by decide, Tryz.func203.trans (congrArg some (by kernel_rfl))⟩
 f15 := Tryz.func204.trans (congrArg some (by kernel_rfl))
 f20 := ⟨Tryz.f215.name, by decide, Tryz.func215.trans (congrArg some (by kernel_rfl))⟩
 f21 := ⟨Tryz.f216.name, by decide, Tryz.func216.trans (congrArg some (by kernel_rfl))⟩
 f22 := ⟨Tryz.f217.name, by decide, Tryz.func217.trans (congrArg some (by kernel_rfl))⟩
 f23 := ⟨Tryz.f218.name, by decide, Tryz.func218.trans (congrArg some (by kernel_rfl))⟩
 f24 := ⟨Tryz.f219.name, by decide, Tryz.func219.trans (congrArg some (by kernel_rfl))⟩
 f25 := ⟨Tryz.f220.name, by decide, Tryz.func220.trans (congrArg some (by kernel_rfl))⟩
 f26 := ⟨Tryz.f221.name, by decide, Tryz.func221.trans (congrArg some (by kernel_rfl))⟩
 f27 := ⟨Tryz.f222.name, by decide, Tryz.func222.trans (congrArg some (by kernel_rfl))⟩
 f28 := Tryz.func223.trans (congrArg some (by kernel_rfl))
 f29 := Tryz.func224.trans (congrArg some (by kernel_rfl))
 f46 := ⟨Tryz.f229.name, by decide, Tryz.func229.trans (congrArg some (by kernel_rfl))⟩
 f47 := Tryz.func230.trans (congrArg some (by kernel_rfl))
 f48 := Tryz.func231.trans (congrArg some (by kernel_rfl))
 f49 := ⟨Tryz.f232.name, by decide, Tryz.func232.trans (congrArg some (by kernel_rfl))⟩
 f50 := ⟨Tryz.f233.name, by decide, Tryz.func233.trans (congrArg some (by kernel_rfl))⟩
 f57 := ⟨Tryz.f242.name, by decide, Tryz.func242.trans (congrArg some (by kernel_rfl))⟩
 t0 := Tryz.underlying0
 a0 := Tryz.isAgg0
 z0 := Tryz.sizeOf0
 v0 := Tryz.zeroValue0
 t3 := Tryz.underlying3
 a3 := Tryz.isAgg3
 z3 := Tryz.sizeOf3
 v3 := Tryz.zeroValue3
 t4 := Tryz.underlying4
 a4 := Tryz.isAgg4
 z4 := Tryz.sizeOf4
 v4 := Tryz.zeroValue4
 t5 := Tryz.underlying5
 a5 := Tryz.isAgg5
 z5 := Tryz.sizeOf5
 v5 := Tryz.zeroValue5
 t9 := Tryz.underlying9
 a9 := Tryz.isAgg9
 z9 := Tryz.sizeOf9
 v9 := Tryz.zeroValue9
 t22 := Tryz.underlying22
 a22 := Tryz.isAgg22
 z22 := Tryz.sizeOf22
 v22 := Tryz.zeroValue22
 t25 := Tryz.underlying182
 a25 := Tryz.isAgg182
 z25 := Tryz.sizeOf182
 v25 := Tryz.zeroValue182
 t39 := Tryz.underlying244
 a39 := Tryz.isAgg244
 z39 := Tryz.sizeOf244
 v39 := Tryz.zeroValue244
 t45 := Tryz.underlying254
 a45 := Tryz.isAgg254
 z45 := Tryz.sizeOf254
 v45 := Tryz.zeroValue254
 t46 := Tryz.underlying255
 a46 := Tryz.isAgg255
 z46 := Tryz.sizeOf255
 v46 := Tryz.zeroValue255
 t50 := Tryz.underlying259
 a50 := Tryz.isAgg259
 z50 := Tryz.sizeOf259
 v50 := Tryz.zeroValue259
 t53 := Tryz.underlying262
 a53 := Tryz.isAgg262
 z53 := Tryz.sizeOf262
 v53 := Tryz.zeroValue262
 t55 := Tryz.underlying169
 a55 := Tryz.isAgg169
 z55 := Tryz.sizeOf169
 v55 := Tryz.zeroValue169
 t66 := Tryz.underlying269
 a66 := Tryz.isAgg269
 z66 := Tryz.sizeOf269
 v66 := Tryz.zeroValue269
 t70 := Tryz.underlying273
 a70 := Tryz.isAgg273
 z70 := Tryz.sizeOf273
 v70 := Tryz.zeroValue273
 t76 := Tryz.underlying283
 a76 := Tryz.isAgg283
 z76 := Tryz.sizeOf283
 v76 := Tryz.zeroValue283
 t77 := Tryz.underlying214
 a77 := Tryz.isAgg214
 z77 := Tryz.sizeOf214
 v77 := Tryz.zeroValue214 }
end Go.Proofs
namespace Go.Proofs.YtanhnllkccldhaaGreat
set_option linter.unusedVariables false
set_option linter.unusedSimpArgs false
set_option maxRecDepth 100000
section
open Go.RowKit Go.Proofs.YtanhnllkccldhaaGreat.Eng Enc Go.Shelf Go.Sort
namespace Zo
instance inhZn : Inhabited Zn := ⟨⟨0, 0, 0, 0, 0, 0⟩⟩
def Lt (x y : Zn) : Prop := x.a < y.a \/ x.a = y.a /\ (x.b < y.b \/ x.b = y.b /\ (x.c < y.c \/ x.c = y.c /\ (x.d < y.d \/ x.d = y.d /\ (x.e < y.e \/ x.e = y.e /\ (x.f < y.f \/ x.f = y.f /\ False)))))
theorem cmpI_lt (x y : Int) : cmpI x y < 0 ↔ x < y := by unfold cmpI; split <;> (try split) <;> omega
theorem cmpI_eq (x y : Int) : cmpI x y = 0 ↔ x = y := by unfold cmpI; split <;> (try split) <;> omega
theorem step_lt {x y c : Int} {P : Prop} (h : c < 0 ↔ P) : (if cmpI x y ≠ 0 then cmpI x y else c) < 0 ↔ (x < y \/ x = y /\ P) := by
 have h1 := cmpI_lt x y;have h2 := cmpI_eq x y
 by_cases hc : cmpI x y = 0
 ·rw [if_neg (by simp [hc]), h]
  have := h2.1 hc;constructor
  ·intro hp; exact .inr ⟨this, hp⟩
  ·rintro (hl | ⟨_, hp⟩)
   ·omega
   ·exact hp
 ·rw [if_pos hc, h1]
  constructor
  ·exact .inl
  ·rintro (hl | ⟨he, _⟩)
   ·exact hl
   ·exact absurd (h2.2 he) hc
theorem cmp_lt (x y : Zn) : cmp x y < 0 ↔ Lt x y := by
 unfold cmp Lt;exact step_lt (step_lt (step_lt (step_lt (step_lt (step_lt (by simp))))))
theorem lex_trans {x y z : Int} {P Q R : Prop} (h : P -> Q -> R) : (x < y \/ x = y /\ P) -> (y < z \/ y = z /\ Q) -> (x < z \/ x = z /\ R) := by
 rintro (h1 | ⟨h1, hp⟩) (h2 | ⟨h2, hq⟩)
 ·left; omega
 ·left; omega
 ·left; omega
 ·right; exact ⟨by omega, h hp hq⟩
theorem lex_ntrans {x y z : Int} {P Q R : Prop} (h : ¬ P -> ¬ Q -> ¬ R) : ¬ (x < y \/ x = y /\ P) -> ¬ (y < z \/ y = z /\ Q) -> ¬ (x < z \/ x = z /\ R) := by
 intro h1 h2;have a1 : ¬ x < y := fun h => h1 (.inl h);have a2 : ¬ y < z := fun h => h2 (.inl h);rintro (h3 | ⟨h3, hr⟩)
 ·omega
 ·have e1 : x = y := by omega
  have e2 : y = z := by omega
  exact h (fun hp => h1 (.inr ⟨e1, hp⟩)) (fun hq => h2 (.inr ⟨e2, hq⟩)) hr
theorem lex_tot {x y : Int} {P Q E : Prop} (h : ¬ P -> ¬ Q -> E) : ¬ (x < y \/ x = y /\ P) -> ¬ (y < x \/ y = x /\ Q) -> x = y /\ E := by
 intro h1 h2;have a1 : ¬ x < y := fun h => h1 (.inl h);have a2 : ¬ y < x := fun h => h2 (.inl h);have e1 : x = y := by omega
 exact ⟨e1, h (fun hp => h1 (.inr ⟨e1, hp⟩)) (fun hq => h2 (.inr ⟨e1.symm, hq⟩))⟩
theorem Lt.irrefl (x : Zn) : ¬ Lt x x := by unfold Lt; simp
theorem Lt.trans {x y z : Zn} : Lt x y -> Lt y z -> Lt x z := by
 unfold Lt;exact lex_trans (lex_trans (lex_trans (lex_trans (lex_trans (lex_trans fun h _ => h)))))
theorem Lt.ntrans {x y z : Zn} : ¬ Lt x y -> ¬ Lt y z -> ¬ Lt x z := by
 unfold Lt;exact lex_ntrans (lex_ntrans (lex_ntrans (lex_ntrans (lex_ntrans (lex_ntrans fun h _ => h)))))
theorem Lt.tot {x y : Zn} (h1 : ¬ Lt x y) (h2 : ¬ Lt y x) : x = y := by
 unfold Lt at h1 h2;obtain ⟨e1, e2, e3, e4, e5, e6, _⟩ := lex_tot (lex_tot (lex_tot (lex_tot (lex_tot (lex_tot (E := True) fun _ _ => trivial))))) h1 h2;cases x; cases y; simp_all
theorem lt_iff (x y : Zn) : ltOf cmp x y = true ↔ Lt x y := by unfold ltOf; simp [cmp_lt]
theorem lt_niff (x y : Zn) : ltOf cmp x y = false ↔ ¬ Lt x y := by unfold ltOf; simp [<- cmp_lt]
theorem swo : SWO (ltOf cmp) where
 irrefl x := (lt_niff x x).2 (Lt.irrefl x)
 trans x y z h1 h2 := (lt_iff x z).2 (((lt_iff x y).1 h1).trans ((lt_iff y z).1 h2))
 ntrans x y z h1 h2 := (lt_niff x z).2 (Lt.ntrans ((lt_niff x y).1 h1) ((lt_niff y z).1 h2))
theorem tot (x y : Zn) (h1 : ltOf cmp x y = false) (h2 : ltOf cmp y x = false) : x = y := Lt.tot ((lt_niff x y).1 h1) ((lt_niff y x).1 h2)
def sort (l : List Zn) : List Zn := l.mergeSort fun x y => !(ltOf cmp) y x
theorem sort_len (l : List Zn) : (sort l).length = l.length := List.length_mergeSort _
theorem sort_perm (l : List Zn) : (sort l).Perm l := List.mergeSort_perm l _
theorem sort_sorted (l : List Zn) : (sort l).Pairwise fun x y => ¬ Lt y x := by
 have h := List.pairwise_mergeSort (le := fun x y => !(ltOf cmp) y x) (fun x y z h1 h2 => by
  simp only [Bool.not_eq_eq_eq_not, Bool.not_true] at *;exact (lt_niff z x).2 (Lt.ntrans ((lt_niff z y).1 h2) ((lt_niff y x).1 h1))) (fun x y => by
  simp only [Bool.or_eq_true, Bool.not_eq_eq_eq_not, Bool.not_true]
  by_cases h : Lt y x
  ·exact .inr ((lt_niff x y).2 fun k => Lt.irrefl _ (h.trans k))
  ·exact .inl ((lt_niff y x).2 h)) l
 refine h.imp fun {x y} hxy => ?_;simp only [Bool.not_eq_eq_eq_not, Bool.not_true] at hxy;exact (lt_niff y x).1 hxy
end Zo
theorem zcmpLays (blk off size : Nat) (w : World) : CmpLays Tryz.prog 140 #[] (Enc.enc (α := Zn)) 6 Zo.cmp blk off size w := fun m os dk _ x y => by
 refine (zcmp_at x y (sortWorldK Enc.enc 6 w blk off m dk os)).mono ?_;rintro e w' ⟨rfl, q, os', rfl⟩;exact ⟨rfl, q, os', rfl⟩
theorem flat_list {α : Type} [Enc α] [Inhabited α] (l : List α) : (flatK Enc.enc (size α) l.toArray).toList = cellsL l := by
 have h1 : (flatK (Enc.enc (α := α)) (size α) l.toArray).size = l.length * size α := by simp
 apply List.ext_getElem?;intro t
 by_cases ht : t < l.length * size α
 ·have hp : 0 < size α := Enc.pos
  have hd : t / size α < l.length := (Nat.div_lt_iff_lt_mul hp).2 ht;have hm : t % size α < size α := Nat.mod_lt _ hp;have h2 := get_flatK (Enc.enc (α := α)) (size α) l.toArray t (by simpa using ht);rw [getElem!_pos _ t (by rw [h1]; exact ht)] at h2;rw [Array.getElem?_toList, Array.getElem?_eq_getElem (by rw [h1]; exact ht), h2];have e1 : l.toArray[t / size α]! = l[t / size α] := by rw [getElem!_pos _ _ (by simpa using hd)]; simp
  rw [e1];have hc := cellsL_get l (List.getElem?_eq_getElem hd) (i := t % size α) (c := (Enc.enc l[t / size α])[t % size α]!) (by rw [getElem!_pos _ _ (by rw [Enc.len]; exact hm)]; exact List.getElem?_eq_getElem _);rw [<- hc]
  congr 1
  rw [Nat.mul_comm]; exact Nat.div_add_mod t (size α)
 ·rw [List.getElem?_eq_none (by rw [Array.length_toList, h1]; omega), List.getElem?_eq_none (by rw [cellsL_len]; omega)]
theorem heap_sortedA {w : World} {g n : Nat} {os : Array Obj} {cur : Array Value} {e : TypeId} {fr : Nat × Nat} (d : Array Value) (hb : w.heap[g]? = some (.cells cur e fr)) :
 (grow (putRow id (Sort.ahead w n) g 0 d) os).heap[g]? = some (.cells (putCells id 0 d cur) e fr) := by
 have hg : g < w.heap.size := (Array.getElem?_eq_some_iff.1 hb).1;rw [heap_grow_old _ _ (by simpa using hg)];simp [putRow, mapBlock, Sort.ahead, Array.getElem?_modify, hb, onCells]
theorem grownBy_sortedA {w : World} {g n : Nat} {os : Array Obj} (d : Array Value) : w.grownBy (grow (putRow id (Sort.ahead w n) g 0 d) os) (some g) := by
 refine ⟨rfl, rfl, rfl, by simp, fun k hk hne => ?_⟩;rw [heap_grow_old _ _ (by simpa using hk)];have : g ≠ k := fun e => hne (by rw [e]);simp [putRow, mapBlock, Sort.ahead, Array.getElem?_modify, this]
theorem take_putCellsA (cur d : Array Value) (h : d.size <= cur.size) : (putCells id 0 d cur).toList.take d.size = d.toList := by
 apply List.ext_getElem?;intro j
 by_cases hj : j < d.size
 ·rw [List.getElem?_take_of_lt hj, Array.getElem?_toList]
  simp [putCells, hj, show j < cur.size by omega]
 ·rw [List.getElem?_take_eq_none (by omega), List.getElem?_eq_none (by simp; omega)]
theorem holds_flat {w : World} {g : Nat} {cur d : Array Value} {e : TypeId} (hb : w.heap[g]? = some (.cells cur e (0, 0))) (ht : cur.toList.take d.size = d.toList) : Holds id w g 0 d := by
 intro j hj;refine ⟨?_, by simp [World.frozen?, hb]⟩;have h1 : (cur.toList.take d.size)[j]? = d.toList[j]? := by rw [ht]
 rw [List.getElem?_take_of_lt hj] at h1;simp only [World.cell?, hb, Nat.zero_add];simp only [Option.isSome_none, Bool.false_eq_true, if_false];rw [<- Array.getElem?_toList, h1];simp [hj]
theorem sortZ_own (base : Nat) (v : Value) (l : List Zn) (hl : l.length <= 1000000) (w : World) (hO : Own 86 base w v l) :
 Calls Tryz.prog 181 #[v, .func (.func 140) #[] #[]] w fun e w' => e = .returned (.tuple #[]) /\ Own 86 base w' v (Zo.sort l) /\ w.grownBy w' v.ownBlock := by
 obtain ⟨hc, ⟨rfl, h0⟩ | ⟨g, cap, cur, rfl, hb, hg, hn, hm, hs, ht⟩⟩ := id hO
 ·obtain rfl := List.eq_nil_of_length_eq_zero h0
  refine (AnyF.slices_SortFunc_none Tryz.sortZ none 0 _ w).mono ?_;rintro e w' ⟨rfl, rfl⟩;exact ⟨rfl, by rw [show Zo.sort [] = [] by simp [Zo.sort]]; exact hO, rfl, rfl, rfl, Nat.le_refl _, fun _ _ _ => rfl⟩
 ·have hf := flat_list l
  have hfs : (flatK (Enc.enc (α := Zn)) 6 l.toArray).size = l.length * 6 := by simp
  have hH : HoldsK (Enc.enc (α := Zn)) 6 w g 0 l.toArray := holds_flat hg (by rw [hfs]; exact ht.trans hf.symm);refine (AnyQ.slices_SortFunc_total Tryz.sortZ 6 Tryz.isAgg86 Tryz.sizeOf86 (Enc.enc (α := Zn)) (fun x => rfl) (fun x v hv => Enc.one x v hv) Zo.cmp Zo.swo 140 #[] g 0 cap l.toArray w Tryz.call140 (zcmpLays g 0 _ w) hH (Array.getElem?_eq_some_iff.1 hg).1 (by simp; omega) Zo.tot).mono ?_;rintro e w' ⟨rfl, n, os, rfl⟩;have hlen : (Zo.sort l).length = l.length := Zo.sort_len l;refine ⟨rfl, ?_, grownBy_sortedA _⟩;have hf2 := flat_list (Zo.sort l);have hfs2 : (flatK (Enc.enc (α := Zn)) 6 (Zo.sort l).toArray).size = l.length * 6 := by simp [hlen]
  have hsz : cur.size = cap * 6 := hs;refine ⟨by rw [cellsL_len, hlen], .inr ⟨g, cap, _, by rw [hlen], hb, heap_sortedA _ hg, by rw [hlen]; exact hn, hm, ?_, ?_⟩⟩
  ·rw [show size Zn = 6 from rfl, <- hsz]; simp [putCells]
  ·rw [hlen, <- hf2]
   have h6 := take_putCellsA cur (flatK (Enc.enc (α := Zn)) 6 (Zo.sort l).toArray) (by rw [hfs2, hsz]; omega);rw [hfs2] at h6;exact h6
theorem sortedZ_any (Bs : Nat) (a : Option Addr) (cap : Nat) (zs : List Zn) (hlen : zs.length <= 1000000) (w : World) (hc : w.cell? ⟨Bs, 0, none⟩ = some (.slice a zs.length cap)) (hS : Sl w.heap.size w (.slice a zs.length cap) zs) :
 Calls Tryz.prog 138 #[.func (.func 182) #[] #[.pointer (some ⟨Bs, 0, none⟩)], .func (.func 140) #[] #[]] w fun e w' => ∃ v, e = .returned v /\ Below Bs w w' /\ Own 86 w.heap.size w' v (Zo.sort zs) := by
 have hBs : Bs < w.heap.size := World.block_lt_of_cell? _ _ hc;refine fun_at 0 Bs w (Nat.le_of_lt hBs) Tryz.func138 (args := [.val (.func (.func 182) #[] #[.pointer (some ⟨Bs, 0, none⟩)]), .val (.func (.func 140) #[] #[])]) rfl rfl ?_;refine CallI.mk fun w1 h1 => ?_;have hg1 : Below w.heap.size w w1 := h1.go;refine (collectZ_any Bs a cap zs hlen w1 ((hg1.cell (p := ⟨Bs, 0, none⟩) hBs).trans hc) (hS.go hg1 hg1.size)).mono ?_;rintro e w2 ⟨v, rfl, hB2, hO⟩;refine ⟨⟨hB2, by simp⟩, _, rfl, ?_⟩;obtain ⟨a', c', rfl⟩ := hO.form;refine CallI.mk fun w3 h3 => (sortZ_own w1.heap.size _ zs hlen w3 (hO.at h3 (by simp))).mono ?_;rintro e w4 ⟨rfl, hO4, hg⟩;have hlen2 : (Zo.sort zs).length = zs.length := Zo.sort_len zs;refine ⟨keep_grown h3 hg fun k hk => ⟨by have h5 := (hO.lt k hk).1; have := hg1.size; show Bs <= k; omega, by simp⟩, _, rfl, ?_⟩;exact EndI.mk fun w5 h5 => (hO4.at h5 (by simp)).lower hg1.size
end
section
namespace Cv
def cpt : List Zn -> List Zn
 | [] => []
 | x :: l => if l.head? = some x then cpt l else x :: cpt l
theorem cpt_cons (x : Zn) (l : List Zn) : cpt (x :: l) = if l.head? = some x then cpt l else x :: cpt l := rfl
theorem cpt_mem (l : List Zn) (x : Zn) : x ∈ cpt l ↔ x ∈ l := by
 induction l with
 | nil => simp [cpt]
 | cons y l ih =>
   rw [cpt_cons, List.mem_cons, <- ih];split
   ·rename_i h
    have hy : y ∈ l := List.mem_of_mem_head? (by rw [h]; rfl);constructor
    ·exact .inr
    ·rintro (rfl | h2)
     ·exact ih.2 hy
     ·exact h2
   ·rw [List.mem_cons]
theorem cpt_len (l : List Zn) : (cpt l).length <= l.length := by
 induction l with
 | nil => simp [cpt]
 | cons x l ih => rw [cpt_cons]; split <;> simp only [List.length_cons] <;> omega
theorem cpt_snoc (p : List Zn) (y x : Zn) : cpt (p ++ [y] ++ [x]) = if x = y then cpt (p ++ [y]) else cpt (p ++ [y]) ++ [x] := by
 induction p with
 | nil =>
   simp only [List.nil_append, List.cons_append, cpt_cons, List.head?_cons, List.head?_nil, Option.some.injEq]
   by_cases h : x = y
   ·subst h; simp [cpt]
   ·simp [h, cpt]
 | cons a p ih =>
   simp only [List.cons_append, cpt_cons];have hh : (p ++ [y] ++ [x]).head? = (p ++ [y]).head? := by cases p <;> rfl
   rw [hh, ih];split <;> split <;> simp_all
theorem cpt_step {l : List Zn} {k : Nat} {x y : Zn} (hy : l[k]? = some y) (hx : l[k + 1]? = some x) : cpt (l.take (k + 2)) = if x = y then cpt (l.take (k + 1)) else cpt (l.take (k + 1)) ++ [x] := by
 have e1 : l.take (k + 1) = l.take k ++ [y] := by rw [List.take_add_one, hy]; rfl
 have e2 : l.take (k + 2) = l.take k ++ [y] ++ [x] := by rw [show k + 2 = k + 1 + 1 from rfl, List.take_add_one, hx, e1]; rfl
 rw [e1, e2, cpt_snoc]
theorem cpt_all {l : List Zn} (h : ∀ k x y, l[k]? = some y -> l[k + 1]? = some x -> x ≠ y) : cpt l = l := by
 induction l with
 | nil => rfl
 | cons a l ih =>
   rw [cpt_cons, ih fun k x y hy hx => h (k + 1) x y hy hx];split
   ·rename_i hh
    cases l with
    | nil => cases hh
    | cons b l => simp at hh; exact absurd hh (h 0 b a rfl rfl)
   ·rfl
end Cv
end
section
open Go.RowKit Go.Proofs.YtanhnllkccldhaaGreat.Eng Enc
namespace Cv
open Mi Zo
theorem cpt_strict {l : List Zn} (h : l.Pairwise fun x y => ¬ Lt y x) : (cpt l).Pairwise Lt := by
 induction l with
 | nil => simp [cpt]
 | cons x l ih =>
   rw [List.pairwise_cons] at h;have h2 := ih h.2;rw [cpt_cons];split
   ·exact h2
   ·rename_i hne
    rw [List.pairwise_cons];refine ⟨fun z hz => ?_, h2⟩;have hz' := (cpt_mem l z).1 hz;cases l with
    | nil => simp at hz'
    | cons y m =>
      have hyx : y ≠ x := fun e => hne (by simp [e]);have hxy : Lt x y := by
       have h3 := h.1 y (by simp);apply Classical.byContradiction;intro h4;exact hyx (Lt.tot h3 h4)
      rcases List.mem_cons.1 hz' with rfl | hz'
      ·exact hxy
      ·have h5 := (List.pairwise_cons.1 h.2).1 z hz'
       apply Classical.byContradiction;intro h6;exact Lt.ntrans h6 h5 hxy
theorem strict_eq : ∀ {l m : List Zn}, l.Pairwise Lt -> m.Pairwise Lt -> (∀ x, x ∈ l ↔ x ∈ m) -> l = m
 | [], [], _, _, _ => rfl
 | [], y :: m, _, _, h => by have := (h y).2 (by simp); simp at this
 | x :: l, [], _, _, h => by have := (h x).1 (by simp); simp at this
 | x :: l, y :: m, hl, hm, h => by
   rw [List.pairwise_cons] at hl hm;have e : x = y := by
    rcases List.mem_cons.1 ((h x).1 (by simp)) with e | hx
    ·exact e
    ·rcases List.mem_cons.1 ((h y).2 (by simp)) with e | hy
     ·exact e.symm
     ·exact absurd ((hl.1 y hy).trans (hm.1 x hx)) (Lt.irrefl x)
   subst e
   congr 1
   refine strict_eq hl.2 hm.2 fun z => ?_;constructor
   ·intro hz
    rcases List.mem_cons.1 ((h z).1 (by simp [hz])) with rfl | hz'
    ·exact absurd (hl.1 z hz) (Lt.irrefl z)
    ·exact hz'
   ·intro hz
    rcases List.mem_cons.1 ((h z).2 (by simp [hz])) with rfl | hz'
    ·exact absurd (hm.1 z hz) (Lt.irrefl z)
    ·exact hz'
def sorted (l : List Zn) : List Zn := cpt (sort l)
theorem sorted_strict (l : List Zn) : (sorted l).Pairwise Lt := cpt_strict (sort_sorted l)
theorem sorted_mem (l : List Zn) (x : Zn) : x ∈ sorted l ↔ x ∈ l := (cpt_mem _ x).trans (sort_perm l).mem_iff
theorem sorted_self {l : List Zn} (h : l.Pairwise Lt) : sorted l = l := strict_eq (sorted_strict l) h (sorted_mem l)
theorem sorted_len (l : List Zn) : (sorted l).length <= l.length := by
 have := cpt_len (sort l); rw [sort_len] at this; exact this
def pgo : Nat -> List Zn -> List Zn × Int
 | 0, out => (out, 0)
 | i + 1, out => match out[i]? with
   | none => (out, 0)
   | some z => if (in_ z (out.eraseIdx i)).2 ≠ 0 then ([], (in_ z (out.eraseIdx i)).2) else if (in_ z (out.eraseIdx i)).1 = true then pgo i (out.eraseIdx i) else pgo i out
theorem pgo_succ {i : Nat} {out : List Zn} {z : Zn} (h : out[i]? = some z) : pgo (i + 1) out = if (in_ z (out.eraseIdx i)).2 ≠ 0 then ([], (in_ z (out.eraseIdx i)).2) else if (in_ z (out.eraseIdx i)).1 = true then pgo i (out.eraseIdx i) else pgo i out := by
 rw [pgo, h]
def prune (l : List Zn) : List Zn × Int := if checked [l] ≠ 0 then ([], checked [l]) else pgo (sorted l).length (sorted l)
def Bare (n : Nat) (out : List Zn) : Prop := ∀ j z, n <= j -> out[j]? = some z -> ¬ Cov z (out.eraseIdx j)
theorem mem_erase {l : List Zn} {i : Nat} {x : Zn} : x ∈ l.eraseIdx i ↔ ∃ j, j ≠ i /\ l[j]? = some x := by
 rw [List.mem_eraseIdx_iff_getElem?]
theorem pgo_ok {n : Nat} : ∀ {out : List Zn}, n <= out.length -> (pgo n out).2 = 0 -> Bare n out -> (∀ z, z ∈ out -> Zo.chk z = 0) -> (pgo n out).1.Sublist out /\ Bare 0 (pgo n out).1 /\ ∀ t, (∃ b, b ∈ out /\ Fz b t) -> ∃ b, b ∈ (pgo n out).1 /\ Fz b t := by
 induction n with
 | zero => intro out _ _ hb _; exact ⟨List.Sublist.refl _, hb, fun t h => h⟩
 | succ i ih =>
   intro out hn h hb hc;have ho := List.getElem?_eq_getElem (l := out) (i := i) (by omega);generalize out[i] = z at ho;rw [pgo_succ ho] at h ⊢
   by_cases h1 : (in_ z (out.eraseIdx i)).2 ≠ 0
   ·rw [if_pos h1] at h; exact absurd h h1
   rw [if_neg h1] at h ⊢;obtain ⟨_, _, hcov⟩ := in_ok (z := z) (l := out.eraseIdx i) (by simpa using h1)
   by_cases h2 : (in_ z (out.eraseIdx i)).1 = true
   ·rw [if_pos h2] at h ⊢
    have hsub := List.eraseIdx_sublist out i;have hbare : Bare i (out.eraseIdx i) := fun j x hj hx hcv => by
     have hx' : out[j + 1]? = some x := by
      rw [List.getElem?_eraseIdx] at hx
      rwa [if_neg (by omega)] at hx
     refine hb (j + 1) x (by omega) hx' (hcv.mono fun y hy => ?_);obtain ⟨q, hq, hqy⟩ := mem_erase.1 hy;rw [List.getElem?_eraseIdx] at hqy;split at hqy
     ·exact mem_erase.2 ⟨q, by omega, hqy⟩
     ·exact mem_erase.2 ⟨q + 1, by omega, hqy⟩
    obtain ⟨k1, k2, k3⟩ := ih (out := out.eraseIdx i) (by rw [List.length_eraseIdx]; split <;> omega) h hbare (fun x hx => hc x (hsub.mem hx));refine ⟨k1.trans hsub, k2, fun t ht => k3 t ?_⟩;obtain ⟨b, hb1, hb2⟩ := ht;obtain ⟨j, hj⟩ := List.mem_iff_getElem?.1 hb1
    by_cases hji : j = i
    ·subst hji
     rw [ho] at hj; injection hj with hj; subst hj;exact hcov.1 h2 t hb2
    ·exact ⟨b, mem_erase.2 ⟨j, hji, hj⟩, hb2⟩
   ·rw [if_neg h2] at h ⊢
    refine ih (by omega) h (fun j x hj hx => ?_) hc
    by_cases hji : j = i
    ·subst hji
     rw [ho] at hx; injection hx with hx; subst hx;exact fun hcv => h2 (hcov.2 hcv)
    ·exact hb j x (by omega) hx
theorem pgo_self {n : Nat} : ∀ {out : List Zn}, n <= out.length -> (pgo n out).2 = 0 -> Bare 0 out -> pgo n out = (out, 0) := by
 induction n with
 | zero => intro out _ _ _; rfl
 | succ i ih =>
   intro out hn h hb;have ho := List.getElem?_eq_getElem (l := out) (i := i) (by omega);generalize out[i] = z at ho;rw [pgo_succ ho] at h ⊢
   by_cases h1 : (in_ z (out.eraseIdx i)).2 ≠ 0
   ·rw [if_pos h1] at h; exact absurd h h1
   rw [if_neg h1] at h ⊢;obtain ⟨_, _, hcov⟩ := in_ok (z := z) (l := out.eraseIdx i) (by simpa using h1);have h2 : ¬ (in_ z (out.eraseIdx i)).1 = true := fun h2 => hb i z (Nat.zero_le _) ho (hcov.1 h2);rw [if_neg h2] at h ⊢;exact ih (by omega) h hb
theorem checked_one {l : List Zn} : checked [l] = 0 ↔ l.length <= 4096 /\ ∀ z, z ∈ l -> Zo.chk z = 0 := by
 unfold checked;simp only [List.any_cons, List.any_nil, Bool.or_false, decide_eq_true_eq]
 by_cases h1 : 4096 < l.length
 ·rw [if_pos h1]; constructor
  ·intro h; cases h
  ·intro h; omega
 ·rw [if_neg h1]
  by_cases h2 : l.any odd = true
  ·rw [if_pos h2]
   constructor
   ·intro h; cases h
   ·intro h
    obtain ⟨z, hz, ho⟩ := List.any_eq_true.1 h2;simp [odd, h.2 z hz] at ho
  ·rw [if_neg h2]
   refine ⟨fun _ => ⟨by omega, fun z hz => ?_⟩, fun _ => rfl⟩;apply Classical.byContradiction;intro h3;exact h2 (List.any_eq_true.2 ⟨z, hz, by simpa [odd] using h3⟩)
structure Wanted (l m : List Zn) : Prop where
 chk : ∀ z, z ∈ l -> Zo.chk z = 0
 len : l.length <= 4096
 mem : ∀ z, z ∈ m -> z ∈ l
 strict : m.Pairwise Lt
 bare : Bare 0 m
 pts : ∀ t, (∃ b, b ∈ l /\ Fz b t) ↔ ∃ b, b ∈ m /\ Fz b t
 mlen : m.length <= l.length
theorem prune_ok {l : List Zn} (h : (prune l).2 = 0) : Wanted l (prune l).1 := by
 unfold prune at h ⊢
 by_cases h1 : checked [l] ≠ 0
 ·rw [if_pos h1] at h; exact absurd h h1
 rw [if_neg h1] at h ⊢;obtain ⟨hl, hc⟩ := checked_one.1 (by simpa using h1);obtain ⟨k1, k2, k3⟩ := pgo_ok (Nat.le_refl _) h (fun j z hj hz => by have := (List.getElem?_eq_some_iff.1 hz).1; omega) (fun z hz => hc z ((sorted_mem l z).1 hz));have hmem : ∀ z, z ∈ (pgo (sorted l).length (sorted l)).1 -> z ∈ l := fun z hz => (sorted_mem l z).1 (k1.mem hz);refine ⟨hc, hl, hmem, (sorted_strict l).sublist k1, k2, fun t => ⟨fun ⟨b, hb, hbt⟩ => k3 t ⟨b, (sorted_mem l b).2 hb, hbt⟩, fun ⟨b, hb, hbt⟩ => ⟨b, hmem b hb, hbt⟩⟩, Nat.le_trans k1.length_le (sorted_len l)⟩
theorem Wanted.again {l m : List Zn} (h : Wanted l m) (h2 : (prune m).2 = 0) : (prune m).1 = m := by
 unfold prune at h2 ⊢
 by_cases h1 : checked [m] ≠ 0
 ·rw [if_pos h1] at h2; exact absurd h2 h1
 rw [if_neg h1] at h2 ⊢;rw [sorted_self h.strict] at h2 ⊢;rw [pgo_self (Nat.le_refl _) h2 h.bare]
end Cv
theorem equalZ (d : Nat) (x y : Zn) (w : World) : (Op.equalIn (d + 1 + 1) 86 (.agg #[.int .i64 x.a, .int .i64 x.b, .int .i64 x.c, .int .i64 x.d, .int .i64 x.e, .int .i64 x.f]) (.agg #[.int .i64 y.a, .int .i64 y.b, .int .i64 y.c, .int .i64 y.d, .int .i64 y.e, .int .i64 y.f])).run Tryz.prog w = .ok (decide (x = y)) w := by
 have hu := Tryz.underlying86;have hb := Tryz.underlying84;have hs := Tryz.sizeOf84;have ha := Tryz.isAgg84;rw [Op.equalIn];simp only [Sem.run_bind, run_underlying hu, Result.andThen_ok, hs];have hpart : ∀ (vs : Array Value) (k : Nat) (v : Value), vs[k]? = some v -> (part 84 vs k).run Tryz.prog w = .ok v w := fun vs k v h => by
  simp [part, Sem.run_bind, ha, hs, Result.andThen_ok, h]
 have he : ∀ a b : Int, (Op.equalIn (d + 1) 84 (.int .i64 a) (.int .i64 b)).run Tryz.prog w = .ok (a == b) w := fun a b => run_equalIn_int w d _ _ _ a b hb;rw [Std.Legacy.Range.forIn_eq_forIn_range'];simp [Std.Legacy.Range.size, List.range', Sem.run_bind, hpart, he, Result.andThen_ok];have hxy : x = y ↔ (x.a = y.a /\ x.b = y.b /\ x.c = y.c /\ x.d = y.d /\ x.e = y.e /\ x.f = y.f) := by
  cases x; cases y; simp
 simp only [hxy]
 repeat' split
 all_goals simp_all
theorem run_eql_zn (x y : Zn) (w : World) : (binOp .eql 86 (.agg #[.int .i64 x.a, .int .i64 x.b, .int .i64 x.c, .int .i64 x.d, .int .i64 x.e, .int .i64 x.f]) (.agg #[.int .i64 y.a, .int .i64 y.b, .int .i64 y.c, .int .i64 y.d, .int .i64 y.e, .int .i64 y.f])).run Tryz.prog w = .ok (.bool (decide (x = y))) w := by
 rw [run_eql_struct, show (10000 : Nat) = 9998 + 1 + 1 from rfl, equalZ]; rfl
theorem run_neq_zn (x y : Zn) (w : World) : (binOp .neq 86 (.agg #[.int .i64 x.a, .int .i64 x.b, .int .i64 x.c, .int .i64 x.d, .int .i64 x.e, .int .i64 x.f]) (.agg #[.int .i64 y.a, .int .i64 y.b, .int .i64 y.c, .int .i64 y.d, .int .i64 y.e, .int .i64 y.f])).run Tryz.prog w = .ok (.bool (decide (x ≠ y))) w := by
 rw [run_neq_struct, show (10000 : Nat) = 9998 + 1 + 1 from rfl, equalZ];simp [Result.andThen]
theorem run_eql_znG (p q : Operand) (x y : Zn) (w : World) : (do eqGuard .eql 86 p q (.agg #[.int .i64 x.a, .int .i64 x.b, .int .i64 x.c, .int .i64 x.d, .int .i64 x.e, .int .i64 x.f]) (.agg #[.int .i64 y.a, .int .i64 y.b, .int .i64 y.c, .int .i64 y.d, .int .i64 y.e, .int .i64 y.f]); binOp .eql 86 (.agg #[.int .i64 x.a, .int .i64 x.b, .int .i64 x.c, .int .i64 x.d, .int .i64 x.e, .int .i64 x.f]) (.agg #[.int .i64 y.a, .int .i64 y.b, .int .i64 y.c, .int .i64 y.d, .int .i64 y.e, .int .i64 y.f]) : Sem Value).run Tryz.prog w = .ok (.bool (decide (x = y))) w := by
 have hg : (eqGuard .eql 86 p q (.agg #[.int .i64 x.a, .int .i64 x.b, .int .i64 x.c, .int .i64 x.d, .int .i64 x.e, .int .i64 x.f]) (.agg #[.int .i64 y.a, .int .i64 y.b, .int .i64 y.c, .int .i64 y.d, .int .i64 y.e, .int .i64 y.f])).run Tryz.prog w = .ok () w := run_eqGuard_agg _ _ _ _ _ _ _ (by kernel_rfl);rw [Sem.run_bind, hg];exact run_eql_zn x y w
theorem run_neq_znG (p q : Operand) (x y : Zn) (w : World) : (do eqGuard .neq 86 p q (.agg #[.int .i64 x.a, .int .i64 x.b, .int .i64 x.c, .int .i64 x.d, .int .i64 x.e, .int .i64 x.f]) (.agg #[.int .i64 y.a, .int .i64 y.b, .int .i64 y.c, .int .i64 y.d, .int .i64 y.e, .int .i64 y.f]); binOp .neq 86 (.agg #[.int .i64 x.a, .int .i64 x.b, .int .i64 x.c, .int .i64 x.d, .int .i64 x.e, .int .i64 x.f]) (.agg #[.int .i64 y.a, .int .i64 y.b, .int .i64 y.c, .int .i64 y.d, .int .i64 y.e, .int .i64 y.f]) : Sem Value).run Tryz.prog w = .ok (.bool (decide (x ≠ y))) w := by
 have hg : (eqGuard .neq 86 p q (.agg #[.int .i64 x.a, .int .i64 x.b, .int .i64 x.c, .int .i64 x.d, .int .i64 x.e, .int .i64 x.f]) (.agg #[.int .i64 y.a, .int .i64 y.b, .int .i64 y.c, .int .i64 y.d, .int .i64 y.e, .int .i64 y.f])).run Tryz.prog w = .ok () w := run_eqGuard_agg _ _ _ _ _ _ _ (by kernel_rfl);rw [Sem.run_bind, hg];exact run_neq_zn x y w
theorem elDZ : ElOk Tryz.prog 22 86 6 48 := elOk (z := .agg #[.int .i64 0, .int .i64 0, .int .i64 0, .int .i64 0, .int .i64 0, .int .i64 0]) Tryz.underlying22 (by kernel_rfl) rfl (by decide)
theorem tyDZ : TyOk Tryz.prog 86 ⟨[.int .i64 0, .int .i64 0, .int .i64 0, .int .i64 0, .int .i64 0, .int .i64 0], true⟩ := tyOk_agg Tryz.zeroValue86 Tryz.sizeOf86 Tryz.isAgg86 rfl
theorem deleteZ_any (l : List Zn) (g cap base i j : Nat) (e0 : TypeId) (he : e0 = 86) (hij : i < j) (hj : j <= l.length) (B : Nat) (w : World) (hB : B <= w.heap.size) (hg : B <= g) (hO : Own e0 base w (.slice (some ⟨g, 0, none⟩) l.length cap) l) (hlen : l.length <= 1000000) :
 Calls Tryz.prog 141 #[.slice (some ⟨g, 0, none⟩) l.length cap, .int .i64 i, .int .i64 j] w fun e w' => ∃ v, e = .returned v /\ Below B w w' /\ v = .slice (some ⟨g, 0, none⟩) (i + (l.length - j)) cap /\ Own e0 base w' (.slice (some ⟨g, 0, none⟩) (i + (l.length - j)) cap) (l.take i ++ l.drop j) /\ w.grownBy w' (some g) := by
 subst he;obtain ⟨_, hbg, hgl, cur0, _, hcap, hmax, _, _⟩ := hO.at0;have hm : cap <= 9223372036854775807 := by unfold maxLen at hmax; omega
 refine fun_at 0 B w hB Tryz.func141 (args := [.val (.slice (some ⟨g, 0, none⟩) l.length cap), .val (.int .i64 i), .val (.int .i64 j)]) rfl rfl ?_;refine Need.mk ⟨by omega, by omega, by omega, by omega⟩ ?_;refine Branch.no (by simp; omega) ?_;refine DrawI.wr (.tk 0 (.tk 1 (.tk 2 (.tk 3 (.tk 4 (.tk 5 (.ev 6 (.tk 7 .done)))))))) [] [g] (by kernel_rfl) rfl (fun _ h => by cases h) fun w1 h1 => ?_;refine Need.mk ⟨by omega, by omega, by omega⟩ ?_;refine Need.mk ⟨by omega, by omega, by omega⟩ ?_;have hdl : (l.drop j).length = l.length - j := by simp
 have hil : (l.take i).length = i := by simp; omega
 refine GenN.mk fun w2 h2 => ?_;have k2 := h1.go.trans (h2.go.mono h1.size);have hO2 : Own 86 base w2 (.slice (some ⟨g, 0, none⟩) l.length cap) l := hO.below k2;have hT := hO2.take i (by omega);have hs0 := (hO2.sl).sub j l.length hj (Nat.le_refl _);rw [List.take_of_length_le (by simp)] at hs0;obtain ⟨hl, hs⟩ := hs0.src
 have happ : ∃ w', (Builtin.append_ #[22, 22] 22 #[.slice (some ⟨g, 0, none⟩) i cap, .slice (if cap = j then some ⟨g, 0, none⟩ else (some (⟨g, 0, none⟩ : Addr)).map (·.add (j * size Zn))) (l.length - j) (cap - j)]).run Tryz.prog w2 = .ok (.slice (some ⟨g, 0, none⟩) (i + (l.length - j)) cap) w' /\
  Own 86 base w' (.slice (some ⟨g, 0, none⟩) (i + (l.length - j)) cap) (l.take i ++ l.drop j) /\ w2.grownBy w' (some g) := by
  obtain ⟨ht, ⟨inf, z, hi, hz, hss, hb, hzs⟩, hp⟩ := elDZ;have hown : w2.ownsRow base 86 (size Zn) (.slice (some ⟨g, 0, none⟩) i cap) i (cellsL (l.take i)) := by have := hT; unfold Own at this; rwa [hil] at this
  rcases hs with ⟨e0, hm0⟩ | ⟨ad, c, e0, hc⟩
  ·split at e0 <;> simp at e0
  ·rw [e0]
   rw [hdl] at hl ⊢;obtain ⟨w', a1, a2, a3⟩ := run_append_fits (P := Tryz.prog) w2 base 22 22 86 inf (size Zn) ht hi hss g i cap (cellsL (l.take i)) hown ad (l.length - j) c (cellsL (l.drop j)) hl hc (cellsL_one _) (by omega);refine ⟨w', a1, ?_, a3⟩;unfold Own;rw [cellsL_append, List.length_append, hil, hdl]; exact a2
 obtain ⟨w3, hr3, hO3, hg3⟩ := happ;refine ⟨.slice (some ⟨g, 0, none⟩) (i + (l.length - j)) cap, w3, ?_, kpD_grown h2 hg3 (fun k hk => by injection hk with hk; subst hk; exact ⟨hg, by simp, .inl (by simp [locs])⟩), ?_⟩
 ·exact run_value hr3
 have hnl : (l.take i ++ l.drop j).length = i + (l.length - j) := by rw [List.length_append, hil, hdl]
 refine Need.mk ⟨by omega, by omega, by omega⟩ ?_;refine GenN.mk fun w4 h4 => ?_;have hO4 := hO3.below h4.go;have g4 : w.grownBy w4 (some g) := grown_below (grown_trans (grown_below (grown_refl w (some g)) k2) hg3) h4.go;obtain ⟨_, _, hgl4, cur, hc4, _, _, hs4, _⟩ := hO4.at0;have hlo : i + (l.length - j) < l.length := by omega
 have hroom : (i + (l.length - j)) * size Zn + (j - i) * size Zn <= cur.size := by
  rw [hs4, <- Nat.add_mul]; exact Nat.mul_le_mul_right _ (by omega)
 obtain ⟨vs, hvl, hrun⟩ := run_clear (P := Tryz.prog) (c := cap - (i + (l.length - j))) elDZ.ht tyDZ (by decide) (o := (i + (l.length - j)) * size Zn) (n := j - i) hc4 hroom (by omega);have hvl' : vs.length = (j - i) * size Zn := hvl;refine ⟨_, _, hrun _ _ _ ?_, ⟨below_setRow (Below.refl _ _) hg _, fun b hb => by cases hb⟩, ?_⟩
 ·show Value.slice (if cap = _ then _ else _) _ _ = _
  rw [if_neg (by simp only [Int.toNat_natCast]; omega)];simp only [Int.toNat_natCast, Option.map_some, addr_addL, Nat.zero_add, Value.slice.injEq, true_and];exact ⟨rfl, by omega, trivial⟩
 refine EndI.mk fun w5 h5 => ?_;refine ⟨rfl, (hO4.setRow hc4 _ vs (by rw [hnl]; exact Nat.le_refl _) (by rw [hvl']; exact hroom)).below h5.go, ?_⟩;exact grown_below (grown_trans g4 (grown_setRow w4 g _)) h5.go
end
end Go.Proofs.YtanhnllkccldhaaGreat
