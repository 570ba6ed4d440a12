/-
  Merged texts of this law (each with its own head below).
-/
import Derived.Test.YtjbhpfmnfdebkaaGreatLCloseLeast6
import Derived.Test.YtjbhpfmnfdebkaaGreatLCloseLeast4
import Derived.Test.YtjbhpfmnfdebkaaGreatLCloseLeast5
import Derived.Test.YtjbhpfmnfdebkaaGreatLCloseLeast3
/-
  Chains of matches: what may be handed in, and what one more round comes to.
-/
namespace Go.Proofs.YtjbhpfmnfdebkaaGreat
set_option linter.unusedVariables false
set_option linter.unusedSimpArgs false
set_option maxRecDepth 100000
open Go.RowKit Go.Proofs.YtjbhpfmnfdebkaaGreat.Eng Enc

namespace Cl
/-- a zone with pairs that are no matches. -/
def oddZ (z : Zn) : Bool := decide (1 < z.b) || decide (0 < z.f)
def odd (l : List Zn) : Bool := l.any oddZ
/-- the error of lists and caps. -/
def chk (old part : List Zn) (cz cr : Int) : Int :=
  if ¬ (1 ≤ cz ∧ cz ≤ 4096) ∨ ¬ (1 ≤ cr ∧ cr ≤ 4096) then 2 else if Zs.check old ≠ 0 ∨ Zs.check part ≠ 0 ∨ odd old = true ∨ odd part = true then 8 else 0
/-- a list, with what another one makes with the part; and that. -/
def longer (l by_ part : List Zn) (cz : Int) : List Zn × List Zn × Int :=
  if (Zs.comp by_ part).2 ≠ 0 ∨ cz < ((Zs.comp by_ part).1.length : Int) then ([], [], 300)
  else if (Zs.or l (Zs.comp by_ part).1).2 ≠ 0 ∨ cz < ((Zs.or l (Zs.comp by_ part).1).1.length : Int) then ([], [], 300)
  else ((Zs.or l (Zs.comp by_ part).1).1, (Zs.comp by_ part).1, 0)
end Cl
theorem codd1_any (z : Zn) (w : World) : Calls Tryz.prog 246 #[.agg #[.int .i64 z.a, .int .i64 z.b, .int .i64 z.c, .int .i64 z.d, .int .i64 z.e, .int .i64 z.f]] w fun e w' => e = .returned (.bool (Cl.oddZ z)) ∧ Below w.heap.size w w' := by
  refine fun_eq 0 w Tryz.func246 (args := [.agg [.val (.int .i64 z.a), .val (.int .i64 z.b), .val (.int .i64 z.c), .val (.int .i64 z.d), .val (.int .i64 z.e), .val (.int .i64 z.f)]]) rfl rfl ?_
  refine NewI.mk fun b1 hb1 => ?_
  unfold Cl.oddZ
  refine Need.mk ⟨by decide, by decide⟩ ?_
  refine Branch.mk (fun h => ?_) (fun h => ?_)
  · exact EndI.mk fun w9 h9 => by rw [h]; rfl
  · refine Need.mk ⟨by decide, by decide⟩ ?_
    exact EndI.mk fun w9 h9 => by rw [h]; rfl
theorem clodd_any (l : List Zn) (a : Option Addr) (cap : Nat) (w : World) (hS : Sl w.heap.size w (.slice a l.length cap) l) : Calls Tryz.prog 184 #[.slice a l.length cap] w fun e w' => e = .returned (.bool (Cl.odd l)) ∧ Below w.heap.size w w' := by
  refine fun_eq 0 w Tryz.func184 (args := [.val (.slice a l.length cap)]) rfl rfl ?_
  apply CallI.use1
  focus (exact fun w3 h3 => containsZ_pure l Cl.oddZ a cap 246 #[] w3 (Sl.at h3 hS) Tryz.call246 fun x W hx _ => codd1_any x W)
  intro w3 v3 h3 hB3
  exact EndI.mk fun w9 h9 => rfl
theorem cbetween_any (n m : Int) (w : World) : Calls Tryz.prog 182 #[.int .i64 n, .int .i64 m] w fun e w' => e = .returned (.bool (decide (1 ≤ n ∧ n ≤ m))) ∧ Below w.heap.size w w' := by
  refine fun_eq 0 w Tryz.func182 (args := [.val (.int .i64 n), .val (.int .i64 m)]) rfl rfl ?_
  refine Branch.mk (fun h => ?_) (fun h => ?_)
  · have h1 : 1 ≤ n := of_decide_eq_true h
    exact EndI.mk fun w9 h9 => by congr 1; rw [decide_eq_decide]; omega
  · have h1 : ¬ 1 ≤ n := of_decide_eq_false h
    exact EndI.mk fun w9 h9 => by rw [decide_eq_false (by omega)]
theorem cchecked_any (old part : List Zn) (cz cr : Int) (ao ap : Option Addr) (co cp : Nat) (w : World) (hO : Sl w.heap.size w (.slice ao old.length co) old) (hP : Sl w.heap.size w (.slice ap part.length cp) part) :
    Calls Tryz.prog 111 #[.slice ao old.length co, .slice ap part.length cp, .agg #[.int .i64 cz, .int .i64 cr]] w fun e w' => e = .returned (.int .i64 (Cl.chk old part cz cr)) ∧ Below w.heap.size w w' := by
  refine fun_eq 0 w Tryz.func111 (args := [.val (.slice ao old.length co), .val (.slice ap part.length cp), .agg [.val (.int .i64 cz), .val (.int .i64 cr)]]) rfl rfl ?_
  have st := Stay.first (w := w)
  refine NewI.mk fun b1 hb1 => ?_
  unfold Cl.chk
  apply CallI.use1
  focus (exact fun w2 h2 => cbetween_any cz 4096 w2)
  intro w2 v2 h2 hB2
  have st := st.next h2 (fun x hx => by simp at hx <;> omega) hB2
  by_cases h1 : 1 ≤ cz ∧ cz ≤ 4096
  case neg =>
    rw [if_pos (.inl h1)]
    refine Branch.yes (by rw [decide_eq_false h1]; rfl) ?_
    exact EndI.mk fun w9 h9 => rfl
  refine Branch.no (by rw [decide_eq_true h1]; rfl) ?_
  apply CallI.use1
  focus (exact fun w3 h3 => cbetween_any cr 4096 w3)
  intro w3 v3 h3 hB3
  have st := st.next h3 (fun x hx => by simp at hx <;> omega) hB3
  by_cases h2 : 1 ≤ cr ∧ cr ≤ 4096
  case neg =>
    rw [if_pos (.inr h2)]
    refine Branch.yes (by rw [decide_eq_false h2]; rfl) ?_
    exact EndI.mk fun w9 h9 => rfl
  refine Branch.no (by rw [decide_eq_true h2]; rfl) ?_
  rw [if_neg (fun h => h.elim (fun k => k h1) (fun k => k h2))]
  apply CallI.use1
  focus (exact fun w4 h4 => zscheck_any old ao co w4 (hO.st (st.at h4 (fun x hx => by simp at hx <;> omega))))
  intro w4 v4 h4 hB4
  have st := st.next h4 (fun x hx => by simp at hx <;> omega) hB4
  refine Branch.mk (fun h3 => ?_) (fun h3 => ?_)
  · rw [if_pos (.inl (of_decide_eq_true h3))]
    exact EndI.mk fun w9 h9 => rfl
  apply CallI.use1
  focus (exact fun w5 h5 => zscheck_any part ap cp w5 (hP.st (st.at h5 (fun x hx => by simp at hx <;> omega))))
  intro w5 v5 h5 hB5
  have st := st.next h5 (fun x hx => by simp at hx <;> omega) hB5
  refine Branch.mk (fun h4 => ?_) (fun h4 => ?_)
  · rw [if_pos (.inr (.inl (of_decide_eq_true h4)))]
    exact EndI.mk fun w9 h9 => rfl
  apply CallI.use1
  focus (exact fun w6 h6 => clodd_any old ao co w6 (hO.st (st.at h6 (fun x hx => by simp at hx <;> omega))))
  intro w6 v6 h6 hB6
  have st := st.next h6 (fun x hx => by simp at hx <;> omega) hB6
  refine Branch.mk (fun h5 => ?_) (fun h5 => ?_)
  · rw [if_pos (.inr (.inr (.inl h5)))]
    exact EndI.mk fun w9 h9 => rfl
  apply CallI.use1
  focus (exact fun w7 h7 => clodd_any part ap cp w7 (hP.st (st.at h7 (fun x hx => by simp at hx <;> omega))))
  intro w7 v7 h7 hB7
  have st := st.next h7 (fun x hx => by simp at hx <;> omega) hB7
  refine Branch.mk (fun h6 => ?_) (fun h6 => ?_)
  · rw [if_pos (.inr (.inr (.inr h6)))]
    exact EndI.mk fun w9 h9 => rfl
  rw [if_neg (fun h => by
    have h3 := of_decide_eq_false h3
    have h4 := of_decide_eq_false h4
    rcases h with h | h | h | h
    · exact h3 h
    · exact h4 h
    · rw [h5] at h; cases h
    · rw [h6] at h; cases h)]
  exact EndI.mk fun w9 h9 => rfl
theorem clonger_any (l by_ part : List Zn) (cz : Int) (al ab ap : Option Addr) (cl cb cp : Nat) (w : World) (hL : Sl w.heap.size w (.slice al l.length cl) l) (hB : Sl w.heap.size w (.slice ab by_.length cb) by_) (hP : Sl w.heap.size w (.slice ap part.length cp) part) :
    Calls Tryz.prog 186 #[.slice al l.length cl, .slice ab by_.length cb, .slice ap part.length cp, .int .i64 cz] w (Ret w fun v w' => ∃ a1 c1 a2 c2, v = .tuple #[.slice a1 (Cl.longer l by_ part cz).1.length c1, .slice a2 (Cl.longer l by_ part cz).2.1.length c2, .int .i64 (Cl.longer l by_ part cz).2.2] ∧
      Own TZ w.heap.size w' (.slice a1 (Cl.longer l by_ part cz).1.length c1) (Cl.longer l by_ part cz).1 ∧ Own TZ w.heap.size w' (.slice a2 (Cl.longer l by_ part cz).2.1.length c2) (Cl.longer l by_ part cz).2.1) := by
  refine fun_ret 0 w Tryz.func186 (args := [.val (.slice al l.length cl), .val (.slice ab by_.length cb), .val (.slice ap part.length cp), .val (.int .i64 cz)]) rfl rfl ?_
  have st := Stay.first (w := w)
  unfold Cl.longer
  apply CallI.use
  focus (exact fun w2 h2 => zscomp_any by_ part ab ap cb cp w2 (hB.st (st.at h2 (fun x hx => by simp at hx <;> omega))) (hP.st (st.at h2 (fun x hx => by simp at hx <;> omega))))
  rintro v w2 v2 h2 hB2 ⟨a2, c2, rfl, hO2⟩
  have st := st.next h2 (fun x hx => by simp at hx <;> omega) hB2
  refine Branch.mk (fun z1 => ?_) (fun z1 => ?_)
  · rw [if_pos (.inl (of_decide_eq_true z1))]
    exact EndI.mk fun w9 h9 => ⟨_, _, _, _, rfl, Own.nil, Own.nil⟩
  have z1' := of_decide_eq_false z1
  refine Branch.mk (fun z2 => ?_) (fun z2 => ?_)
  · rw [if_pos (.inr (of_decide_eq_true z2))]
    exact EndI.mk fun w9 h9 => ⟨_, _, _, _, rfl, Own.nil, Own.nil⟩
  have z2' := of_decide_eq_false z2
  rw [if_neg (fun h => h.elim z1' z2')]
  apply CallI.use
  focus (exact fun w3 h3 => zsor_any l (Zs.comp by_ part).1 al a2 cl c2 w3 (hL.st (st.at h3 (fun x hx => by simp at hx <;> omega))) ((hO2.st (st.at h3 (fun x hx => by simp at hx <;> omega))).sl))
  rintro v w3 v3 h3 hB3 ⟨a3, c3, rfl, hO3⟩
  have st := st.next h3 (fun x hx => by simp at hx <;> omega) hB3
  refine Branch.mk (fun z3 => ?_) (fun z3 => ?_)
  · rw [if_pos (.inl (of_decide_eq_true z3))]
    exact EndI.mk fun w9 h9 => ⟨_, _, _, _, rfl, Own.nil, Own.nil⟩
  have z3' := of_decide_eq_false z3
  refine Branch.mk (fun z4 => ?_) (fun z4 => ?_)
  · rw [if_pos (.inr (of_decide_eq_true z4))]
    exact EndI.mk fun w9 h9 => ⟨_, _, _, _, rfl, Own.nil, Own.nil⟩
  have z4' := of_decide_eq_false z4
  rw [if_neg (fun h => h.elim z3' z4')]
  exact EndI.mk fun w9 h9 => ⟨_, _, _, _, rfl, (hO3.lower h3.below.size).below (at_belowM h9 (by simp)), ((hO2.st st).lower h2.below.size).below (at_belowM h9 (by simp))⟩
end Go.Proofs.YtjbhpfmnfdebkaaGreat

/-
  Ranges over functions whose iterator tells, with each thing that it yields, what the world shows of it.
-/
namespace Go.Proofs.YtjbhpfmnfdebkaaGreat.Eng
set_option linter.unusedVariables false
set_option linter.unusedSimpArgs false
open Go Go.RowKit Go.Shelf Go.Proofs

/-- an iterator's contract: it may turn block Bx, and lay blocks; what it is asked of, J, stays through that. -/
def SeqStopsV {α : Type} (n : Nat) (P : Program) (g : Nat) (lb : Array Value) (encs : α → Array Value) (V : α → World → Prop) (Kp : World → World → Prop) (S Sp : List α → Prop) (N Bx n₀ : Nat) (w : World) : Prop :=
  ∀ (l : Nat) (J Jx : List α → World → Prop) (W : World), Below w.heap.size w W → (∀ pre A B, J pre A → A.grownBy B (some Bx) → J pre B) → (∀ pre A B, Jx pre A → A.grownBy B none → Jx pre B) →
    (∀ pre x W1, J pre W1 → V x W1 → pre.length < N → YieldAt Fence.wide (n - 1) P l (encs x) W1 fun e W' => (e = .returned (.bool true) ∧ J (pre ++ [x]) W' ∧ Kp W1 W') ∨ (e = .returned (.bool false) ∧ Jx (pre ++ [x]) W' ∧ Below n₀ W1 W')) →
    J [] W → CallsIn Fence.wide n P g (#[.func (.yield l) #[] #[]] ++ lb) W fun e W' => (∃ v, e = .returned v) ∧ ((∃ xs, S xs ∧ J xs W') ∨ (∃ pre, Sp pre ∧ Jx pre W'))

theorem range_lawV {n : Nat} {P : Program} {α : Type} {g : Operand} {ps : Array Tmp} {x y : Code} {Q : Exit → Act → World → Prop} {a : Act} {w : World} (h1 : 1 ≤ n) {gf : Nat} {lb : Array Value}
    (hg : a.eval g = .func (.func gf) #[] lb) (eg : ∀ args w, (callFunc gf args).run P w = .ok (.enter gf args) w) {encs : α → Array Value} {Kp : World → World → Prop} {S Sp : List α → Prop} {N Bx n₀ : Nat}
    {V : α → World → Prop} (hseq : SeqStopsV (n - 1) P gf lb encs V Kp S Sp N Bx n₀ w) (hBx : Bx < w.heap.size) (hKt : ∀ {A B C : World}, Kp A B → Kp B C → Kp A C)
    (hKb : ∀ (W : World) (l : Nat) (o o' : Obj), w.heap.size ≤ l → W.heap[l]? = some o → o.isCells = false → o.isWalk = false → Kp W (W.putObj l o')) (hps : ∀ z, (encs z).size = ps.size)
    (I : List α → World → Prop) (Ix : Code → List α → World → Prop) (Ax : List α → α → Act → World → Prop) (hI : ∀ pre A B row, I pre A → A.grownBy B row → RowB w.heap.size Bx A row → I pre B) (hIx : ∀ c, OwnFrom w.heap.size (Ix c))
    (hAx : ∀ pre z a', OwnFrom w.heap.size (fun (_ : Unit) W => Ax pre z a' W)) (h0 : I [] w) (hIB : ∀ pre A, I pre A → Below n₀ w A) (hIxB : ∀ c pre A, Ix c pre A → Below n₀ w A)
    (hassign : ∀ (l : Nat) (pre : List α) (z : α) (W : World), I pre W → V z W → pre.length < N →
      x.wpIn (Fence.wide.inRound l) (n - 1 - 1) P (fun e a' W' => e = .normal ∧ KeepsFrom w.heap.size W W' ∧ Kp W W' ∧ I pre W' ∧ Ax pre z a' W') { tmps := (ps.zip (encs z)).foldl (fun t (p, v) => t.setIfInBounds p v) a.tmps, defers := [] } W)
    (hbody : ∀ (l : Nat) (pre : List α) (z : α) (a' : Act) (W : World), I pre W → Ax pre z a' W → pre.length < N → y.wpIn (Fence.wide.inRound l) (n - 1 - 1) P (ownPostG w.heap.size Kp I Ix (pre ++ [z]) W) a' W)
    (hdone : ∀ (D : Nat) (xs : List α) (W : World), w.heap.size ≤ D → S xs → I xs W → W.heap[D]? = some (.deferred (some [])) → Q .normal { a with defers := { target := .collected D, args := #[] } :: a.defers } W)
    (hstop : ∀ (D : Nat) (c : Code) (pre : List α) (W : World), w.heap.size ≤ D → Sp pre → Ix c pre W → W.heap[D]? = some (.deferred (some [])) → c.wpIn Fence.wide n P Q { a with defers := { target := .collected D, args := #[] } :: a.defers } W) :
    (Code.rangeFunc g ps x y).wpIn Fence.wide n P Q a w := by
  refine wpIn_rangeFunc fun fn hfn => ?_
  have hro : Fence.wide.round = none := rfl
  rw [hro]
  let lp : LoopState → Option Code → Loop := fun st pe => { state := st, pending := pe, fn, tmps := a.tmps, params := ps, assign := x, body := y, defers := w.heap.size }
  have two : Kept2 w.heap.size (lp .ready none) ((w.alloc (.deferred (some []))).alloc (.loop (lp .ready none))) := by
    constructor
    · have := World.alloc_heap_new (w.alloc (.deferred (some []))) (.loop (lp .ready none))
      rwa [World.size_alloc] at this
    · exact (Below.heap_alloc _ _ _ (by simp)).trans (World.alloc_heap_new w _)
  have g1 : w.grownBy (w.alloc (.deferred (some []))) none := World.grownBy_alloc w _ none
  have g2 : (w.alloc (.deferred (some []))).grownBy ((w.alloc (.deferred (some []))).alloc (.loop (lp .ready none))) none := World.grownBy_alloc _ _ none
  have hI1 : I [] ((w.alloc (.deferred (some []))).alloc (.loop (lp .ready none))) := hI _ _ _ none (hI _ _ _ none h0 g1 (fun r e => nomatch e)) g2 (fun r e => nomatch e)
  have hb1 : Below w.heap.size w ((w.alloc (.deferred (some []))).alloc (.loop (lp .ready none))) := (((Below.refl _ w).alloc (Nat.le_refl _) _).alloc (by simp) _)
  have hent : (Instr.enterLoop fn a.tmps ps x y none).run P w = .ok (w.heap.size + 1, [{ target := .collected w.heap.size, args := #[] }]) ((w.alloc (.deferred (some []))).alloc (.loop (lp .ready none))) := run_enterLoop_outer _ _ _ _ _
  generalize (w.alloc (.deferred (some []))).alloc (.loop (lp .ready none)) = W1 at *
  refine ⟨w.heap.size + 1, [{ target := .collected w.heap.size, args := #[] }], W1, { target := .fn (.func gf) lb, args := #[.func (.yield (w.heap.size + 1)) #[] #[]] }, W1, gf,
    #[.func (.yield (w.heap.size + 1)) #[] #[]] ++ lb, W1, hent, by simp only [resolve, hg]; simp [go_sem], fun f' _ => trivial, by simp [invoke, go_sem, eg], fun _ => h1, ?_⟩
  have hS1 : W1.heap.size ≥ w.heap.size := hb1.size
  refine (hseq (w.heap.size + 1) (fun pre W => I pre W ∧ Kept2 w.heap.size (lp .ready none) W) (fun pre W => ∃ c, Ix c pre W ∧ Kept2 w.heap.size (lp .done (some c)) W) W1 hb1
    (fun pre A C h hgr => ⟨hI _ _ _ _ h.1 hgr (fun r e => .inl (by injection e with e; exact e.symm)), h.2.turn hgr (fun r e => by injection e with e; omega)⟩)
    (fun pre A C h hgr => by obtain ⟨c, hc, hk⟩ := h; exact ⟨c, hIx c _ _ _ _ hc hgr (fun r e => nomatch e), hk.turn hgr (fun r e => nomatch e)⟩) ?_ ⟨hI1, two⟩).mono ?_
  · -- a round
    rintro pre z W ⟨hi, hk⟩ hvz hlen
    refine ⟨fn, _, x, y, run_yield (P := P) (args := encs z) hk.1 (hps z), roundIn_of_wpIn hfn (wpIn_mono (hassign (w.heap.size + 1) pre z W hi hvz hlen) ?_)⟩
    rintro e a' Wa ⟨rfl, kf, kp, hia, hax⟩
    have hka := hk.from kf
    refine ⟨_, run_beginRound hka.1 rfl, ?_⟩
    have hkb := hka.put { lp .ready none with state := .busy }
    have rowL : ∀ {A : World} {o : Loop}, Kept2 w.heap.size o A → RowB w.heap.size Bx A (some (w.heap.size + 1)) := fun {A} {o} h r e => .inr (by injection e with e; subst e; exact ⟨by omega, _, h.1, rfl⟩)
    have own : ∀ {A : World} {o : Loop}, Kept2 w.heap.size o A → ∀ r, some (w.heap.size + 1) = some r → w.heap.size ≤ r ∧ ∃ o' : Obj, A.heap[r]? = some o' ∧ o'.isCells = false := fun {A} {o} h r e => by injection e with e; subst e; exact ⟨by omega, _, h.1, rfl⟩
    have kpb : Kp Wa (Wa.putObj (w.heap.size + 1) (.loop { lp .ready none with state := .busy })) := hKb _ _ _ _ (by omega) hka.1 rfl rfl
    refine wpIn_mono (hbody (w.heap.size + 1) pre z a' _ (hI _ _ _ _ hia (grownBy_putObj' _ _ _) (rowL hka)) (hAx pre z a' () _ _ _ hax (grownBy_putObj' _ _ _) (own hka)) hlen) ?_
    intro e a3 W3 hp
    have fin : ∀ (jump : Option Code), KeepsFrom w.heap.size (Wa.putObj (w.heap.size + 1) (.loop { lp .ready none with state := .busy })) W3 →
        (Instr.endRound (w.heap.size + 1) jump).run P W3 = .ok (.bool jump.isNone) (W3.putObj (w.heap.size + 1) (.loop (lp (if jump.isNone then .ready else .done) jump))) ∧ Kept2 w.heap.size { lp .ready none with state := .busy } W3 := fun jump k3 => by
      have h3 := hkb.from k3
      exact ⟨run_endRound (P := P) jump h3.1, h3⟩
    have bel : ∀ (jump : Option Code) {c : Code}, Ix c (pre ++ [z]) W3 → Kept2 w.heap.size { lp .ready none with state := .busy } W3 → KeepsFrom w.heap.size (Wa.putObj (w.heap.size + 1) (.loop { lp .ready none with state := .busy })) W3 →
        Below n₀ W (W3.putObj (w.heap.size + 1) (.loop (lp (if jump.isNone then .ready else .done) jump))) := fun jump {c} i3 h3 k3 =>
      below_between (hIB _ _ hi) (hIxB _ _ _ (hIx c _ _ _ _ i3 (grownBy_putObj' _ _ _) (own h3))) (by
        have := k3.size
        have := kf.size
        simp only [World.putObj_size] at *
        omega)
    cases e with
    | normal =>
      obtain ⟨k3, p3, i3⟩ := hp
      obtain ⟨hr, h3⟩ := fin none k3
      exact ⟨_, _, hr, .inl ⟨rfl, ⟨hI _ _ _ _ i3 (grownBy_putObj' _ _ _) (rowL h3), h3.put _⟩, hKt kp (hKt (hKt kpb p3) (hKb _ _ _ _ (by omega) h3.1 rfl rfl))⟩⟩
    | ret =>
      obtain ⟨k3, i3⟩ := hp
      obtain ⟨hr, h3⟩ := fin (some .ret) k3
      exact ⟨_, _, hr, .inr ⟨rfl, ⟨.ret, hIx _ _ _ _ _ i3 (grownBy_putObj' _ _ _) (own h3), h3.put _⟩, bel _ i3 h3 k3⟩⟩
    | exit id =>
      obtain ⟨k3, i3⟩ := hp
      obtain ⟨hr, h3⟩ := fin (some (.exit id)) k3
      exact ⟨_, _, hr, .inr ⟨rfl, ⟨.exit id, hIx _ _ _ _ _ i3 (grownBy_putObj' _ _ _) (own h3), h3.put _⟩, bel _ i3 h3 k3⟩⟩
    | goto t =>
      obtain ⟨k3, i3⟩ := hp
      obtain ⟨hr, h3⟩ := fin (some (.goto t)) k3
      exact ⟨_, _, hr, .inr ⟨rfl, ⟨.goto t, hIx _ _ _ _ _ i3 (grownBy_putObj' _ _ _) (own h3), h3.put _⟩, bel _ i3 h3 k3⟩⟩
    | panic ch => exact hp.elim
    | outgrown => exact hp.elim
  · -- behind the iterator
    rintro e W2 ⟨⟨v, rfl⟩, ⟨xs, hS, hi, hk⟩ | ⟨pre, hSp, c, hi, hk⟩⟩
    · have hput := hk.put (lp .ready none)
      exact ⟨none, _, run_endLoop (P := P) hk.1 (by simp [lp]), hdone _ xs _ (Nat.le_refl _) hS (hI _ _ _ _ hi (grownBy_putObj' _ _ _) (fun r e => .inr (by injection e with e; subst e; exact ⟨by omega, _, hk.1, rfl⟩))) ((World.putObj_heap_other (by omega)).trans hk.2)⟩
    · exact ⟨some c, _, run_endLoop (P := P) hk.1 (by simp [lp]), hstop _ c pre _ (Nat.le_refl _) hSp (hIx c _ _ _ _ hi (grownBy_putObj' _ _ _) (fun r e => by injection e with e; subst e; exact ⟨by omega, _, hk.1, rfl⟩)) ((World.putObj_heap_other (by omega)).trans hk.2)⟩

section
variable {cx : Cx} {w0 : Base}
/-- A RANGE OVER A FUNCTION whose iterator writes its own box; rounds take their variables into blocks of their own. -/
theorem rangeV (hcx : CxOk cx) {n : Nat} (h1 : 1 ≤ n) {s : St} {a : Act} {w : World} (hR : Rel w0 s a w) {g : Operand} {ps : Array Tmp} {x y : Code} {K : Exit → St → Prop} {gf : Nat} {lb : Array Value}
    (hg : ev s.fr g = .val (.func (.func gf) #[] lb)) (eg : Enters cx.P gf)
    {α : Type} {encs : α → List Value} {Kp : World → World → Prop} {S Sp : List α → Prop} {N Bx : Nat} {V : α → World → Prop} (hseq : SeqStopsV (n - 1) cx.P gf lb (fun x => (encs x).toArray) V Kp S Sp N Bx w0.B w) (hVo : ∀ z, OwnFrom w.heap.size (fun (_ : Unit) W => V z W)) (hBx : Bx < w.heap.size) (hBx0 : w0.B ≤ Bx) (hBxr : Bx ∉ s.r)
    (hKt : ∀ {A B C : World}, Kp A B → Kp B C → Kp A C) (hKb : ∀ (W : World) (l : Nat) (o o' : Obj), w.heap.size ≤ l → W.heap[l]? = some o → o.isCells = false → o.isWalk = false → Kp W (W.putObj l o'))
    (hps : ∀ x, (encs x).length = ps.size)
    {γ : Type} (hpf : γ → List LB) (Φ : List α → γ → World → Prop) (hΦ : ∀ c pre A B row, Φ pre c A → A.grownBy B row → RowB w.heap.size Bx A row → Φ pre c B) (c0 : γ) (hp0 : hpf c0 = s.hp) (hΦ0 : Φ [] c0 w)
    (Ix : Code → List α → γ → World → Prop) (hpx : Code → γ → List LB) (hIx : ∀ c q, OwnFrom w.heap.size (fun pre W => Ix c pre q W))
    (frx : α → Fr) (hpa : α → List LB) (Ψ : γ → List Nat → Prop)
    (hassign : ∀ l pre z c W, Φ pre c W → V z W → Below w0.B w0.W W → w.heap.size ≤ W.heap.size → pre.length < N → codeD (Fence.wide.inRound l) (n - 1 - 1) cx w0 x
      (fun e s' => e = .normal ∧ s'.on fun fr2 hp2 r2 L2 w2 df2 => ∃ bs, bs.length = (hpa z).length ∧ Ψ c bs ∧ Need (fr2 = frx z ∧ hp2 = hpf c ++ hpa z ∧ r2 = s.r ++ bs ∧ df2 = []) (EndI w0 hp2 r2 L2 w2 undef fun _ w1 => KeepsFrom w.heap.size W w1 ∧ Kp W w1 ∧ Φ pre c w1 ∧ V z w1)) ⟨setP s.fr ps.toList (encs z), hpf c, s.r, [], W, []⟩)
    (hbody : ∀ l pre x c bs W, bs.length = (hpa x).length → Ψ c bs → Φ pre c W → V x W → Below w0.B w0.W W → w.heap.size ≤ W.heap.size → pre.length < N → codeD (Fence.wide.inRound l) (n - 1 - 1) cx w0 y
      (fun e s' => match e with
        | .normal => s'.on fun fr2 hp2 r2 L2 w2 df2 => ∃ c', Need (CovH (hpf c') s.r ⟨fr2, hp2, r2, L2, w2, df2⟩) (EndI w0 hp2 r2 L2 w2 undef fun _ w1 => KeepsFrom w.heap.size W w1 ∧ Kp W w1 ∧ Φ (pre ++ [x]) c' w1)
        | .ret => s'.on fun fr2 hp2 r2 L2 w2 df2 => ∃ c', Need (CovH (hpx .ret c') s.r ⟨fr2, hp2, r2, L2, w2, df2⟩) (EndI w0 hp2 r2 L2 w2 undef fun _ w1 => KeepsFrom w.heap.size W w1 ∧ Ix .ret (pre ++ [x]) c' w1)
        | .exit id => s'.on fun fr2 hp2 r2 L2 w2 df2 => ∃ c', Need (CovH (hpx (.exit id) c') s.r ⟨fr2, hp2, r2, L2, w2, df2⟩) (EndI w0 hp2 r2 L2 w2 undef fun _ w1 => KeepsFrom w.heap.size W w1 ∧ Ix (.exit id) (pre ++ [x]) c' w1)
        | _ => False) ⟨frx x, hpf c ++ hpa x, s.r ++ bs, [], W, []⟩)
    (hdone : ∀ D xs c W, w.heap.size ≤ D → S xs → Φ xs c W → W.heap[D]? = some (.deferred (some [])) → K .normal ⟨s.fr, hpf c, s.r, [], W, { target := .collected D, args := #[] } :: s.df⟩)
    (hstop : ∀ D c e pre q W, w.heap.size ≤ D → Sp pre → Ix c pre q W → exitOf c = some e → W.heap[D]? = some (.deferred (some [])) → K e ⟨s.fr, hpx c q, s.r, [], W, { target := .collected D, args := #[] } :: s.df⟩) :
    (Code.rangeFunc g ps x y).wpIn Fence.wide n cx.P (fun e a' w' => ∃ s', Rel w0 s' a' w' ∧ K e s') a w := by
  have hev := hR.ev1 hg (by simp) []
  simp only [SV.den] at hev
  have hB : w0.B ≤ w.heap.size := Nat.le_trans w0.le hR.at_.below.size
  have withD : ∀ {hp : List LB} {W : World} (D : Nat), Rel w0 ⟨s.fr, hp, s.r, [], W, s.df⟩ a W → Rel w0 ⟨s.fr, hp, s.r, [], W, { target := .collected D, args := #[] } :: s.df⟩ { a with defers := { target := .collected D, args := #[] } :: a.defers } W := fun {hp} {W} D h =>
    ⟨congrArg (_ :: ·) h.df, h.fits, ⟨h.at_.below, h.at_.size, h.at_.step, h.at_.blk, h.at_.fresh, h.at_.lt, h.at_.base⟩, h.blk, h.nod, h.len⟩
  have inner : ∀ {hp : List LB} {W : World} {a' : Act} {fr : Fr}, Rel w0 ⟨s.fr, hp, s.r, [], W, s.df⟩ a W → a'.defers = [] → (∀ t, Fits (s.r ++ t) fr a'.tmps) → Rel w0 ⟨fr, hp, s.r, [], W, []⟩ a' W := fun {hp} {W} {a'} {fr} h hd hf =>
    ⟨hd, hf, ⟨h.at_.below, h.at_.size, h.at_.step, h.at_.blk, h.at_.fresh, h.at_.lt, h.at_.base⟩, h.blk, h.nod, h.len⟩
  have rowO : ∀ {A : World} {row : Option Nat}, (∀ r, row = some r → w.heap.size ≤ r ∧ ∃ o : Obj, A.heap[r]? = some o ∧ o.isCells = false) → RowB w.heap.size Bx A row := fun h r e => .inr (h r e)
  refine range_lawV h1 hev eg hseq hBx hKt hKb (fun z => by simp [hps]) (fun pre W => ∃ c, Rel w0 ⟨s.fr, hpf c, s.r, [], W, s.df⟩ a W ∧ w.heap.size ≤ W.heap.size ∧ Φ pre c W)
    (fun c pre W => (∃ e, exitOf c = some e) ∧ ∃ q, Rel w0 ⟨s.fr, hpx c q, s.r, [], W, s.df⟩ a W ∧ Ix c pre q W ∧ w.heap.size ≤ W.heap.size)
    (fun pre z a' W => V z W ∧ ∃ c bs, (bs.length = (hpa z).length ∧ Ψ c bs) ∧ Rel w0 ⟨s.fr, hpf c, s.r, [], W, s.df⟩ a W ∧ Rel w0 ⟨frx z, hpf c ++ hpa z, s.r ++ bs, [], W, []⟩ a' W ∧ w.heap.size ≤ W.heap.size ∧ Φ pre c W) ?_ ?_ ?_ ?_ (fun pre A ⟨c, hr, hs, hf⟩ => below_between hR.at_.below hr.at_.below hs) (fun c pre A ⟨_, q, hr, hx, hs⟩ => below_between hR.at_.below hr.at_.below hs) ?_ ?_ ?_ ?_
  · rintro pre A C row ⟨c, hr, hs, hf⟩ hgr hrow
    exact ⟨c, hr.keep (rel_turn hr hB hBx0 hBxr hgr hrow), Nat.le_trans hs hgr.size, hΦ c pre A C row hf hgr hrow⟩
  · rintro c pre A C row ⟨h0, q, hr, hx, hs⟩ hgr hrow
    exact ⟨h0, q, hr.keep (grown_keep hr hB hgr hrow), hIx c q pre A C row hx hgr hrow, Nat.le_trans hs hgr.size⟩
  · rintro pre z a' _ A C row ⟨hvz, c, bs, hl, hr, hr2, hs, hf⟩ hgr hrow
    exact ⟨hVo z () A C row hvz hgr hrow, c, bs, hl, hr.keep (grown_keep hr hB hgr hrow), hr2.keep (grown_keep hr2 hB hgr hrow), Nat.le_trans hs hgr.size, hΦ c pre A C row hf hgr (rowO hrow)⟩
  · refine ⟨c0, ?_, Nat.le_refl _, hΦ0⟩
    have h0 := hR.keep keep_refl
    rw [hp0]; exact h0
  · rintro l pre z W ⟨c, hr, hs, hf⟩ hvz hN
    have hr1 := rel_sets (w0 := w0) (s := ⟨s.fr, hpf c, s.r, [], W, []⟩) (a := ⟨a.tmps, []⟩) (inner hr rfl hr.fits) ps.toList (encs z)
    have e1 : (ps.zip (encs z).toArray).foldl (fun (t : Array Value) (x : Nat × Value) => t.setIfInBounds x.1 x.2) a.tmps = sets a.tmps ps.toList (encs z) := by
      rw [← sets_eq]
    show x.wpIn _ _ _ _ ({ tmps := (ps.zip (encs z).toArray).foldl (fun (t : Array Value) (x : Nat × Value) => t.setIfInBounds x.1 x.2) a.tmps, defers := [] } : Act) W
    rw [e1]
    refine codeD_round hcx l _ _ _ _ _ W _ (hassign l pre z c W hf hvz hr.at_.below hs hN) hr1 ?_
    rintro e s' a' W' ⟨rfl, hK⟩ hR'
    obtain ⟨fr2, hp2, r2, L2, w2, df2⟩ := s'
    rw [St.on_eq] at hK
    obtain ⟨bs, hl, hψ, ⟨e1, e2, e3, e4⟩, h2⟩ := hK
    simp only at e1 e2 e3 e4
    subst e1; subst e2; subst e3; subst e4
    obtain ⟨k1, k2, k3, k4⟩ := h2.h W' hR'.at_
    have hcov : Keep w0 s.r W W' := by
      refine ⟨?_, fun b hb => ?_⟩
      · exact ⟨hR'.at_.below.os.trans hr.at_.below.os.symm, hR'.at_.below.tape.trans hr.at_.below.tape.symm, hR'.at_.below.output.trans hr.at_.below.output.symm, k1.size, fun k hk => (hR'.at_.below.block k hk).trans (hr.at_.below.block k hk).symm⟩
      · obtain ⟨i, hi, hib⟩ := List.getElem_of_mem hb
        have hil : i < (hpf c).length := by have := hr.len; simp only at this; omega
        have g1 := hr.blk [] i b (hpf c)[i] (by show s.r[i]? = _; rw [List.getElem?_eq_getElem hi, hib]) (by show hget (hpf c) i = _; rw [hget_eq, List.getElem?_eq_getElem hil])
        have g2 := hR'.blk [] i b (hpf c)[i] (by show (s.r ++ bs)[i]? = _; rw [List.getElem?_append_left hi, List.getElem?_eq_getElem hi, hib]) (by show hget (hpf c ++ hpa z) i = _; rw [hget_eq, List.getElem?_append_left hil, List.getElem?_eq_getElem hil])
        have g3 := hr.blk bs i b (hpf c)[i] (by show s.r[i]? = _; rw [List.getElem?_eq_getElem hi, hib]) (by show hget (hpf c) i = _; rw [hget_eq, List.getElem?_eq_getElem hil])
        simp only [List.append_nil] at g1 g2
        rw [g2, ← g3]
    exact ⟨rfl, k1, k2, ⟨c, hr.keep hcov, Nat.le_trans hs k1.size, k3⟩, k4, c, bs, ⟨hl, hψ⟩, hr.keep hcov, hR'.keep keep_refl, Nat.le_trans hs k1.size, k3⟩
  · rintro l pre z a' W _ ⟨hvz, c, bs, hl, hr, hr2, hs, hf⟩ hN
    refine codeD_round hcx l _ y _ _ _ W _ (hbody l pre z c bs W hl.1 hl.2 hf hvz hr.at_.below hs hN) hr2 ?_
    intro e s' a2 w1 hK hR'
    cases e with
    | normal =>
      simp only [St.on_eq] at hK
      obtain ⟨c', h1, h2⟩ := hK
      obtain ⟨h3, h4, h5⟩ := h2.h w1 hR'.at_
      exact ⟨h3, h4, c', covH_rel (s := ⟨s.fr, hpf c, s.r, [], W, s.df⟩) hr hR' h1, Nat.le_trans hs h3.size, h5⟩
    | ret =>
      simp only [St.on_eq] at hK
      obtain ⟨c', h1, h2⟩ := hK
      obtain ⟨h3, h5⟩ := h2.h w1 hR'.at_
      exact ⟨h3, ⟨_, rfl⟩, c', covH_rel (s := ⟨s.fr, hpf c, s.r, [], W, s.df⟩) hr hR' h1, h5, Nat.le_trans hs h3.size⟩
    | exit id =>
      simp only [St.on_eq] at hK
      obtain ⟨c', h1, h2⟩ := hK
      obtain ⟨h3, h5⟩ := h2.h w1 hR'.at_
      exact ⟨h3, ⟨_, rfl⟩, c', covH_rel (s := ⟨s.fr, hpf c, s.r, [], W, s.df⟩) hr hR' h1, h5, Nat.le_trans hs h3.size⟩
    | goto l => exact hK.elim
    | panic ch => exact hK.elim
    | outgrown => exact hK.elim
  · rintro D xs W hD hS ⟨c, hr, hs, hf⟩ hd
    exact ⟨_, withD D hr, hdone D xs c W hD hS hf hd⟩
  · intro D c pre W hD hS hI hd
    obtain ⟨⟨e, he⟩, q, hRx, hix, hs⟩ := hI
    have hk := hstop D c e pre q W hD hS hix he hd
    cases c <;> simp only [exitOf] at he <;> try (cases he; done)
    · injection he with he; subst he; exact wpIn_exit ⟨_, withD D hRx, hk⟩
    · injection he with he; subst he; exact wpIn_ret ⟨_, withD D hRx, hk⟩
/-- the like where the frame that a round begins with is told by what its variables are. -/
theorem rangeVu (hcx : CxOk cx) {n : Nat} (h1 : 1 ≤ n) {s : St} {a : Act} {w : World} (hR : Rel w0 s a w) {g : Operand} {ps : Array Tmp} {x y : Code} {K : Exit → St → Prop} {gf : Nat} {lb : Array Value}
    (hg : ev s.fr g = .val (.func (.func gf) #[] lb)) (eg : Enters cx.P gf)
    {α : Type} {encs : α → List Value} {Kp : World → World → Prop} {S Sp : List α → Prop} {N Bx : Nat} {V : α → World → Prop} (hseq : SeqStopsV (n - 1) cx.P gf lb (fun x => (encs x).toArray) V Kp S Sp N Bx w0.B w) (hVo : ∀ z, OwnFrom w.heap.size (fun (_ : Unit) W => V z W)) (hBx : Bx < w.heap.size) (hBx0 : w0.B ≤ Bx) (hBxr : Bx ∉ s.r)
    (hKt : ∀ {A B C : World}, Kp A B → Kp B C → Kp A C) (hKb : ∀ (W : World) (l : Nat) (o o' : Obj), w.heap.size ≤ l → W.heap[l]? = some o → o.isCells = false → o.isWalk = false → Kp W (W.putObj l o'))
    (hps : ∀ x, (encs x).length = ps.size)
    {γ : Type} (hpf : γ → List LB) (Φ : List α → γ → World → Prop) (hΦ : ∀ c pre A B row, Φ pre c A → A.grownBy B row → RowB w.heap.size Bx A row → Φ pre c B) (c0 : γ) (hp0 : hpf c0 = s.hp) (hΦ0 : Φ [] c0 w)
    (Ix : Code → List α → γ → World → Prop) (hpx : Code → γ → List LB) (hIx : ∀ c q, OwnFrom w.heap.size (fun pre W => Ix c pre q W))
    (upd : α → List (Nat × SV)) (hpa : α → List LB) (Ψ : γ → List Nat → Prop)
    (hassign : ∀ l pre z c W, Φ pre c W → V z W → Below w0.B w0.W W → w.heap.size ≤ W.heap.size → pre.length < N → codeD (Fence.wide.inRound l) (n - 1 - 1) cx w0 x
      (fun e s' => e = .normal ∧ s'.on fun fr2 hp2 r2 L2 w2 df2 => ∃ bs, bs.length = (hpa z).length ∧ Ψ c bs ∧ Need (fr2 = setM (setP s.fr ps.toList (encs z)) (upd z) ∧ hp2 = hpf c ++ hpa z ∧ r2 = s.r ++ bs ∧ df2 = []) (EndI w0 hp2 r2 L2 w2 undef fun _ w1 => KeepsFrom w.heap.size W w1 ∧ Kp W w1 ∧ Φ pre c w1 ∧ V z w1)) ⟨setP s.fr ps.toList (encs z), hpf c, s.r, [], W, []⟩)
    (hbody : ∀ l pre x c bs W, bs.length = (hpa x).length → Ψ c bs → Φ pre c W → V x W → Below w0.B w0.W W → w.heap.size ≤ W.heap.size → pre.length < N → codeD (Fence.wide.inRound l) (n - 1 - 1) cx w0 y
      (fun e s' => match e with
        | .normal => s'.on fun fr2 hp2 r2 L2 w2 df2 => ∃ c', Need (CovH (hpf c') s.r ⟨fr2, hp2, r2, L2, w2, df2⟩) (EndI w0 hp2 r2 L2 w2 undef fun _ w1 => KeepsFrom w.heap.size W w1 ∧ Kp W w1 ∧ Φ (pre ++ [x]) c' w1)
        | .ret => s'.on fun fr2 hp2 r2 L2 w2 df2 => ∃ c', Need (CovH (hpx .ret c') s.r ⟨fr2, hp2, r2, L2, w2, df2⟩) (EndI w0 hp2 r2 L2 w2 undef fun _ w1 => KeepsFrom w.heap.size W w1 ∧ Ix .ret (pre ++ [x]) c' w1)
        | .exit id => s'.on fun fr2 hp2 r2 L2 w2 df2 => ∃ c', Need (CovH (hpx (.exit id) c') s.r ⟨fr2, hp2, r2, L2, w2, df2⟩) (EndI w0 hp2 r2 L2 w2 undef fun _ w1 => KeepsFrom w.heap.size W w1 ∧ Ix (.exit id) (pre ++ [x]) c' w1)
        | _ => False) ⟨setM (setP s.fr ps.toList (encs x)) (upd x), hpf c ++ hpa x, s.r ++ bs, [], W, []⟩)
    (hdone : ∀ D xs c W, w.heap.size ≤ D → S xs → Φ xs c W → W.heap[D]? = some (.deferred (some [])) → K .normal ⟨s.fr, hpf c, s.r, [], W, { target := .collected D, args := #[] } :: s.df⟩)
    (hstop : ∀ D c e pre q W, w.heap.size ≤ D → Sp pre → Ix c pre q W → exitOf c = some e → W.heap[D]? = some (.deferred (some [])) → K e ⟨s.fr, hpx c q, s.r, [], W, { target := .collected D, args := #[] } :: s.df⟩) :
    (Code.rangeFunc g ps x y).wpIn Fence.wide n cx.P (fun e a' w' => ∃ s', Rel w0 s' a' w' ∧ K e s') a w :=
  rangeV hcx h1 hR hg eg hseq hVo hBx hBx0 hBxr (fun h k => hKt h k) hKb hps hpf Φ hΦ c0 hp0 hΦ0 Ix hpx hIx (fun z => setM (setP s.fr ps.toList (encs z)) (upd z)) hpa Ψ hassign hbody hdone hstop
end
end Go.Proofs.YtjbhpfmnfdebkaaGreat.Eng

/-
  close.rounds: the rounds of a plus, one by one; its iterator's contract, by the engine.
-/
namespace Go.Proofs.YtjbhpfmnfdebkaaGreat
set_option linter.unusedVariables false
set_option linter.unusedSimpArgs false
set_option maxRecDepth 100000
open Go.RowKit Go.Proofs.YtjbhpfmnfdebkaaGreat.Eng Enc

namespace Cl
/-- the rounds, of at most so many, from a list and what was new in it. -/
def go (part : List Zn) (cz : Int) : Nat → List Zn → List Zn → List (List Zn × Int)
  | 0, all, _ => if all.length = 0 then [] else [([], 301)]
  | k + 1, all, last => if all.length = 0 then [] else (all, 0) :: (if (longer all last part cz).2.2 ≠ 0 then [([], (longer all last part cz).2.2)] else if (Cv.all_ (longer all last part cz).2.1 all).1 = true then [] else go part cz k (longer all last part cz).1 (longer all last part cz).2.1)
theorem go_succ (part : List Zn) (cz : Int) (k : Nat) (all last : List Zn) : go part cz (k + 1) all last = if all.length = 0 then [] else (all, 0) :: (if (longer all last part cz).2.2 ≠ 0 then [([], (longer all last part cz).2.2)] else if (Cv.all_ (longer all last part cz).2.1 all).1 = true then [] else go part cz k (longer all last part cz).1 (longer all last part cz).2.1) := rfl
theorem go_len (part : List Zn) (cz : Int) : ∀ (k : Nat) (all last : List Zn), (go part cz k all last).length ≤ k + 1
  | 0, all, last => by unfold go; split <;> simp
  | k + 1, all, last => by
    rw [go_succ]
    split
    · simp
    · simp only [List.length_cons]
      split
      · simp
      · split
        · simp
        · have := go_len part cz k (longer all last part cz).1 (longer all last part cz).2.1
          omega
def seq (old part : List Zn) (cz cr : Int) : List (List Zn × Int) :=
  if cz < (part.length : Int) then [([], 300)] else if (longer part old part cz).2.2 ≠ 0 then [([], (longer part old part cz).2.2)] else go part cz cr.toNat (longer part old part cz).1 (longer part old part cz).1
/-- what is yielded: where a list lies, the list, an error. -/
structure RV where
  a : Option Addr
  c : Nat
  l : List Zn
  e : Int
def encV (x : RV) : List Value := [.slice x.a x.l.length x.c, .int .i64 x.e]
def rv (x : RV) : List Zn × Int := (x.l, x.e)
def V (n₁ : Nat) (x : RV) (W : World) : Prop := Own TZ n₁ W (.slice x.a x.l.length x.c) x.l
/-- what a round of the caller's keeps: all below, all that stood at the start but some blocks, and rows of zones. -/
def KpR (n₀ n₁ : Nat) (R : List Nat) (W W' : World) : Prop := Below n₀ W W' ∧ (∀ k, k < n₁ → k ∉ R → W'.heap[k]? = W.heap[k]?) ∧ ∀ (k : Nat) (cs : Array Value) (f : Nat × Nat), W.heap[k]? = some (.cells cs TZ f) → W'.heap[k]? = W.heap[k]?
theorem V.kp {n₀ n₁ : Nat} {R : List Nat} {x : RV} {W X : World} (h : V n₁ x W) (k : KpR n₀ n₁ R W X) : V n₁ x X := by
  obtain ⟨hl, h0 | ⟨g, cap, cur, e1, e2, e3, e4⟩⟩ := h
  · exact ⟨hl, .inl h0⟩
  · exact ⟨hl, .inr ⟨g, cap, cur, e1, e2, (k.2.2 g _ _ e3).trans e3, e4⟩⟩
abbrev TZs : TypeId := 22
abbrev TCaps : TypeId := 70
/-- where the iterator stands. -/
structure Rd (n₀ n₁ Bo Bp Bc : Nat) (vo vp : Value) (cz cr : Int) (W X : World) : Prop where
  below : Below n₀ W X
  size : n₁ ≤ X.heap.size
  bo : X.heap[Bo]? = some (.cells #[vo] TZs (0, 0))
  bp : X.heap[Bp]? = some (.cells #[vp] TZs (0, 0))
  bc : X.heap[Bc]? = some (.cells #[.int .i64 cz, .int .i64 cr] TCaps (0, 0))
theorem Rd.go {n₀ n₁ Bo Bp Bc : Nat} {vo vp : Value} {cz cr : Int} {W X Y : World} (h : Rd n₀ n₁ Bo Bp Bc vo vp cz cr W X) (hn : n₀ ≤ n₁) (hB : Below X.heap.size X Y) : Rd n₀ n₁ Bo Bp Bc vo vp cz cr W Y :=
  ⟨h.below.trans (hB.mono (Nat.le_trans hn h.size)), Nat.le_trans h.size hB.size, (hB.block _ (Array.getElem?_eq_some_iff.1 h.bo).1).trans h.bo, (hB.block _ (Array.getElem?_eq_some_iff.1 h.bp).1).trans h.bp, (hB.block _ (Array.getElem?_eq_some_iff.1 h.bc).1).trans h.bc⟩
theorem Rd.kp {n₀ n₁ Bo Bp Bc : Nat} {vo vp : Value} {cz cr : Int} {R : List Nat} {W X Y : World} (h : Rd n₀ n₁ Bo Bp Bc vo vp cz cr W X) (h1 : Bo < n₁ ∧ Bo ∉ R) (h2 : Bp < n₁ ∧ Bp ∉ R) (h3 : Bc < n₁ ∧ Bc ∉ R) (k : KpR n₀ n₁ R X Y) : Rd n₀ n₁ Bo Bp Bc vo vp cz cr W Y :=
  ⟨h.below.trans k.1, Nat.le_trans h.size k.1.size, (k.2.1 _ h1.1 h1.2).trans h.bo, (k.2.1 _ h2.1 h2.2).trans h.bp, (k.2.1 _ h3.1 h3.2).trans h.bc⟩
end Cl
theorem Cl.Rd.cell {n₀ n₁ Bo Bp Bc : Nat} {vo vp : Value} {cz cr : Int} {W X : World} (h : Cl.Rd n₀ n₁ Bo Bp Bc vo vp cz cr W X) : X.cell? ⟨Bo, 0, none⟩ = some vo ∧ X.cell? ⟨Bp, 0, none⟩ = some vp ∧ X.cell? ((⟨Bc, 0, none⟩ : Addr).add 0) = some (.int .i64 cz) ∧ X.cell? ((⟨Bc, 0, none⟩ : Addr).add 1) = some (.int .i64 cr) := by
  refine ⟨?_, ?_, ?_, ?_⟩
  · simp [World.cell?, h.bo]
  · simp [World.cell?, h.bp]
  · simp [World.cell?, Addr.add, h.bc]
  · simp [World.cell?, Addr.add, h.bc]
theorem crounds_at (ao ap : Option Addr) (lo lp co cp : Nat) (cz cr : Int) (w : World) :
    Calls Tryz.prog 112 #[.slice ao lo co, .slice ap lp cp, .agg #[.int .i64 cz, .int .i64 cr]] w fun e w' => e = .returned (.func (.func 185) #[] #[.pointer (some ⟨w.heap.size + 1, 0, none⟩), .pointer (some ⟨w.heap.size + 2, 0, none⟩), .pointer (some ⟨w.heap.size, 0, none⟩)]) ∧ w' = ((w.alloc (.cells #[.slice ao lo co] Cl.TZs)).alloc (.cells #[.slice ap lp cp] Cl.TZs)).alloc (.cells #[.int .i64 cz, .int .i64 cr] Cl.TCaps) := by
  go_enter Tryz.func112, Tryz.ntmps112
  go_wp2
  go_ret
  exact ⟨by simp, rfl⟩
set_option maxHeartbeats 4000000 in
open Cl in
theorem rounds_stops (n Bo Bp Bc n₀ n₁ : Nat) (R : List Nat) (old part : List Zn) (ao ap : Option Addr) (co cp : Nat) (cz cr : Int) (hcz : 1 ≤ cz ∧ cz ≤ 4096) (hcr : 1 ≤ cr ∧ cr ≤ 4096) (w : World) (hn : n₀ ≤ n₁) (hn1 : n₁ ≤ w.heap.size)
    (hRo : Bo < n₁ ∧ Bo ∉ R) (hRp : Bp < n₁ ∧ Bp ∉ R) (hRc : Bc < n₁ ∧ Bc ∉ R)
    (ho : w.heap[Bo]? = some (.cells #[.slice ao old.length co] TZs (0, 0))) (hp : w.heap[Bp]? = some (.cells #[.slice ap part.length cp] TZs (0, 0))) (hc : w.heap[Bc]? = some (.cells #[.int .i64 cz, .int .i64 cr] TCaps (0, 0)))
    (hO : Sl n₀ w (.slice ao old.length co) old) (hP : Sl n₀ w (.slice ap part.length cp) part) :
    SeqStopsV n Tryz.prog 185 #[.pointer (some ⟨Bp, 0, none⟩), .pointer (some ⟨Bc, 0, none⟩), .pointer (some ⟨Bo, 0, none⟩)] (fun x => (encV x).toArray) (V n₁) (KpR n₀ n₁ R) (fun xs => xs.map rv = seq old part cz cr) (fun pre => pre.map rv <+: seq old part cz cr) 4100 Bc n₀ w := fun l J Jx W hW hJ hJx hY h0 => by
  have hsz := hW.size
  have hn0 : n₀ ≤ W.heap.size := by omega
  refine (fun_in n n₀ W hn0 Tryz.func185 (args := [.val (.func (.yield l) #[] #[]), .val (.pointer (some ⟨Bp, 0, none⟩)), .val (.pointer (some ⟨Bc, 0, none⟩)), .val (.pointer (some ⟨Bo, 0, none⟩))]) (R := fun _ W' => (∃ xs : List RV, xs.map rv = seq old part cz cr ∧ J xs W') ∨ (∃ pre : List RV, pre.map rv <+: seq old part cz cr ∧ Jx pre W')) rfl rfl ?_).mono ?_
  case refine_2 =>
    rintro e W' ⟨v, rfl, _, h⟩
    exact ⟨⟨_, rfl⟩, h⟩
  have hOW := hO.below (hW.mono (by omega))
  have hPW := hP.below (hW.mono (by omega))
  have rd : Rd n₀ n₁ Bo Bp Bc (.slice ao old.length co) (.slice ap part.length cp) cz cr W W := ⟨Below.refl _ _, by omega, (hW.block _ (by omega)).trans ho, (hW.block _ (by omega)).trans hp, (hW.block _ (by omega)).trans hc⟩
  have slO : ∀ X, Below n₀ W X → n₀ ≤ X.heap.size → Sl X.heap.size X (.slice ao old.length co) old := fun X hX hs => hOW.go hX hs
  have slP : ∀ X, Below n₀ W X → n₀ ≤ X.heap.size → Sl X.heap.size X (.slice ap part.length cp) part := fun X hX hs => hPW.go hX hs
  have jg : ∀ {pre A B}, J pre A → Below A.heap.size A B → J pre B := fun {pre A B} h hB => hJ _ _ _ h (below_grown hB _)
  have atB : ∀ {hp : List LB} {X Y : World}, At ⟨W, n₀, hn0⟩ hp [] [] X Y → Below X.heap.size X Y := fun {hp X Y} h => at_below h (by simp)
  unfold seq
  obtain ⟨c1, c2, c3, c4⟩ := rd.cell
  refine LoadI.mk ⟨_, ⟨c2, by simp⟩, ?_⟩
  refine LoadI.mk ⟨_, ⟨c3, by simp⟩, ?_⟩
  refine Branch.mk (fun z1 => ?_) (fun z1 => ?_)
  · rw [if_pos (of_decide_eq_true z1)]
    refine ⟨fun w5 h5 => ?_⟩
    have hB5 := atB h5
    refine (hY [] ⟨none, 0, [], 300⟩ w5 (jg h0 hB5) Own.nil (by simp)).mono ?_
    rintro e v5 (⟨rfl, hj6, hk5⟩ | ⟨rfl, hx5, hk5⟩)
    · refine ⟨_, rfl, (rd.go hn hB5).below.trans hk5.1, ?_⟩
      exact EndI.mk fun w6 h6 => .inl ⟨[⟨none, 0, [], 300⟩], rfl, jg hj6 (atB h6)⟩
    · refine ⟨_, rfl, (rd.go hn hB5).below.trans hk5, ?_⟩
      exact EndI.mk fun w6 h6 => .inr ⟨[⟨none, 0, [], 300⟩], List.prefix_refl _, hJx _ _ _ hx5 (at_grown h6 (by simp) _)⟩
  rw [if_neg (of_decide_eq_false z1)]
  refine LoadI.mk ⟨_, ⟨c2, by simp⟩, ?_⟩
  refine LoadI.mk ⟨_, ⟨c1, by simp⟩, ?_⟩
  refine LoadI.mk ⟨_, ⟨c2, by simp⟩, ?_⟩
  refine LoadI.mk ⟨_, ⟨c3, by simp⟩, ?_⟩
  apply CallI.use
  focus (exact fun w3 h3 => clonger_any part old part cz ap ao ap cp co cp w3 (slP w3 (rd.go hn (atB h3)).below (Nat.le_trans hn (rd.go hn (atB h3)).size)) (slO w3 (rd.go hn (atB h3)).below (Nat.le_trans hn (rd.go hn (atB h3)).size)) (slP w3 (rd.go hn (atB h3)).below (Nat.le_trans hn (rd.go hn (atB h3)).size)))
  rintro v w3 v3 h3 hB3 ⟨a1, k1, a2, k2, rfl, hO1, hO2⟩
  have rd3 := (rd.go hn (atB h3)).go hn hB3
  have j3 := jg (jg h0 (atB h3)) hB3
  have hs3 := (rd.go hn (atB h3)).size
  generalize longer part old part cz = Y at hO1 hO2 ⊢
  obtain ⟨A, Mo, E⟩ := Y
  simp only at hO1 hO2 ⊢
  refine Branch.mk (fun z2 => ?_) (fun z2 => ?_)
  · rw [if_pos (of_decide_eq_true z2)]
    refine ⟨fun w5 h5 => ?_⟩
    have hB5 := atB h5
    refine (hY [] ⟨none, 0, [], E⟩ w5 (jg j3 hB5) Own.nil (by simp)).mono ?_
    rintro e v5 (⟨rfl, hj6, hk5⟩ | ⟨rfl, hx5, hk5⟩)
    · refine ⟨_, rfl, (rd3.go hn hB5).below.trans hk5.1, ?_⟩
      exact EndI.mk fun w6 h6 => .inl ⟨[⟨none, 0, [], E⟩], rfl, jg hj6 (atB h6)⟩
    · refine ⟨_, rfl, (rd3.go hn hB5).below.trans hk5, ?_⟩
      exact EndI.mk fun w6 h6 => .inr ⟨[⟨none, 0, [], E⟩], List.prefix_refl _, hJx _ _ _ hx5 (at_grown h6 (by simp) _)⟩
  rw [if_neg (of_decide_eq_false z2)]
  obtain ⟨K, hK⟩ : ∃ K : Nat, cr = K := ⟨cr.toNat, by omega⟩
  subst hK
  rw [Int.toNat_natCast]
  refine LoopI.invC (α := (Nat × RV × RV × List RV) × World) (fun y => [(5, .val (.slice y.1.2.1.a y.1.2.1.l.length y.1.2.1.c)), (8, .val (.slice y.1.2.2.1.a y.1.2.2.1.l.length y.1.2.2.1.c)), (9, .val (.int .i64 y.1.1))]) (fun y => y.2)
    (fun y => y.1.1 ≤ K ∧ Rd n₀ n₁ Bo Bp Bc (.slice ao old.length co) (.slice ap part.length cp) cz K W y.2 ∧ V n₁ y.1.2.1 y.2 ∧ V n₁ y.1.2.2.1 y.2 ∧ J y.1.2.2.2 y.2 ∧ y.1.2.2.2.length = y.1.1 ∧ y.1.2.2.2.map rv ++ go part cz (K - y.1.1) y.1.2.1.l y.1.2.2.1.l = go part cz K A A) (fun y => K + 1 - y.1.1) ?_ ?_
  · intro w5 h5
    have hV := (hO1.lower hs3).below (atB h5)
    exact ⟨((0, ⟨a1, k1, A, 0⟩, ⟨a1, k1, A, 0⟩, []), w5), Cov.mk (by repeat' (first | exact trivial | refine And.intro rfl ?_)) rfl rfl rfl rfl rfl, rfl, Nat.zero_le _, rd3.go hn (atB h5), hV, hV, jg j3 (atB h5), rfl, rfl⟩
  rintro ⟨⟨m, all, last, pre⟩, U⟩ ⟨hm, rdU, hVa, hVl, hj, hlen, hseq⟩
  simp only at hm rdU hVa hVl hj hlen hseq
  obtain ⟨d1, d2, d3, d4⟩ := rdU.cell
  have hglen := go_len part cz K A A
  refine Branch.mk (fun z3 => ?_) (fun z3 => ?_)
  · have hpos : all.l.length ≠ 0 := by have := of_decide_eq_true z3; simp only at this; omega
    refine LoadI.mk ⟨_, ⟨d4, by simp⟩, ?_⟩
    refine Branch.mk (fun z4 => ?_) (fun z4 => ?_)
    · have hmK : m = K := by have := of_decide_eq_true z4; simp only at this; omega
      subst hmK
      have hgo : go part cz (m - m) all.l last.l = [([], 301)] := by rw [Nat.sub_self]; unfold go; rw [if_neg hpos]
      rw [hgo] at hseq
      refine ⟨fun w5 h5 => ?_⟩
      have hB5 := atB h5
      refine (hY pre ⟨none, 0, [], 301⟩ w5 (jg hj hB5) Own.nil (by omega)).mono ?_
      rintro e v5 (⟨rfl, hj6, hk5⟩ | ⟨rfl, hx5, hk5⟩)
      · refine ⟨_, rfl, (rdU.go hn hB5).below.trans hk5.1, ?_⟩
        exact EndI.mk fun w6 h6 => .inl ⟨pre ++ [⟨none, 0, [], 301⟩], by rw [List.map_append]; exact hseq, jg hj6 (atB h6)⟩
      · refine ⟨_, rfl, (rdU.go hn hB5).below.trans hk5, ?_⟩
        exact EndI.mk fun w6 h6 => .inr ⟨pre ++ [⟨none, 0, [], 301⟩], by rw [List.map_append]; exact ⟨[], by rw [List.append_nil]; exact hseq⟩, hJx _ _ _ hx5 (at_grown h6 (by simp) _)⟩
    have hlt : m < K := by have := of_decide_eq_false z4; simp only at this; omega
    obtain ⟨d, hd⟩ : ∃ d, K - m = d + 1 := ⟨K - m - 1, by omega⟩
    rw [hd, go_succ, if_neg hpos] at hseq
    refine ⟨fun w5 h5 => ?_⟩
    have hB5 := atB h5
    refine (hY pre ⟨all.a, all.c, all.l, 0⟩ w5 (jg hj hB5) (Own.below hVa hB5) (by omega)).mono ?_
    have hmap : (pre ++ [(⟨all.a, all.c, all.l, 0⟩ : RV)]).map rv = pre.map rv ++ [(all.l, 0)] := by rw [List.map_append]; rfl
    rintro e v5 (⟨rfl, hj6, hk5⟩ | ⟨rfl, hx5, hk5⟩)
    case inr =>
      refine ⟨_, rfl, (rdU.go hn hB5).below.trans hk5, ?_⟩
      refine Branch.yes rfl ?_
      exact EndI.mk fun w6 h6 => .inr ⟨pre ++ [⟨all.a, all.c, all.l, 0⟩], by rw [hmap]; exact ⟨_, by rw [List.append_assoc]; exact hseq⟩, hJx _ _ _ hx5 (at_grown h6 (by simp) _)⟩
    refine ⟨_, rfl, (rdU.go hn hB5).below.trans hk5.1, ?_⟩
    refine Branch.no rfl ?_
    have rd5 := (rdU.go hn hB5).kp hRo hRp hRc hk5
    have hVa5 : V n₁ all v5 := V.kp (Own.below hVa hB5) hk5
    have hVl5 : V n₁ last v5 := V.kp (Own.below hVl hB5) hk5
    obtain ⟨e1, e2, e3, e4⟩ := rd5.cell
    refine LoadI.mk ⟨_, ⟨e2, by simp⟩, ?_⟩
    refine LoadI.mk ⟨_, ⟨e3, by simp⟩, ?_⟩
    apply CallI.use
    focus (exact fun w7 h7 => clonger_any all.l last.l part cz all.a last.a ap all.c last.c cp w7 (Sl.go (Own.sl hVa5) (atB h7) (atB h7).size) (Sl.go (Own.sl hVl5) (atB h7) (atB h7).size) (slP w7 (rd5.go hn (atB h7)).below (Nat.le_trans hn (rd5.go hn (atB h7)).size)))
    rintro v w7 v7 h7 hB7 ⟨a3, k3, a4, k4, rfl, hO3, hO4⟩
    have rd7 := (rd5.go hn (atB h7)).go hn hB7
    have j7 := jg (jg hj6 (atB h7)) hB7
    have hs7 := (rd5.go hn (atB h7)).size
    have hVa7 : V n₁ all v7 := Own.below (Own.below hVa5 (atB h7)) hB7
    generalize longer all.l last.l part cz = Y2 at hO3 hO4 hseq ⊢
    obtain ⟨A2, M2, E2⟩ := Y2
    simp only at hO3 hO4 hseq ⊢
    refine Branch.mk (fun z5 => ?_) (fun z5 => ?_)
    · rw [if_pos (of_decide_eq_true z5)] at hseq
      refine ⟨fun w8 h8 => ?_⟩
      have hB8 := atB h8
      have hmap2 : (pre ++ [(⟨all.a, all.c, all.l, 0⟩ : RV)] ++ [(⟨none, 0, [], E2⟩ : RV)]).map rv = pre.map rv ++ [(all.l, 0), ([], E2)] := by rw [List.map_append, hmap, List.append_assoc]; rfl
      refine (hY (pre ++ [⟨all.a, all.c, all.l, 0⟩]) ⟨none, 0, [], E2⟩ w8 (jg j7 hB8) Own.nil (by simp; omega)).mono ?_
      rintro e v8 (⟨rfl, hj9, hk8⟩ | ⟨rfl, hx8, hk8⟩)
      · refine ⟨_, rfl, (rd7.go hn hB8).below.trans hk8.1, ?_⟩
        exact EndI.mk fun w6 h6 => .inl ⟨_, by rw [hmap2]; exact hseq, jg hj9 (atB h6)⟩
      · refine ⟨_, rfl, (rd7.go hn hB8).below.trans hk8, ?_⟩
        exact EndI.mk fun w6 h6 => .inr ⟨_, by rw [hmap2]; exact ⟨[], by rw [List.append_nil]; exact hseq⟩, hJx _ _ _ hx8 (at_grown h6 (by simp) _)⟩
    rw [if_neg (of_decide_eq_false z5)] at hseq
    apply CallI.use1
    focus (exact fun w8 h8 => zsin_any M2 all.l a4 all.a k4 all.c w8 (Sl.go (Own.sl hO4) (atB h8) (atB h8).size) (Sl.go (Own.sl hVa7) (atB h8) (atB h8).size))
    intro w8 v8 h8 hB8
    have hB78 : Below v7.heap.size v7 v8 := (atB h8).trans (hB8.mono (atB h8).size)
    refine Branch.mk (fun z6 => ?_) (fun z6 => ?_)
    · rw [if_pos z6] at hseq
      exact EndI.mk fun w6 h6 => .inl ⟨pre ++ [⟨all.a, all.c, all.l, 0⟩], by rw [hmap]; exact hseq, jg (jg j7 hB78) (atB h6)⟩
    rw [if_neg (by rw [z6]; decide)] at hseq
    refine Need.mk (by simp only [inK]; omega) (EndI.mk fun w9 h9 => ⟨((m + 1, ⟨a3, k3, A2, 0⟩, ⟨a4, k4, M2, 0⟩, pre ++ [⟨all.a, all.c, all.l, 0⟩]), w9), Cov.mk (by repeat' (first | exact trivial | refine And.intro rfl ?_)) rfl rfl rfl rfl rfl, rfl, ⟨hlt, ?_, ?_, ?_, ?_, ?_, ?_⟩, by simp only; omega⟩)
    · exact (rd7.go hn hB78).go hn (atB h9)
    · exact ((hO3.lower hs7).below hB78).below (atB h9)
    · exact ((hO4.lower hs7).below hB78).below (atB h9)
    · exact jg (jg j7 hB78) (atB h9)
    · simp [hlen]
    · rw [hmap, show K - (m + 1) = d by omega, List.append_assoc]
      exact hseq
  · have h0l : all.l.length = 0 := by have := of_decide_eq_false z3; simp only at this; omega
    have hgo : go part cz (K - m) all.l last.l = [] := by unfold go; split <;> rw [if_pos h0l]
    rw [hgo, List.append_nil] at hseq
    exact EndI.mk fun w6 h6 => .inl ⟨pre, hseq, jg hj (atB h6)⟩
end Go.Proofs.YtjbhpfmnfdebkaaGreat

/-
  close.Close and close.Rounds, by the engine.
-/
namespace Go.Proofs.YtjbhpfmnfdebkaaGreat
set_option linter.unusedVariables false
set_option linter.unusedSimpArgs false
set_option maxRecDepth 100000
open Go.RowKit Go.Shelf Go.Proofs.YtjbhpfmnfdebkaaGreat.Eng Enc

namespace Cl
/-- the list of the last round. -/
def lastS (s : List (List Zn × Int)) : List Zn := ((s.getLast?).map (·.1)).getD []
def close (old part : List Zn) (cz cr : Int) : List Zn × Int × Int :=
  if chk old part cz cr ≠ 0 then ([], 0, chk old part cz cr) else (match (seq old part cz cr).find? (fun x => decide (x.2 ≠ 0)) with
    | some x => ([], 0, x.2)
    | none => ((Cv.prune (lastS (seq old part cz cr))).1, (seq old part cz cr).length, (Cv.prune (lastS (seq old part cz cr))).2))
def rounds (old part : List Zn) (cz cr : Int) : List (List Zn) × Int :=
  if chk old part cz cr ≠ 0 then ([], chk old part cz cr) else (match (seq old part cz cr).find? (fun x => decide (x.2 ≠ 0)) with
    | some x => ([], x.2)
    | none => ((seq old part cz cr).map (fun x => (Cv.prune x.1).1), 0))
theorem chk_zero {old part : List Zn} {cz cr : Int} (h : chk old part cz cr = 0) : (1 ≤ cz ∧ cz ≤ 4096) ∧ (1 ≤ cr ∧ cr ≤ 4096) := by
  unfold chk at h
  split at h
  · cases h
  · rename_i h1
    simp only [not_or, Classical.not_not] at h1
    exact h1
theorem V.own {n₁ : Nat} (z : RV) : OwnFrom n₁ (fun (_ : Unit) W => V n₁ z W) := fun _ A C row h hg hr => by
  obtain ⟨hl, h0 | ⟨g, cap, cur, e1, e2, e3, e4⟩⟩ := id h
  · exact ⟨hl, .inl h0⟩
  · refine ⟨hl, .inr ⟨g, cap, cur, e1, e2, (hg.block g (Array.getElem?_eq_some_iff.1 e3).1 (fun e => ?_)).trans e3, e4⟩⟩
    obtain ⟨_, o, ho, hc⟩ := hr g e.symm
    rw [e3] at ho; injection ho with ho; subst ho; cases hc
theorem lastS_app (s : List (List Zn × Int)) (x : List Zn × Int) : lastS (s ++ [x]) = x.1 := by unfold lastS; simp
theorem own_turn {α : Type} [Enc α] {e : TypeId} {n₁ B Bx : Nat} {A C : World} {row : Option Nat} {v : Value} {l : List α} (h : Own e n₁ A v l) (hg : A.grownBy C row) (hr : RowB B Bx A row) (hx : Bx < n₁) : Own e n₁ C v l := by
  obtain ⟨hl, h0 | ⟨g, cap, cur, e1, e2, e3, e4⟩⟩ := id h
  · exact ⟨hl, .inl h0⟩
  · refine ⟨hl, .inr ⟨g, cap, cur, e1, e2, (hg.block g (Array.getElem?_eq_some_iff.1 e3).1 (fun e => ?_)).trans e3, e4⟩⟩
    rcases hr g e.symm with h | ⟨_, o, ho, hc⟩
    · omega
    · rw [e3] at ho; injection ho with ho; subst ho; cases hc
end Cl
set_option maxHeartbeats 4000000 in
open Cl in
theorem cclose_any (old part : List Zn) (cz cr : Int) (ao ap : Option Addr) (co cp : Nat) (w : World) (hO : Sl w.heap.size w (.slice ao old.length co) old) (hP : Sl w.heap.size w (.slice ap part.length cp) part) :
    Calls Tryz.prog 46 #[.slice ao old.length co, .slice ap part.length cp, .agg #[.int .i64 cz, .int .i64 cr]] w (Ret w fun v w' => ∃ a' c', v = .tuple #[.slice a' (Cl.close old part cz cr).1.length c', .int .i64 (Cl.close old part cz cr).2.1, .int .i64 (Cl.close old part cz cr).2.2] ∧ Own TZ w.heap.size w' (.slice a' (Cl.close old part cz cr).1.length c') (Cl.close old part cz cr).1) := by
  refine fun_at 9 w.heap.size w (Nat.le_refl _) Tryz.func46 (args := [.val (.slice ao old.length co), .val (.slice ap part.length cp), .agg [.val (.int .i64 cz), .val (.int .i64 cr)]]) rfl rfl ?_
  refine NewI.mk fun b5 hb5 => ?_
  refine NewI.mk fun b6 hb6 => ?_
  refine NewI.mk fun b7 hb7 => ?_
  refine NewI.mk fun b8 hb8 => ?_
  have e5 : w.heap.size ≤ b5 := hb5
  have e6 : w.heap.size ≤ b6 := hb6
  have e7 : w.heap.size ≤ b7 := hb7
  have e8 : w.heap.size ≤ b8 := hb8
  apply CallI.use1
  focus (exact fun w3 h3 => cchecked_any old part cz cr ao ap co cp w3 (Sl.at h3 hO) (Sl.at h3 hP))
  intro w3 v3 h3 hB3
  unfold Cl.close
  refine Branch.mk (fun z1 => ?_) (fun z1 => ?_)
  · rw [if_pos (of_decide_eq_true z1)]
    exact EndI.mk fun w9 h9 => ⟨_, _, rfl, Own.nil⟩
  have h0 : chk old part cz cr = 0 := by simpa using z1
  obtain ⟨hcz, hcr⟩ := chk_zero h0
  rw [if_neg (by rw [h0]; simp), h0]
  have lb : ∀ b, b ∈ [b5, b6, b7, b8] → b < w3.heap.size := fun b hb => h3.lt b hb
  have hw3 : w.heap.size ≤ w3.heap.size := h3.below.size
  have hs3 := hB3.size
  apply CallI.mk
  intro w7 h7
  refine (crounds_at ao ap old.length part.length co cp cz cr w7).mono ?_
  rintro e w8 ⟨rfl, rfl⟩
  have q1 : Below w7.heap.size w7 (w7.alloc (.cells #[.slice ao old.length co] TZs)) := below_al (Below.refl _ _)
  have g1 := World.alloc_heap_new w7 (.cells #[.slice ao old.length co] TZs)
  have s1 : (w7.alloc (.cells #[.slice ao old.length co] TZs)).heap.size = w7.heap.size + 1 := by simp
  generalize w7.alloc (.cells #[.slice ao old.length co] TZs) = x1 at q1 g1 s1 ⊢
  have q2 : Below x1.heap.size x1 (x1.alloc (.cells #[.slice ap part.length cp] TZs)) := below_al (Below.refl _ _)
  have g2 := World.alloc_heap_new x1 (.cells #[.slice ap part.length cp] TZs)
  have s2 : (x1.alloc (.cells #[.slice ap part.length cp] TZs)).heap.size = x1.heap.size + 1 := by simp
  generalize x1.alloc (.cells #[.slice ap part.length cp] TZs) = x2 at q2 g2 s2 ⊢
  have q3 : Below x2.heap.size x2 (x2.alloc (.cells #[.int .i64 cz, .int .i64 cr] TCaps)) := below_al (Below.refl _ _)
  have g3 := World.alloc_heap_new x2 (.cells #[.int .i64 cz, .int .i64 cr] TCaps)
  have s3 : (x2.alloc (.cells #[.int .i64 cz, .int .i64 cr] TCaps)).heap.size = x2.heap.size + 1 := by simp
  generalize x2.alloc (.cells #[.int .i64 cz, .int .i64 cr] TCaps) = w8 at q3 g3 s3 ⊢
  have hB8 : Below w7.heap.size w7 w8 := (q1.trans (q2.mono (by omega))).trans (q3.mono (by omega))
  refine ⟨h7.keep hB8, _, rfl, ?_⟩
  have k1 : w8.heap[w7.heap.size]? = some (.cells #[.slice ao old.length co] TZs (0, 0)) := (q3.block _ (by omega)).trans ((q2.block _ (by omega)).trans g1)
  have k2 : w8.heap[w7.heap.size + 1]? = some (.cells #[.slice ap part.length cp] TZs (0, 0)) := (q3.block _ (by omega)).trans (by rw [← s1]; exact g2)
  have k3 : w8.heap[w7.heap.size + 2]? = some (.cells #[.int .i64 cz, .int .i64 cr] TCaps (0, 0)) := by rw [show w7.heap.size + 2 = x2.heap.size by omega]; exact g3
  have lb7 : ∀ b, b ∈ [b5, b6, b7, b8] → b < w7.heap.size := fun b hb => h7.lt b hb
  have hw7 : w.heap.size ≤ w7.heap.size := h7.below.size
  have hw8 : Below w.heap.size w w8 := h7.below.trans (hB8.mono hw7)
  have s8 : w8.heap.size = w7.heap.size + 3 := by omega
  generalize w7.heap.size = B0 at k1 k2 k3 lb7 hw7 s8 ⊢
  refine RawI.mk fun ac w10 hR => ?_
  have h10 := hR.at_
  have hB10 : Below w8.heap.size w8 w10 := at_below h10 (by simp)
  have hsz10 : w8.heap.size ≤ w10.heap.size := hB10.size
  have hw10 : Below w.heap.size w w10 := hw8.trans (hB10.mono (by omega))
  have nR : ∀ q, B0 ≤ q → q ∉ [b5, b6, b7, b8] := fun q hq hm => by have := lb7 q hm; omega
  have hseq := rounds_stops 8 B0 (B0 + 1) (B0 + 2) w.heap.size w10.heap.size [b5, b6, b7, b8] old part ao ap co cp cz cr hcz hcr w10 (by omega) (Nat.le_refl _) ⟨by omega, nR _ (by omega)⟩ ⟨by omega, nR _ (by omega)⟩ ⟨by omega, nR _ (by omega)⟩ ((hB10.block _ (by omega)).trans k1) ((hB10.block _ (by omega)).trans k2) ((hB10.block _ (by omega)).trans k3) (hO.below hw10) (hP.below hw10)
  refine rangeVu (α := RV) (encs := encV) cxOk (by decide) hR rfl Tryz.call185 hseq (fun z => V.own z) (by omega) (by show w.heap.size ≤ B0 + 2; omega) (nR _ (by omega))
    ?kt ?kb (fun x => rfl)
    (γ := Value × Int) (fun c => [⟨[.val (.int .i64 cz), .val (.int .i64 cr)], TCaps⟩, ⟨[.val c.1], TZs⟩, ⟨[.val (.int .i64 c.2)], 3⟩, ⟨[.val (.int .i64 0)], 28⟩])
    (fun (pre : List RV) (c : Value × Int) W => (∀ x : RV, x ∈ pre → x.e = 0) ∧ c.2 = pre.length ∧ Own TZ w10.heap.size W c.1 (lastS (pre.map rv))) ?phi (.slice none 0 0, 0) rfl ⟨by simp, rfl, Own.nil⟩
    (fun (c : Code) (pre : List RV) (q : Value × Int) (W : World) => c = .ret ∧ ∃ (pre0 : List RV) (x : RV), pre = pre0 ++ [x] ∧ (∀ y : RV, y ∈ pre0 → y.e = 0) ∧ x.e ≠ 0 ∧ q.2 = x.e)
    (fun _ q => [⟨[.val (.int .i64 cz), .val (.int .i64 cr)], TCaps⟩, ⟨[.val (.slice none 0 0)], TZs⟩, ⟨[.val (.int .i64 0)], 3⟩, ⟨[.val (.int .i64 q.2)], 28⟩])
    (fun c q pre A B row h hg hr => h) (fun z => [(9, .val (.slice z.a z.l.length z.c)), (10, .val (.int .i64 z.e))]) (fun z => []) (fun c bs => True) ?asg ?body ?done ?stop
  case kt =>
    exact fun h k => ⟨h.1.trans k.1, fun q hq hm => (k.2.1 q hq hm).trans (h.2.1 q hq hm), fun q cs f hq => (k.2.2 q cs f ((h.2.2 q cs f hq).trans hq)).trans (h.2.2 q cs f hq)⟩
  case kb =>
    intro W l o o' hl ho h1 h2
    refine ⟨⟨rfl, rfl, rfl, by simp, fun k hk => World.putObj_heap_other (by omega)⟩, fun q hq _ => World.putObj_heap_other (by omega), fun q cs f hq => World.putObj_heap_other (fun e => ?_)⟩
    subst e
    rw [ho] at hq; injection hq with hq; subst hq; cases h1
  case phi =>
    rintro c pre A C row ⟨hz, hn, hOw⟩ hg hr
    exact ⟨hz, hn, own_turn hOw hg hr (by omega)⟩
  case asg =>
    intro l pre z c W hΦ hV hBW hsW hN
    refine ⟨rfl, [], rfl, trivial, Need.mk ⟨rfl, rfl, (List.append_nil _).symm, rfl⟩ (EndI.mk fun w9 h9 => ?_)⟩
    have hg := at_below h9 (by simp)
    exact ⟨below_keepsFrom hg _, ⟨hg.mono (by omega), fun q hq _ => hg.block q (by omega), fun q cs f hq => hg.block q (Array.getElem?_eq_some_iff.1 hq).1⟩, ⟨hΦ.1, hΦ.2.1, hΦ.2.2.below hg⟩, Own.below hV hg⟩
  case body =>
    intro l pre x c bs W hbs hψ hΦ hV hBW hsW hN
    obtain rfl := List.eq_nil_of_length_eq_zero hbs
    obtain ⟨hz, hn, hOw⟩ := hΦ
    refine Branch.mk (fun z3 => ?_) (fun z3 => ?_)
    · have hx : x.e ≠ 0 := by simpa using z3
      refine ⟨(c.1, x.e), Need.mk (CovH.mk rfl rfl rfl) (EndI.mk fun w9 h9 => ?_)⟩
      refine ⟨⟨h9.size, fun k o hk ho hcl => (h9.step k (Array.getElem?_eq_some_iff.1 ho).1 (fun hm => ?_)).trans ho⟩, rfl, pre, x, rfl, hz, hx, rfl⟩
      have m6 := lb7 b6 (by simp); have m7 := lb7 b7 (by simp); have m8 := lb7 b8 (by simp)
      simp at hm
      omega
    · have hx : x.e = 0 := by simpa using z3
      refine DrawI.wr (.tk 0 (.two 1 (.tk 2 (.ev 3 (.ev 4 .done))) 3 (.ev 1 (.tk 2 (.ev 4 .done))))) [1, 2] [] (by kernel_rfl) rfl (by simp) fun w11 h11 => ?_
      have hn1 : inK .i64 (c.2 + 1) := by rw [hn]; simp only [inK]; omega
      have fin : ∀ w9, Below w.heap.size w w9 → W.heap.size ≤ w9.heap.size → (∀ k, k < W.heap.size → k ∉ [b6, b7] → w9.heap[k]? = W.heap[k]?) →
          KeepsFrom w10.heap.size W w9 ∧ KpR w.heap.size w10.heap.size [b5, b6, b7, b8] W w9 ∧ (∀ y : RV, y ∈ pre ++ [x] → y.e = 0) ∧ c.2 + 1 = ((pre ++ [x]).length : Int) ∧ Own TZ w10.heap.size w9 (.slice x.a x.l.length x.c) (lastS ((pre ++ [x]).map rv)) := fun w9 h1 h2 h3 => by
        have m6 := lb7 b6 (by simp); have m7 := lb7 b7 (by simp)
        have t6 : ∃ cs, W.heap[b6]? = some (.cells cs TZs (0, 0)) := ⟨_, (h11.step b6 (by omega) (by simp)).symm.trans (h11.blk 1 b6 _ rfl rfl)⟩
        have t7 : ∃ cs, W.heap[b7]? = some (.cells cs 3 (0, 0)) := ⟨_, (h11.step b7 (by omega) (by simp)).symm.trans (h11.blk 2 b7 _ rfl rfl)⟩
        have big : ∀ q, w10.heap.size ≤ q → q ∉ [b6, b7] := fun q hq hm => by simp at hm; omega
        refine ⟨⟨h2, fun k o hk ho hcl => (h3 k (Array.getElem?_eq_some_iff.1 ho).1 (big k hk)).trans ho⟩, ⟨below_between (X := w) hBW h1 h2, fun q hq hm => h3 q (by omega) (fun hm2 => hm (by simp at hm2 ⊢; omega)), fun q cs f hq => h3 q (Array.getElem?_eq_some_iff.1 hq).1 (fun hm => ?_)⟩, fun y hy => ?_, by simp [hn], ?_⟩
        · obtain ⟨_, t6⟩ := t6
          obtain ⟨_, t7⟩ := t7
          simp at hm
          rcases hm with rfl | rfl
          · rw [t6] at hq; injection hq with hq; injection hq with _ hq; exact absurd hq (by decide)
          · rw [t7] at hq; injection hq with hq; injection hq with _ hq; exact absurd hq (by decide)
        · rcases List.mem_append.1 hy with hy | hy
          · exact hz y hy
          · rw [List.mem_singleton.1 hy]; exact hx
        · have e1 : lastS ((pre ++ [x]).map rv) = x.l := by rw [List.map_append]; exact lastS_app _ _
          rw [e1]
          obtain ⟨hl, h0 | ⟨g, cap, cur, e1, e2, e3, e4⟩⟩ := hV
          · exact ⟨hl, .inl h0⟩
          · exact ⟨hl, .inr ⟨g, cap, cur, e1, e2, (h3 g (Array.getElem?_eq_some_iff.1 e3).1 (big g e2)).trans e3, e4⟩⟩
      refine Both.mk ?_ ?_
      all_goals
        refine Need.mk hn1 ?_
        refine ⟨(.slice x.a x.l.length x.c, c.2 + 1), Need.mk (CovH.mk rfl rfl rfl) (EndI.mk fun w9 h9 => ?_)⟩
        have hs11 := h11.size
        refine fin w9 h9.below (Nat.le_trans h11.size h9.size) fun k hk hm => (h9.step k (Nat.lt_of_lt_of_le hk h11.size) (fun hm2 => hm (by simp at hm2 ⊢; omega))).trans (h11.step k hk (by simp))
  case done =>
    rintro D xs c W hD hSx ⟨hz, hn, hOw⟩ hmark
    have hDW : D < W.heap.size := (Array.getElem?_eq_some_iff.1 hmark).1
    have hf : (seq old part cz cr).find? (fun x => decide (x.2 ≠ 0)) = none := by
      rw [← hSx, List.find?_eq_none]
      intro y hy
      obtain ⟨x, hx, rfl⟩ := List.mem_map.1 hy
      simp [rv, hz x hx]
    rw [hf]
    rw [hSx] at hOw
    have hxl : (xs.length : Int) = (seq old part cz cr).length := by rw [← hSx, List.length_map]
    rw [hxl] at hn
    obtain ⟨a', c', hcc⟩ := hOw.form
    obtain ⟨c1, c2⟩ := c
    simp only at hOw hcc hn
    subst hcc
    subst hn
    have m5 := lb7 b5 (by simp); have m6 := lb7 b6 (by simp); have m7 := lb7 b7 (by simp); have m8 := lb7 b8 (by simp)
    apply CallI.use
    focus (exact fun w3 h3 => zsof_any (lastS (seq old part cz cr)) a' c' w3 (Sl.go hOw.sl (at_below h3 (by simp)) (at_below h3 (by simp)).size))
    rintro v w12 v12 h12 hB12 ⟨a12, c12, rfl, hO12⟩
    have hm12 : v12.heap[D]? = some (.deferred (some [])) := (hB12.block D (Nat.lt_of_lt_of_le hDW h12.size)).trans ((h12.step D hDW (by simp)).trans hmark)
    have hD12 : D < v12.heap.size := (Array.getElem?_eq_some_iff.1 hm12).1
    have hDb : D ∉ [b8, b6] := fun hm => by simp at hm; omega
    refine EndM.mk fun w13 h13 => ⟨⟨by show w.heap.size ≤ D; omega, (h13.step D hD12 hDb).trans hm12⟩, fun w14 hu => ?_⟩
    have hs12 : W.heap.size ≤ w12.heap.size := h12.size
    have hO13 := hO12.at h13 (fun b hb => by simp at hb; omega)
    refine ⟨_, _, rfl, (Own.kept (row := some D) hO13 ⟨hu.2.1, hu.2.2.1, hu.2.2.2.1, by rw [hu.1]; exact Nat.le_refl _, fun k _ hk => hu.2.2.2.2 k (fun e => hk (by rw [e]))⟩ ?_).lower h12.below.size⟩
    obtain ⟨_, ⟨e, _⟩ | ⟨g, cp, cur, e, _, hgb, _⟩⟩ := id hO13
    · rw [e]; exact .inl rfl
    · rw [e]
      refine .inr (fun e' => ?_)
      injection e' with e'
      subst e'
      have := (h13.step _ hD12 hDb).trans hm12
      rw [hgb] at this; cases this
  case stop =>
    rintro D cd e pre q W hD hSp ⟨rfl, pre0, x, rfl, hz, hx, hq⟩ hex hmark
    have hDW : D < W.heap.size := (Array.getElem?_eq_some_iff.1 hmark).1
    obtain ⟨t, ht⟩ := hSp
    have hf : (seq old part cz cr).find? (fun x => decide (x.2 ≠ 0)) = some (rv x) := by
      rw [← ht, List.map_append, List.append_assoc, List.find?_append, List.find?_eq_none.2 (fun y hy => by
        obtain ⟨z, hz', rfl⟩ := List.mem_map.1 hy
        simp [rv, hz z hz'])]
      simp [rv, hx]
    rw [hf]
    injection hex with hex
    subst hex
    refine EndM.mk fun w10 h10 => ⟨⟨by show w.heap.size ≤ D; omega, (h10.step D hDW (by simp)).trans hmark⟩, fun w11 hu => ?_⟩
    exact ⟨_, _, by rw [hq]; rfl, Own.nil⟩
end Go.Proofs.YtjbhpfmnfdebkaaGreat

/-
  What the rounds of a plus are, as sets of points; no program is in sight.
-/
namespace Go.Proofs.YtjbhpfmnfdebkaaGreat
set_option linter.unusedVariables false
set_option linter.unusedSimpArgs false
open Go.RowKit Go.Proofs.YtjbhpfmnfdebkaaGreat.Eng Enc
namespace Cl
open Cv Zs Ky Cmp
theorem regs6 {long : Int} (hl : 1 ≤ long ∧ long ≤ 6) : (regs long).length ≤ 507 := by
  unfold regs Rg.up
  rw [List.length_map]
  refine Nat.le_trans (List.length_filter_le _ _) ?_
  rw [List.length_range, Rg.many_doc (by omega)]
  have hm := Fr.mul_bd (u := 3 * (2 * long + 1)) (v := 2 * long + 1) (m := 39) (n := 13) (by omega) (by omega) (by omega) (by omega)
  simp only
  omega
/-- a list of matches up to a moment, as it is kept. -/
structure Good (long : Int) (l : List Zn) : Prop where
  ml : Ml long l
  same : Cv.prune l = (l, 0)
theorem Good.len {long : Int} (hl : 1 ≤ long ∧ long ≤ 6) {l : List Zn} (h : Good long l) : l.length ≤ 507 := Nat.le_trans (h.ml.len (by omega)) (regs6 hl)
theorem Good.chk {long : Int} {l : List Zn} (h : Good long l) (z : Zn) (hz : z ∈ l) : Zo.chk z = 0 := (h.ml.mt z hz).chk
theorem good_of {long : Int} (hl : 1 ≤ long ∧ long ≤ 6) {l : List Zn} (hlen : l.length ≤ 4096) (h : Ml long l) (hf : Fine l) : Good long l := by
  have h1 := prune_ml (long := long) (by omega) hlen h.mt
  exact ⟨h, Prod.ext (hf.2.2 h1.1) h1.1⟩
theorem good_nil {long : Int} : Good long [] := ⟨Ml.nil, by
  unfold Cv.prune
  rw [Cv.sorted_self List.Pairwise.nil]
  decide +kernel⟩
theorem or_good {long : Int} (hl : 1 ≤ long ∧ long ≤ 6) {a b : List Zn} (ha : Good long a) (hb : Good long b) : (Zs.or a b).2 = 0 ∧ Good long (Zs.or a b).1 ∧ ∀ t, Pts (Zs.or a b).1 t ↔ Pts a t ∨ Pts b t := by
  have h1 := ha.len hl
  have h2 := hb.len hl
  obtain ⟨h3, h4⟩ := or_ml (long := long) (by omega) ha.ml.mt hb.ml.mt (by omega)
  obtain ⟨_, h5, h6⟩ := or_ok h3
  exact ⟨h3, good_of hl h5.1 h4 h5, h6⟩
theorem comp_good {long : Int} (hl : 1 ≤ long ∧ long ≤ 6) {a b : List Zn} (ha : Good long a) (hb : Good long b) : (Zs.comp a b).2 = 0 ∧ Good long (Zs.comp a b).1 ∧ ∀ t, Pts (Zs.comp a b).1 t ↔ Thru (Pts a) (Pts b) t := by
  have h1 := ha.len hl
  have h2 := hb.len hl
  obtain ⟨h3, h4⟩ := comp_ml (long := long) (by omega) ha.ml.mt hb.ml.mt (by omega) (by omega)
  obtain ⟨h5, h6⟩ := comp_pts h3
  exact ⟨h3, good_of hl h5.1 h4 h5, h6⟩
theorem in_good {long : Int} (hl : 1 ≤ long ∧ long ≤ 6) {a b : List Zn} (ha : Good long a) (hb : Good long b) : (all_ a b).2 = 0 ∧ ((all_ a b).1 = true ↔ ∀ t, Pts a t → Pts b t) := by
  have h1 := ha.len hl
  have h2 := hb.len hl
  have h3 := all_sm (long := long) (by omega) ha.ml.mt hb.chk (by omega) (by omega)
  refine ⟨h3, (all_ok h3).trans ⟨fun h t ⟨z, hz, ht⟩ => h z hz t ht, fun h z hz t ht => h t ⟨z, hz, ht⟩⟩⟩
theorem good_check {long : Int} (hl : 1 ≤ long ∧ long ≤ 6) {l : List Zn} (hc : Zs.check l = 0) (ho : odd l = false) (hz : ∀ z, z ∈ l → z.c ≤ 2 * long + 1) : Good long l := by
  unfold Zs.check at hc
  split at hc
  case isFalse => cases hc
  rename_i h
  have hw := Cv.prune_ok h.1
  have hm : ∀ z, z ∈ l → Mt long z := fun z hzm => by
    unfold odd at ho
    have h1 := List.any_eq_false.1 ho z hzm
    unfold oddZ at h1
    simp only [Bool.or_eq_true, decide_eq_true_eq, not_or] at h1
    exact ⟨hw.chk z hzm, by omega, by omega, hz z hzm⟩
  have h2 := (prune_ml (long := long) (by omega) hw.len hm).2
  rw [h.2] at h2
  exact ⟨h2, Prod.ext h.2 h.1⟩
theorem longer_good {long : Int} (hl : 1 ≤ long ∧ long ≤ 6) {a b p : List Zn} (cz : Int) (ha : Good long a) (hb : Good long b) (hp : Good long p) :
    (longer a b p cz = ([], [], 300) ∧ cz < ((regs long).length : Int)) ∨
    ((longer a b p cz).2.2 = 0 ∧ Good long (longer a b p cz).1 ∧ Good long (longer a b p cz).2.1 ∧ (∀ t, Pts (longer a b p cz).1 t ↔ Pts a t ∨ Thru (Pts b) (Pts p) t) ∧ ∀ t, Pts (longer a b p cz).2.1 t ↔ Thru (Pts b) (Pts p) t) := by
  obtain ⟨c1, c2, c3⟩ := comp_good hl hb hp
  obtain ⟨o1, o2, o3⟩ := or_good hl ha c2
  have l1 := c2.ml.len (by omega)
  have l2 := o2.ml.len (by omega)
  unfold longer
  by_cases h1 : cz < ((Zs.comp b p).1.length : Int)
  · rw [if_pos (.inr h1)]
    exact .inl ⟨rfl, by omega⟩
  rw [if_neg (fun h => h.elim (fun k => k c1) h1)]
  by_cases h2 : cz < ((Zs.or a (Zs.comp b p).1).1.length : Int)
  · rw [if_pos (.inr h2)]
    exact .inl ⟨rfl, by omega⟩
  rw [if_neg (fun h => h.elim (fun k => k o1) h2)]
  exact .inr ⟨rfl, o2, c2, fun t => by rw [o3 t, c3 t], c3⟩
/-- a round, and the next one. -/
def Nx (p a b : List Zn) : Prop := (∀ t, Pts b t ↔ Pts a t ∨ Thru (Pts a) (Pts p) t) ∧ ∃ t, Pts b t ∧ ¬ Pts a t
/-- rounds, one behind the other. -/
def Ch (p : List Zn) : List Zn → List (List Zn) → Prop
  | _, [] => True
  | a, b :: l => Nx p a b ∧ Ch p b l
/-- the last one of some. -/
def lst : List Zn → List (List Zn) → List Zn
  | a, [] => a
  | _, b :: l => lst b l
def Shut (p a : List Zn) : Prop := ∀ t, Thru (Pts a) (Pts p) t → Pts a t
theorem thru_mono {P Q R : (Nat → Rat) → Prop} (h : ∀ t, P t → Q t) (t : Nat → Rat) (ht : Thru P R t) : Thru Q R t := by
  obtain ⟨s, h1, h2⟩ := ht
  exact ⟨s, h _ h1, h2⟩
theorem go_good {long : Int} (hl : 1 ≤ long ∧ long ≤ 6) {p : List Zn} (cz : Int) (hp : Good long p) : ∀ (k : Nat) (all last : List Zn), Good long all → Good long last → all ≠ [] → (∀ t, Pts last t → Pts all t) → (∀ t, Thru (Pts all) (Pts p) t → Pts all t ∨ Thru (Pts last) (Pts p) t) →
    ∃ ls tail, go p cz k all last = ls.map (fun l => (l, (0 : Int))) ++ tail ∧
      ((tail = [] ∧ (∀ l, l ∈ ls → Good long l) ∧ ∃ ms, ls = all :: ms ∧ Ch p all ms ∧ Shut p (lst all ms)) ∨ (tail = [([], 300)] ∧ cz < ((regs long).length : Int)) ∨ (tail = [([], 301)] ∧ ∃ ms, Ch p all ms ∧ ms.length = k))
  | 0, all, last, ha, hla, hne, hsub, hH => by
    refine ⟨[], [([], 301)], ?_, .inr (.inr ⟨rfl, [], trivial, rfl⟩)⟩
    unfold go
    rw [if_neg (by simpa using hne)]; rfl
  | k + 1, all, last, ha, hla, hne, hsub, hH => by
    rw [go_succ, if_neg (by simpa using hne)]
    rcases longer_good hl cz ha hla hp with ⟨h1, h2⟩ | ⟨h1, h2, h3, h4, h5⟩
    · rw [h1, if_pos (by simp)]
      exact ⟨[all], [([], 300)], rfl, .inr (.inl ⟨rfl, h2⟩)⟩
    rw [if_neg (by rw [h1]; simp)]
    generalize (longer all last p cz).1 = A at h2 h4 ⊢
    generalize (longer all last p cz).2.1 = M at h3 h5 ⊢
    obtain ⟨i1, i2⟩ := in_good hl h3 ha
    by_cases hin : (all_ M all).1 = true
    · rw [if_pos hin]
      refine ⟨[all], [], rfl, .inl ⟨rfl, fun l hlm => by rw [List.mem_singleton.1 hlm]; exact ha, [], rfl, trivial, fun t ht => ?_⟩⟩
      rcases hH t ht with h | h
      · exact h
      · exact i2.1 hin t ((h5 t).2 h)
    · rw [if_neg hin]
      have hx : ∃ t, Pts M t ∧ ¬ Pts all t := by
        apply Classical.byContradiction
        intro h
        exact hin (i2.2 fun t ht => Classical.byContradiction fun hn => h ⟨t, ht, hn⟩)
      have hnx : Nx p all A := by
        refine ⟨fun t => (h4 t).trans ⟨?_, ?_⟩, ?_⟩
        · rintro (h | h)
          · exact .inl h
          · exact .inr (thru_mono hsub t h)
        · rintro (h | h)
          · exact .inl h
          · exact hH t h
        · obtain ⟨t, h, hn⟩ := hx
          exact ⟨t, (h4 t).2 (.inr ((h5 t).1 h)), hn⟩
      have hA : A ≠ [] := by
        rintro rfl
        obtain ⟨_, t, ⟨z, hz, _⟩, _⟩ := hnx
        cases hz
      obtain ⟨ls, tail, e, h⟩ := go_good hl cz hp k A M h2 h3 hA (fun t ht => (h4 t).2 (.inr ((h5 t).1 ht))) fun t ht => by
        obtain ⟨s, q1, q2⟩ := ht
        rcases (h4 _).1 q1 with q | q
        · exact .inl ((hnx.1 t).2 (.inr ⟨s, q, q2⟩))
        · exact .inr ⟨s, (h5 _).2 q, q2⟩
      refine ⟨all :: ls, tail, by rw [e]; rfl, ?_⟩
      rcases h with ⟨rfl, hg, ms, rfl, h6, h7⟩ | h | ⟨rfl, ms, h6, h7⟩
      · exact .inl ⟨rfl, fun l hlm => (List.mem_cons.1 hlm).elim (fun e => e ▸ ha) (hg l), A :: ms, rfl, ⟨hnx, h6⟩, h7⟩
      · exact .inr (.inl h)
      · exact .inr (.inr ⟨rfl, A :: ms, ⟨hnx, h6⟩, by simp [h7]⟩)
/-- the first round. -/
def First (old p a : List Zn) : Prop := ∀ t, Pts a t ↔ Pts p t ∨ Thru (Pts old) (Pts p) t
theorem seq_good {long : Int} (hl : 1 ≤ long ∧ long ≤ 6) {old p : List Zn} (cz cr : Int) (ho : Good long old) (hp : Good long p) :
    ∃ ls tail, seq old p cz cr = ls.map (fun l => (l, (0 : Int))) ++ tail ∧
      ((tail = [] ∧ (∀ l, l ∈ ls → Good long l) ∧ ((ls = [] ∧ First old p []) ∨ ∃ a ms, ls = a :: ms ∧ a ≠ [] ∧ First old p a ∧ Ch p a ms ∧ Shut p (lst a ms))) ∨ (tail = [([], 300)] ∧ cz < ((regs long).length : Int)) ∨ (tail = [([], 301)] ∧ ∃ a ms, a ≠ [] ∧ First old p a ∧ Ch p a ms ∧ ms.length = cr.toNat)) := by
  unfold seq
  by_cases h0 : cz < (p.length : Int)
  · rw [if_pos h0]
    have := hp.ml.len (by omega)
    exact ⟨[], [([], 300)], rfl, .inr (.inl ⟨rfl, by omega⟩)⟩
  rw [if_neg h0]
  rcases longer_good hl cz hp ho hp with ⟨h1, h2⟩ | ⟨h1, h2, h3, h4, h5⟩
  · rw [h1, if_pos (by simp)]
    exact ⟨[], [([], 300)], rfl, .inr (.inl ⟨rfl, h2⟩)⟩
  rw [if_neg (by rw [h1]; simp)]
  generalize (longer p old p cz).1 = A at h2 h4 ⊢
  by_cases hA : A = []
  · subst hA
    refine ⟨[], [], ?_, .inl ⟨rfl, fun l hlm => (nomatch hlm), .inl ⟨rfl, h4⟩⟩⟩
    cases cr.toNat <;> rfl
  · obtain ⟨ls, tail, e, h⟩ := go_good hl cz hp cr.toNat A A h2 h2 hA (fun t h => h) fun t h => .inr h
    refine ⟨ls, tail, e, ?_⟩
    rcases h with ⟨h6, hg, ms, h7, h8, h9⟩ | h | ⟨h6, ms, h7, h8⟩
    · exact .inl ⟨h6, hg, .inr ⟨A, ms, h7, hA, h4, h8, h9⟩⟩
    · exact .inr (.inl h)
    · exact .inr (.inr ⟨h6, A, ms, hA, h4, h7, h8⟩)
theorem find_ls (ls : List (List Zn)) (tail : List (List Zn × Int)) : (ls.map (fun l => (l, (0 : Int))) ++ tail).find? (fun x => decide (x.2 ≠ 0)) = tail.find? (fun x => decide (x.2 ≠ 0)) := by
  rw [List.find?_append, List.find?_eq_none.2 (fun x hx => by
    obtain ⟨l, _, rfl⟩ := List.mem_map.1 hx
    simp)]
  rfl
theorem lst_mem : ∀ (a : List Zn) (ms : List (List Zn)), lst a ms ∈ a :: ms
  | a, [] => by simp [lst]
  | a, b :: ms => List.mem_cons_of_mem _ (lst_mem b ms)
theorem lst_last : ∀ (a : List Zn) (ms : List (List Zn)), (a :: ms).getLast? = some (lst a ms)
  | a, [] => rfl
  | a, b :: ms => by rw [List.getLast?_cons_cons]; exact lst_last b ms
theorem ch_sub {p : List Zn} : ∀ (a : List Zn) (ms : List (List Zn)), Ch p a ms → ∀ t, Pts a t → Pts (lst a ms) t
  | a, [], _, t, h => h
  | a, b :: ms, hc, t, h => ch_sub b ms hc.2 t ((hc.1.1 t).2 (.inl h))
theorem close_good {long : Int} (hl : 1 ≤ long ∧ long ≤ 6) {old p : List Zn} (cz cr : Int) (h0 : chk old p cz cr = 0) (ho : Good long old) (hp : Good long p) :
    (∃ e, close old p cz cr = ([], 0, e) ∧ rounds old p cz cr = ([], e) ∧ e ≠ 0 ∧ ((e = 300 ∧ cz < ((regs long).length : Int)) ∨ (e = 301 ∧ ∃ a ms, a ≠ [] ∧ First old p a ∧ Ch p a ms ∧ ms.length = cr.toNat))) ∨
    (close old p cz cr = ([], 0, 0) ∧ rounds old p cz cr = ([], 0) ∧ First old p []) ∨
    (∃ a ms, close old p cz cr = (lst a ms, (ms.length : Int) + 1, 0) ∧ rounds old p cz cr = (a :: ms, 0) ∧ a ≠ [] ∧ First old p a ∧ Ch p a ms ∧ Shut p (lst a ms) ∧ ∀ l, l ∈ a :: ms → Good long l) := by
  obtain ⟨ls, tail, e, h⟩ := seq_good hl cz cr ho hp
  unfold close rounds
  rw [if_neg (by rw [h0]; simp), if_neg (by rw [h0]; simp), e, find_ls]
  rcases h with ⟨rfl, hg, ⟨rfl, h1⟩ | ⟨a, ms, rfl, h1, h2, h3, h4⟩⟩ | ⟨rfl, h1⟩ | ⟨rfl, h1⟩
  · refine .inr (.inl ⟨?_, rfl, h1⟩)
    have := (good_nil (long := long)).same
    show ((Cv.prune []).1, _, (Cv.prune []).2) = _
    rw [this]; rfl
  · refine .inr (.inr ⟨a, ms, ?_, ?_, h1, h2, h3, h4, hg⟩)
    · have h5 := (hg _ (lst_mem a ms)).same
      have h6 : lastS ((a :: ms).map (fun l => (l, (0 : Int))) ++ []) = lst a ms := by
        unfold lastS
        rw [List.append_nil, List.getLast?_map, lst_last]; rfl
      rw [h6, h5]
      simp
    · show (_, (0 : Int)) = _
      rw [List.append_nil, List.map_map]
      congr 1
      refine (List.map_congr_left fun l hlm => ?_).trans (List.map_id _)
      show (Cv.prune l).1 = l
      rw [(hg l hlm).same]
  · exact .inl ⟨300, rfl, rfl, by decide, .inl ⟨rfl, h1⟩⟩
  · exact .inl ⟨301, rfl, rfl, by decide, .inr ⟨rfl, h1⟩⟩
end Cl
end Go.Proofs.YtjbhpfmnfdebkaaGreat

/-
  The document's answer: ref09.Comp, by the engine.
-/
namespace Go.Proofs.YtjbhpfmnfdebkaaGreat
set_option linter.unusedVariables false
set_option linter.unusedSimpArgs false
set_option maxRecDepth 100000
open Go.RowKit Go.Proofs.YtjbhpfmnfdebkaaGreat.Eng Enc

namespace Cmp
open Dbm
end Cmp
end Go.Proofs.YtjbhpfmnfdebkaaGreat

/-
  Compositions by the document's closing. No program is in sight.
-/
namespace Go.Proofs.YtjbhpfmnfdebkaaGreat
set_option linter.unusedVariables false
set_option linter.unusedSimpArgs false
open Go.RowKit Go.Proofs.YtjbhpfmnfdebkaaGreat.Eng Enc
namespace Cmp
open Dbm
end Cmp
end Go.Proofs.YtjbhpfmnfdebkaaGreat

/-
  The document's answer: ref09.Comp, by the engine (the second part).
-/
namespace Go.Proofs.YtjbhpfmnfdebkaaGreat
set_option linter.unusedVariables false
set_option linter.unusedSimpArgs false
set_option maxRecDepth 100000
open Go.RowKit Go.Proofs.YtjbhpfmnfdebkaaGreat.Eng Enc

end Go.Proofs.YtjbhpfmnfdebkaaGreat

/-
  The document's answer of layer 11, by the engine: Less.
-/
namespace Go.Proofs.YtjbhpfmnfdebkaaGreat
set_option linter.unusedVariables false
set_option linter.unusedSimpArgs false
set_option maxRecDepth 100000
open Go.RowKit Go.Proofs.YtjbhpfmnfdebkaaGreat.Eng Enc

namespace Mi
open Dbm
/-- where Less stands. -/
structure LSit (w w2 V : World) (Bb : Nat) (b : Zn) (sv : Value) (out : List Zn) (X : World) : Prop where
  below : Below w.heap.size w X
  size : w2.heap.size ≤ X.heap.size
  size0 : V.heap.size ≤ X.heap.size
  ha : Holds X Bb b
  own : Own 104 w2.heap.size X sv out
section
variable {w w2 V X Y : World} {Bb : Nat} {b : Zn} {sv : Value} {out : List Zn}
theorem LSit.at {hp : List LB} {r L : List Nat} (s : LSit w w2 V Bb b sv out X) (h : At ⟨w, w.heap.size, Nat.le_refl _⟩ hp r L X Y) (hL : ∀ x, x ∈ L → X.heap.size ≤ x ∨ x ≠ Bb ∧ sv.ownBlock ≠ some x) : LSit w w2 V Bb b sv out Y := by
  refine ⟨h.below, Nat.le_trans s.size h.size, Nat.le_trans s.size0 h.size, s.ha.same (h.step Bb s.ha.lt fun hm => ?_), ?_⟩
  · rcases hL _ hm with h1 | h1
    · have := s.ha.lt; omega
    · exact h1.1 rfl
  · obtain ⟨hl, h0 | ⟨g, cap, cur, e1, e2, e3, e4⟩⟩ := s.own
    · exact ⟨hl, .inl h0⟩
    · have hg := (Array.getElem?_eq_some_iff.1 e3).1
      refine ⟨hl, .inr ⟨g, cap, cur, e1, e2, (h.step g hg (fun e => ?_)).trans e3, e4⟩⟩
      rcases hL g e with h1 | h1
      · omega
      · exact h1.2 (by rw [e1]; rfl)
theorem LSit.go (s : LSit w w2 V Bb b sv out X) (hw : w.heap.size ≤ w2.heap.size) (hB : Below X.heap.size X Y) : LSit w w2 V Bb b sv out Y :=
  ⟨s.below.trans (hB.mono s.below.size), Nat.le_trans s.size hB.size, Nat.le_trans s.size0 hB.size, s.ha.below hB, s.own.below hB⟩
theorem LSit.grow {Z : World} {tv : Value} {out2 : List Zn} (s : LSit w w2 V Bb b sv out Y) (hw : w.heap.size ≤ w2.heap.size) (hBb : sv.ownBlock ≠ some Bb) (hg : Y.grownBy Z sv.ownBlock) (hO : Own 104 w2.heap.size Z tv out2) : LSit w w2 V Bb b tv out2 Z :=
  ⟨⟨hg.os.trans s.below.os, hg.tape.trans s.below.tape, hg.output.trans s.below.output, Nat.le_trans s.below.size hg.size, fun k hk => (hg.block k (Nat.lt_of_lt_of_le hk s.below.size) (fun e => by have := (s.own.lt k e.symm).1; omega)).trans (s.below.block k hk)⟩,
    Nat.le_trans s.size hg.size, Nat.le_trans s.size0 hg.size, s.ha.same (hg.block Bb s.ha.lt (fun e => hBb e.symm)), hO⟩
end
end Mi
end Go.Proofs.YtjbhpfmnfdebkaaGreat

/-
  The document's answer of layer 11, by the engine: Rest.
-/
namespace Go.Proofs.YtjbhpfmnfdebkaaGreat
set_option linter.unusedVariables false
set_option linter.unusedSimpArgs false
set_option maxRecDepth 100000
open Go.RowKit Go.Proofs.YtjbhpfmnfdebkaaGreat.Eng Enc

end Go.Proofs.YtjbhpfmnfdebkaaGreat

/-
  The document's answer of layer 12, by the engine: Check, Covered, In, AllCovered, All.
-/
namespace Go.Proofs.YtjbhpfmnfdebkaaGreat
set_option linter.unusedVariables false
set_option linter.unusedSimpArgs false
set_option maxRecDepth 100000
open Go.RowKit Go.Proofs.YtjbhpfmnfdebkaaGreat.Eng Enc

namespace Cv
theorem checked_two {a b : List Zn} : (a.length ≤ 4096 ∧ b.length ≤ 4096 ∧ (∀ z, z ∈ a → Zo.chk z = 0) ∧ (∀ z, z ∈ b → Zo.chk z = 0) → checked [a, b] = 0) ∧ (4096 < a.length ∨ 4096 < b.length → checked [a, b] = 4) ∧ (a.length ≤ 4096 → b.length ≤ 4096 → ((∃ z, z ∈ a ∧ Zo.chk z ≠ 0) ∨ ∃ z, z ∈ b ∧ Zo.chk z ≠ 0) → checked [a, b] = 8) := by
  unfold checked
  simp only [List.any_cons, List.any_nil, Bool.or_false, Bool.or_eq_true, decide_eq_true_eq]
  have ho : ∀ l : List Zn, l.any odd = true ↔ ∃ z, z ∈ l ∧ Zo.chk z ≠ 0 := fun l => by
    rw [List.any_eq_true]
    simp [odd]
  simp only [ho]
  refine ⟨fun ⟨h1, h2, h3, h4⟩ => ?_, fun h => ?_, fun h1 h2 h3 => ?_⟩
  · rw [if_neg (by omega), if_neg]
    rintro (⟨z, hz, hc⟩ | ⟨z, hz, hc⟩)
    · exact hc (h3 z hz)
    · exact hc (h4 z hz)
  · rw [if_pos h]
  · rw [if_neg (by omega), if_pos h3]
end Cv
end Go.Proofs.YtjbhpfmnfdebkaaGreat

/-
  The document's answer of layer 12, by the engine: AllCovered, All, without; the order of zones.
-/
namespace Go.Proofs.YtjbhpfmnfdebkaaGreat
set_option linter.unusedVariables false
set_option linter.unusedSimpArgs false
set_option maxRecDepth 100000
open Go.RowKit Go.Proofs.YtjbhpfmnfdebkaaGreat.Eng Enc

end Go.Proofs.YtjbhpfmnfdebkaaGreat

/-
  The document's answer of layer 8, by the engine: Cmp.
-/
namespace Go.Proofs.YtjbhpfmnfdebkaaGreat
set_option linter.unusedVariables false
set_option linter.unusedSimpArgs false
set_option maxRecDepth 100000
open Go.RowKit Go.Proofs.YtjbhpfmnfdebkaaGreat.Eng Enc

end Go.Proofs.YtjbhpfmnfdebkaaGreat

/-
  The least of a list behind a place: what the document's Sorted takes; plain.
-/
namespace Go.Proofs.YtjbhpfmnfdebkaaGreat
set_option linter.unusedVariables false
set_option linter.unusedSimpArgs false
open Go.RowKit

namespace Cv
open Zo
/-- x comes behind all of out. -/
def Nx (out : List Zn) (x : Zn) : Prop := ∀ y, out.getLast? = some y → Lt y x
/-- what the inner scan has found among the first i. -/
def Sc (l out : List Zn) (i : Nat) (b : Int) : Prop :=
  (b = -1 ∧ ∀ k x, k < i → l[k]? = some x → ¬ Nx out x) ∨
  (∃ j y, b = (j : Nat) ∧ j < i ∧ l[j]? = some y ∧ Nx out y ∧ ∀ k x, k < i → l[k]? = some x → Nx out x → ¬ Lt x y)
theorem Sc.start (l out : List Zn) : Sc l out 0 (-1) := .inl ⟨rfl, fun k x h => by omega⟩
theorem Sc.skip {l out : List Zn} {i : Nat} {b : Int} {x : Zn} (h : Sc l out i b) (hx : l[i]? = some x) (hn : ¬ Nx out x) : Sc l out (i + 1) b := by
  rcases h with ⟨rfl, h⟩ | ⟨j, y, rfl, hj, hy, hn2, h⟩
  · refine .inl ⟨rfl, fun k x' hk hx' => ?_⟩
    by_cases e : k = i
    · subst e; rw [hx] at hx'; cases hx'; exact hn
    · exact h k x' (by omega) hx'
  · refine .inr ⟨j, y, rfl, by omega, hy, hn2, fun k x' hk hx' hn' => ?_⟩
    by_cases e : k = i
    · subst e; rw [hx] at hx'; cases hx'; exact absurd hn' hn
    · exact h k x' (by omega) hx' hn'
theorem Sc.first {l out : List Zn} {i : Nat} {x : Zn} (h : Sc l out i (-1)) (hx : l[i]? = some x) (hn : Nx out x) : Sc l out (i + 1) (i : Nat) := by
  rcases h with ⟨_, h⟩ | ⟨j, y, e, _⟩
  · refine .inr ⟨i, x, rfl, by omega, hx, hn, fun k x' hk hx' hn' => ?_⟩
    by_cases e : k = i
    · subst e; rw [hx] at hx'; cases hx'; exact Lt.irrefl _
    · exact absurd hn' (h k x' (by omega) hx')
  · omega
theorem Sc.keep {l out : List Zn} {i j : Nat} {x y : Zn} (h : Sc l out i (j : Nat)) (hx : l[i]? = some x) (hy : l[j]? = some y) (hn : ¬ Lt x y) : Sc l out (i + 1) (j : Nat) := by
  rcases h with ⟨e, _⟩ | ⟨j', y', e, hj, hy', hn2, h⟩
  · omega
  · have : j' = j := by omega
    subst this
    rw [hy] at hy'; cases hy'
    refine .inr ⟨j', y, rfl, by omega, hy, hn2, fun k x' hk hx' hn' => ?_⟩
    by_cases e : k = i
    · subst e; rw [hx] at hx'; cases hx'; exact hn
    · exact h k x' (by omega) hx' hn'
theorem Sc.less {l out : List Zn} {i j : Nat} {x y : Zn} (h : Sc l out i (j : Nat)) (hx : l[i]? = some x) (hy : l[j]? = some y) (hN : Nx out x) (hn : Lt x y) : Sc l out (i + 1) (i : Nat) := by
  rcases h with ⟨e, _⟩ | ⟨j', y', e, hj, hy', hn2, h⟩
  · omega
  · have : j' = j := by omega
    subst this
    rw [hy] at hy'; cases hy'
    refine .inr ⟨i, x, rfl, by omega, hx, hN, fun k x' hk hx' hn' hlt => ?_⟩
    by_cases e : k = i
    · subst e; rw [hx] at hx'; cases hx'; exact Lt.irrefl _ hlt
    · exact h k x' (by omega) hx' hn' (Lt.trans hlt hn)
theorem last_take {S : List Zn} {p : Nat} (hp : p ≤ S.length) : (S.take p).getLast? = if p = 0 then none else S[p - 1]? := by
  rw [List.getLast?_eq_getElem?, List.length_take, Nat.min_eq_left hp]
  by_cases h : p = 0
  · subst h; simp
  · rw [if_neg h, List.getElem?_take, if_pos (by omega)]
theorem strict_at {S : List Zn} (h : S.Pairwise Lt) {i j : Nat} {x y : Zn} (hx : S[i]? = some x) (hy : S[j]? = some y) (hij : i < j) : Lt x y := by
  obtain ⟨h1, rfl⟩ := List.getElem?_eq_some_iff.1 hx
  obtain ⟨h2, rfl⟩ := List.getElem?_eq_some_iff.1 hy
  exact List.pairwise_iff_getElem.1 h i j h1 h2 hij
theorem nx_at {S : List Zn} (h : S.Pairwise Lt) {p j : Nat} {x : Zn} (hp : p ≤ S.length) (hx : S[j]? = some x) : Nx (S.take p) x ↔ p ≤ j := by
  unfold Nx
  rw [last_take hp]
  constructor
  · intro hn
    by_cases e : p = 0
    · omega
    rw [if_neg e] at hn
    obtain ⟨y, hy⟩ : ∃ y, S[p - 1]? = some y := ⟨_, List.getElem?_eq_getElem (by omega)⟩
    have hlt := hn y hy
    refine Nat.le_of_not_lt fun hj => ?_
    by_cases e2 : j = p - 1
    · subst e2; rw [hx] at hy; cases hy; exact Lt.irrefl _ hlt
    · exact Lt.irrefl _ (Lt.trans hlt (strict_at h hx hy (by omega)))
  · intro hpj y hy
    by_cases e : p = 0
    · rw [if_pos e] at hy; cases hy
    · rw [if_neg e] at hy
      exact strict_at h hy hx (by omega)
theorem Sc.done {l : List Zn} {p : Nat} (hp : p ≤ (sorted l).length) (h : Sc l ((sorted l).take p) l.length (-1)) : (sorted l).take p = sorted l := by
  rcases h with ⟨_, h⟩ | ⟨j, y, e, _⟩
  · refine List.take_of_length_le (Nat.le_of_not_lt fun hlt => ?_)
    have hx := List.getElem?_eq_getElem hlt
    obtain ⟨k, hk⟩ := List.mem_iff_getElem?.1 ((sorted_mem l _).1 (List.mem_of_getElem? hx))
    exact h k _ (List.getElem?_eq_some_iff.1 hk).1 hk ((nx_at (sorted_strict l) hp hx).2 (Nat.le_refl _))
  · omega
theorem Sc.more {l : List Zn} {p j : Nat} {y : Zn} (hp : p ≤ (sorted l).length) (h : Sc l ((sorted l).take p) l.length (j : Nat)) (hy : l[j]? = some y) : (sorted l)[p]? = some y := by
  rcases h with ⟨e, _⟩ | ⟨j', y', e, hj, hy', hn2, h⟩
  · omega
  · have : j' = j := by omega
    subst this
    rw [hy] at hy'; cases hy'
    obtain ⟨q, hq⟩ := List.mem_iff_getElem?.1 ((sorted_mem l y).2 (List.mem_of_getElem? hy))
    have hpq := (nx_at (sorted_strict l) hp hq).1 hn2
    by_cases e : p = q
    · rw [e]; exact hq
    have hql := (List.getElem?_eq_some_iff.1 hq).1
    have hx := List.getElem?_eq_getElem (l := sorted l) (i := p) (by omega)
    obtain ⟨k, hk⟩ := List.mem_iff_getElem?.1 ((sorted_mem l _).1 (List.mem_of_getElem? hx))
    exact absurd (strict_at (sorted_strict l) hx hq (by omega)) (h k _ (List.getElem?_eq_some_iff.1 hk).1 hk ((nx_at (sorted_strict l) hp hx).2 (Nat.le_refl _)))
end Cv
end Go.Proofs.YtjbhpfmnfdebkaaGreat

/-
  The document's answer of layer 12, by the engine: Sorted.
-/
namespace Go.Proofs.YtjbhpfmnfdebkaaGreat
set_option linter.unusedVariables false
set_option linter.unusedSimpArgs false
set_option maxRecDepth 100000
open Go.RowKit Go.Proofs.YtjbhpfmnfdebkaaGreat.Eng Enc

namespace Zo
end Zo
namespace Cv
theorem Sc.neg {l out : List Zn} {i : Nat} {b : Int} (h : Sc l out i b) (hb : b < 0) : b = -1 := by
  rcases h with ⟨rfl, _⟩ | ⟨j, y, rfl, _⟩ <;> omega
theorem Sc.pos {l out : List Zn} {i : Nat} {b : Int} (h : Sc l out i b) (hb : ¬ b < 0) : ∃ j y, b = (j : Nat) ∧ j < i ∧ l[j]? = some y := by
  rcases h with ⟨rfl, _⟩ | ⟨j, y, rfl, hj, hy, _⟩
  · omega
  · exact ⟨j, y, rfl, hj, hy⟩
end Cv
end Go.Proofs.YtjbhpfmnfdebkaaGreat

/-
  The document's answer of layer 12, by the engine: Wanted, Prune.
-/
namespace Go.Proofs.YtjbhpfmnfdebkaaGreat
set_option linter.unusedVariables false
set_option linter.unusedSimpArgs false
set_option maxRecDepth 100000
open Go.RowKit Go.Proofs.YtjbhpfmnfdebkaaGreat.Eng Enc

end Go.Proofs.YtjbhpfmnfdebkaaGreat

/-
  The document's answer of layer 12, by the engine: what Prune answers is a row of its own.
-/
namespace Go.Proofs.YtjbhpfmnfdebkaaGreat
set_option linter.unusedVariables false
set_option linter.unusedSimpArgs false
set_option maxRecDepth 100000
open Go.RowKit Go.Proofs.YtjbhpfmnfdebkaaGreat.Eng Enc

end Go.Proofs.YtjbhpfmnfdebkaaGreat

/-
  rallentandoref11.Same: whether two lists of zones are the same.
-/
namespace Go.Proofs.YtjbhpfmnfdebkaaGreat
set_option linter.unusedVariables false
set_option linter.unusedSimpArgs false
set_option maxRecDepth 100000
open Go.RowKit Go.Proofs.YtjbhpfmnfdebkaaGreat.Eng Enc

end Go.Proofs.YtjbhpfmnfdebkaaGreat

/-
  The document's answer of layer 13: sets of zones, by the engine.
-/
namespace Go.Proofs.YtjbhpfmnfdebkaaGreat
set_option linter.unusedVariables false
set_option linter.unusedSimpArgs false
set_option maxRecDepth 100000
open Go.RowKit Go.Proofs.YtjbhpfmnfdebkaaGreat.Eng Enc

namespace Zs
end Zs
end Go.Proofs.YtjbhpfmnfdebkaaGreat

/-
  The document's answer of layer 24: Long, MayList, by the engine.
-/
namespace Go.Proofs.YtjbhpfmnfdebkaaGreat
set_option linter.unusedVariables false
set_option linter.unusedSimpArgs false
set_option maxRecDepth 100000
open Go.RowKit Go.Proofs.YtjbhpfmnfdebkaaGreat.Eng Enc

theorem Sl.ldx {α : Type} [Enc α] {n : Nat} {W w : World} {L : List Nat} {a : Option Addr} {ad : Addr} {m cap : Nat} {l : List α} (h : Sl n W (.slice a m cap) l) {k : Nat} {x : α} (hk : l[k]? = some x) (had : a = some ad) (hB : Below n W w) (hL : ∀ b, b ∈ L → n ≤ b) {i : Nat} {c : Value} (hc : (enc x)[i]? = some c) {K : Value → Prop} (hK : K c) :
    LoadI w L ((ad.add ((k : Int).toNat * size α)).add i) K := by
  subst had
  obtain ⟨h1, h2⟩ := h.cell hk hB
  refine ⟨⟨_, ⟨h2 i c hc, fun e => ?_⟩, hK⟩⟩
  have hb : ∀ (q : Addr) (j : Nat), (q.add j).block = q.block := fun q j => by unfold Addr.add; split <;> rfl
  rw [hb, hb] at e
  have := hL _ e; omega
namespace Tb
/-- a time up to which all zones end. -/
def lng : Int → List Zn → Int
  | o, [] => o
  | o, z :: l => if z.c = 9223372036854775807 then 7 else lng (max o (min 7 (z.c / 2))) l
theorem lng_cons (o : Int) (z : Zn) (l : List Zn) : lng o (z :: l) = if z.c = 9223372036854775807 then 7 else lng (max o (min 7 (z.c / 2))) l := rfl
theorem lng_ge : ∀ (l : List Zn) (o : Int), o ≤ 7 → o ≤ lng o l ∧ lng o l ≤ 7
  | [], o, h => ⟨Int.le_refl _, h⟩
  | z :: l, o, h => by
    rw [lng_cons]
    split
    · exact ⟨h, by omega⟩
    · have := lng_ge l (max o (min 7 (z.c / 2))) (by omega)
      omega
theorem lng_mem : ∀ (l : List Zn) (o : Int), o ≤ 7 → lng o l ≤ 6 → ∀ z, z ∈ l → z.c ≤ 2 * lng o l + 1
  | [], o, _, _, z, hz => (nomatch hz)
  | x :: l, o, ho, h, z, hz => by
    rw [lng_cons] at h ⊢
    split at h
    · omega
    · rename_i hn
      rw [if_neg hn]
      rcases List.mem_cons.1 hz with rfl | hz
      · have := lng_ge l (max o (min 7 (z.c / 2))) (by omega)
        omega
      · exact lng_mem l _ (by omega) h z hz
/-- may a list of matches be? -/
def may (l : List Zn) : Bool := !Cl.odd l && (decide ((Cv.prune l).2 = 0) && decide (l = (Cv.prune l).1))
end Tb
set_option maxHeartbeats 1000000 in
theorem rlong24_any (l : List Zn) (hi : ∀ z, z ∈ l → Zo.i64 z) (a : Option Addr) (cap : Nat) (w : World) (hS : Sl w.heap.size w (.slice a l.length cap) l) :
    Calls Tryz.prog 33 #[.slice a l.length cap] w fun e w' => e = .returned (.int .i64 (Tb.lng 0 l)) ∧ Below w.heap.size w w' := by
  refine fun_eq 0 w Tryz.func33 (args := [.val (.slice a l.length cap)]) rfl rfl ?_
  obtain ⟨_, _, hfe, hcap1, hcap2, _⟩ := hS.form
  injection hfe with _ _ hfe
  subst hfe
  unfold maxLen at hcap2
  refine LoopI.invC (α := Nat × Int × World) (fun y => [(3, .val (.int .i64 y.2.1)), (4, .val (.int .i64 y.1))]) (fun y => y.2.2) (fun y => y.1 ≤ l.length ∧ Below w.heap.size w y.2.2 ∧ (0 ≤ y.2.1 ∧ y.2.1 ≤ 7) ∧ Tb.lng y.2.1 (l.drop y.1) = Tb.lng 0 l) (fun y => l.length - y.1) ?_ ?_
  · intro w1 h1
    exact ⟨(0, 0, w1), Cov.mk (by repeat' (first | exact trivial | refine And.intro rfl ?_)) rfl rfl rfl rfl rfl, rfl, Nat.zero_le _, h1.below, by simp, rfl⟩
  rintro ⟨k, o, V⟩ ⟨hk, hV, ho, hall⟩
  simp only at hk hV ho hall
  refine Branch.mk (fun hc2 => ?_) (fun hc2 => ?_)
  · have hlt : k < l.length := by have := of_decide_eq_true hc2; simp only at this; omega
    have hx := List.getElem?_eq_getElem (l := l) (i := k) hlt
    have hdm : l.drop k = l[k]'hlt :: l.drop (k + 1) := List.drop_eq_getElem_cons hlt
    have hxi := hi _ (List.getElem_mem hlt)
    generalize l[k]'hlt = x at hx hdm hxi
    have hxc : -9223372036854775808 ≤ x.c ∧ x.c ≤ 9223372036854775807 := hxi x.c (by simp [Zo.matL])
    rw [hdm, Tb.lng_cons] at hall
    have hS4 := hS.go hV hV.size
    refine hS4.idx hx fun ad had => ?_
    refine Need.mk (by decide) ?_
    refine hS4.ldx hx had (Below.refl _ _) (by simp) (i := 2) (c := .int .i64 x.c) rfl ?_
    refine Branch.mk (fun hc3 => ?_) (fun hc3 => ?_)
    · have hn : x.c = 9223372036854775807 := by simpa using hc3
      rw [if_pos hn] at hall
      refine EndI.mk fun w9 h9 => ?_
      rw [hall]
    · have hn : ¬ x.c = 9223372036854775807 := by simpa using hc3
      rw [if_neg hn] at hall
      apply CallI.use1
      focus (exact fun w4 h4 => (rnumber_any x.c hxc.1 hxc.2 w4).mono fun e w' ⟨he, hw⟩ => ⟨he, hw ▸ Below.refl _ _⟩)
      intro w4 v4 h4 hB4
      have hml : maxL o [minL 7 [x.c / 2]] = max o (min 7 (x.c / 2)) := by simp only [maxL, minL, List.foldl_cons, List.foldl_nil]; omega
      rw [← hml] at hall
      refine Need.mk (by simp only [inK]; omega) (EndI.mk fun w9 h9 => ⟨(k + 1, maxL o [minL 7 [x.c / 2]], w9), Cov.mk (by repeat' (first | exact trivial | refine And.intro rfl ?_)) rfl rfl rfl rfl rfl, rfl, ⟨hlt, h9.below, by simp only; rw [hml]; omega, hall⟩, by simp only; omega⟩)
  · have hge : k = l.length := by have := of_decide_eq_false hc2; simp only at this; omega
    subst hge
    rw [List.drop_length] at hall
    refine EndI.mk fun w9 h9 => ?_
    rw [← hall]; rfl
end Go.Proofs.YtjbhpfmnfdebkaaGreat

/-
  What CloseAgain and CloseLeast ask, of the rounds; no program is in sight.
-/
namespace Go.Proofs.YtjbhpfmnfdebkaaGreat
set_option linter.unusedVariables false
set_option linter.unusedSimpArgs false
open Go.RowKit Go.Proofs.YtjbhpfmnfdebkaaGreat.Eng Enc
namespace Cl
open Cv Zs Ky Cmp
/-- more than statements go through. -/
def great (old p : List Zn) : Bool := decide (40 < old.length) || decide (40 < p.length) || decide (6 < Tb.lng 0 old) || decide (6 < Tb.lng 0 p)
def longOf (old p : List Zn) : Int := max 1 (max (Tb.lng 0 old) (Tb.lng 0 p))
theorem great_no {old p : List Zn} (h : great old p = false) : (old.length ≤ 40 ∧ p.length ≤ 40) ∧ (1 ≤ longOf old p ∧ longOf old p ≤ 6) ∧ (∀ z, z ∈ old → z.c ≤ 2 * longOf old p + 1) ∧ ∀ z, z ∈ p → z.c ≤ 2 * longOf old p + 1 := by
  unfold great at h
  simp only [Bool.or_eq_false_iff, decide_eq_false_iff_not] at h
  obtain ⟨⟨⟨h1, h2⟩, h3⟩, h4⟩ := h
  unfold longOf
  have g3 := Tb.lng_ge old 0 (by omega)
  have g4 := Tb.lng_ge p 0 (by omega)
  refine ⟨⟨by omega, by omega⟩, by omega, fun z hz => ?_, fun z hz => ?_⟩
  · have := Tb.lng_mem old 0 (by omega) (by omega) z hz
    omega
  · have := Tb.lng_mem p 0 (by omega) (by omega) z hz
    omega
theorem chk_good {old p : List Zn} {cz cr : Int} (hg : great old p = false) (h : chk old p cz cr = 0) : Good (longOf old p) old ∧ Good (longOf old p) p := by
  obtain ⟨_, h2, h3, h4⟩ := great_no hg
  unfold chk at h
  split at h
  · cases h
  split at h
  · cases h
  rename_i h5
  simp only [not_or, Classical.not_not, Bool.not_eq_true] at h5
  exact ⟨good_check h2 h5.1 h5.2.2.1 h3, good_check h2 h5.2.1 h5.2.2.2 h4⟩
/-- what holds of all that comes of a plus. -/
structure Fin (long : Int) (old p l : List Zn) (ls : List (List Zn)) : Prop where
  gl : Good long l
  gs : ∀ x, x ∈ ls → Good long x
  part : ∀ t, Pts p t → Pts l t
  shut : Shut p l
  old : ∀ t, Thru (Pts old) (Pts p) t → Pts l t
  nil : ls = [] → l = []
  last : ls ≠ [] → ls[ls.length - 1]? = some l
  step : ∀ (m : Nat) (a b : List Zn), ls[m]? = some a → ls[m + 1]? = some b → (∀ t, Pts a t → Pts b t) ∧ ∃ t, Pts b t ∧ ¬ Pts a t
theorem ch_step {p : List Zn} : ∀ (a : List Zn) (ms : List (List Zn)), Ch p a ms → ∀ (m : Nat) (x y : List Zn), (a :: ms)[m]? = some x → (a :: ms)[m + 1]? = some y → Nx p x y
  | a, [], _, m, x, y, _, hy => by simp at hy
  | a, b :: ms, hc, 0, x, y, hx, hy => by
    simp at hx hy
    subst hx; subst hy
    exact hc.1
  | a, b :: ms, hc, m + 1, x, y, hx, hy => ch_step b ms hc.2 m x y (by simpa using hx) (by simpa using hy)
theorem lst_get (a : List Zn) (ms : List (List Zn)) : (a :: ms)[(a :: ms).length - 1]? = some (lst a ms) := by
  rw [← List.getLast?_eq_getElem?]
  exact lst_last a ms
/-- a plus answers, or tells an error. -/
theorem close_fin {old p : List Zn} {cz cr : Int} (hg : great old p = false) :
    (∃ e, close old p cz cr = ([], 0, e) ∧ rounds old p cz cr = ([], e) ∧ e ≠ 0) ∨
    (∃ l ls, close old p cz cr = (l, (ls.length : Int), 0) ∧ rounds old p cz cr = (ls, 0) ∧ chk old p cz cr = 0 ∧ Good (longOf old p) old ∧ Good (longOf old p) p ∧ Fin (longOf old p) old p l ls) := by
  by_cases h0 : chk old p cz cr = 0
  case neg => exact .inl ⟨chk old p cz cr, by unfold close; rw [if_pos h0], by unfold rounds; rw [if_pos h0], h0⟩
  obtain ⟨ho, hp⟩ := chk_good hg h0
  have hl := (great_no hg).2.1
  rcases close_good hl cz cr h0 ho hp with ⟨e, h1, h2, h3, _⟩ | ⟨h1, h2, h3⟩ | ⟨a, ms, h1, h2, h3, h4, h5, h6, h7⟩
  · exact .inl ⟨e, h1, h2, h3⟩
  · have hn : ∀ t, ¬ (Pts p t ∨ Thru (Pts old) (Pts p) t) := fun t h => by
      obtain ⟨z, hz, _⟩ := (h3 t).2 h
      cases hz
    refine .inr ⟨[], [], h1, h2, h0, ho, hp, good_nil, fun x hx => (nomatch hx), fun t h => absurd (.inl h) (hn t), fun t h => ?_, fun t h => absurd (.inr h) (hn t), fun _ => rfl, fun h => absurd rfl h, fun m a b h => by simp at h⟩
    obtain ⟨s, ⟨z, hz, _⟩, _⟩ := h
    cases hz
  · refine .inr ⟨lst a ms, a :: ms, by rw [h1]; simp, h2, h0, ho, hp, h7 _ (lst_mem a ms), h7, fun t h => ch_sub a ms h5 t ((h4 t).2 (.inl h)), h6, fun t h => ch_sub a ms h5 t ((h4 t).2 (.inr h)), (fun h => nomatch h), fun _ => lst_get a ms, fun m x y hx hy => ?_⟩
    have h8 := ch_step a ms h5 m x y hx hy
    exact ⟨fun t h => (h8.1 t).2 (.inl h), h8.2⟩
end Cl
end Go.Proofs.YtjbhpfmnfdebkaaGreat

/-
  The plain facts of CoverNames.
-/
namespace Go.Proofs.YtjbhpfmnfdebkaaGreat
set_option linter.unusedVariables false
set_option linter.unusedSimpArgs false
open Go.RowKit Go.Proofs.YtjbhpfmnfdebkaaGreat.Eng Enc
namespace Cv
open Mi Zo
end Cv
end Go.Proofs.YtjbhpfmnfdebkaaGreat

/-
  rallentandolaw13's helpers: of, alive, wanted; by the engine.
-/
namespace Go.Proofs.YtjbhpfmnfdebkaaGreat
set_option linter.unusedVariables false
set_option linter.unusedSimpArgs false
set_option maxRecDepth 100000
open Go.RowKit Go.Proofs.YtjbhpfmnfdebkaaGreat.Eng Enc

namespace Zs
open Cv
theorem prune_one (z : Zn) (h0 : checked [[z]] = 0) (h : in_ z [] = (false, 0)) : prune [z] = ([z], 0) := by
  unfold prune
  rw [if_neg (by rw [h0]; simp), sorted_self (List.pairwise_singleton _ _)]
  show pgo 1 [z] = _
  rw [pgo_succ (z := z) rfl]
  show (if (in_ z []).2 ≠ 0 then _ else if (in_ z []).1 = true then _ else pgo 0 [z]) = _
  rw [h]
  rfl
end Zs
namespace Zs
def wanted (l : List Zn) : Bool := decide ((Cv.prune l).2 ≠ 0) || decide (check l = 0)
theorem Fine.wanted {l : List Zn} (h : Fine l) : wanted l = true := by
  unfold Zs.wanted check
  by_cases h0 : (Cv.prune l).2 = 0
  · rw [if_pos ⟨h0, h.2.2 h0⟩]; simp
  · simp [h0]
end Zs
end Go.Proofs.YtjbhpfmnfdebkaaGreat

/-
  close: the chapter's examples, in plain Lean.
-/
namespace Go.Proofs.YtjbhpfmnfdebkaaGreat
set_option linter.unusedVariables false
set_option linter.unusedSimpArgs false
set_option maxRecDepth 100000
open Go.RowKit Go.Proofs.YtjbhpfmnfdebkaaGreat.Eng Enc

namespace Cl
def step1 : Zn := (Zo.make ⟨0, false, 3, false, false⟩ ⟨0, false, 3, false, false⟩ ⟨1, false, 1, false, false⟩).1
def step2 : Zn := (Cmp.comp step1 step1).1
def step3 : Zn := (Cmp.comp step2 step1).1
theorem st_make : Zo.make ⟨0, false, 3, false, false⟩ ⟨0, false, 3, false, false⟩ ⟨1, false, 1, false, false⟩ = (step1, 0) := by decide +kernel
theorem st_c1 : Cmp.comp step1 step1 = (step2, 0) := by decide +kernel
theorem st_c2 : Cmp.comp step2 step1 = (step3, 0) := by decide +kernel
theorem st_c3 : (Cmp.comp step3 step1).2 = 6 := by decide +kernel
theorem st_p1 : Cv.prune [step1] = ([step1], 0) := Zs.prune_one _ (by decide +kernel) (by decide +kernel)
theorem st_p2 : Cv.prune [step2] = ([step2], 0) := Zs.prune_one _ (by decide +kernel) (by decide +kernel)
theorem st_p3 : Cv.prune [step3] = ([step3], 0) := Zs.prune_one _ (by decide +kernel) (by decide +kernel)
theorem st_lt1 : Zo.Lt step2 step1 := (Zo.cmp_lt _ _).1 (by decide +kernel)
theorem st_lt2 : Zo.Lt step3 step2 := (Zo.cmp_lt _ _).1 (by decide +kernel)
theorem st_p12 : Cv.prune [step1, step2] = ([step2, step1], 0) := by
  rw [Cv.prune_order (m := [step2, step1]) (fun x => by simp only [List.mem_cons, List.not_mem_nil, or_false]; constructor <;> (rintro (h | h) <;> simp [h])) (by simp) (by simp)]
  unfold Cv.prune
  rw [Cv.sorted_self (by simp only [List.pairwise_cons, List.mem_cons, List.not_mem_nil, or_false, forall_eq, List.Pairwise.nil, and_true]; exact ⟨st_lt1, fun _ h => h.elim⟩)]
  decide +kernel
theorem st_p123 : Cv.prune [step3, step2, step1] = ([step3, step2, step1], 0) := by
  unfold Cv.prune
  rw [Cv.sorted_self (by simp only [List.pairwise_cons, List.mem_cons, List.not_mem_nil, or_false, forall_eq, forall_eq_or_imp, List.Pairwise.nil, and_true]; exact ⟨⟨st_lt2, st_lt2.trans st_lt1⟩, st_lt1, fun _ h => h.elim⟩)]
  decide +kernel
theorem st_p213 : Cv.prune [step2, step1, step3] = ([step3, step2, step1], 0) := by
  rw [Cv.prune_order (m := [step3, step2, step1]) (fun x => by simp only [List.mem_cons, List.not_mem_nil, or_false]; constructor <;> (rintro (h | h | h) <;> simp [h])) (by simp) (by simp)]
  exact st_p123
theorem st_p0 : Cv.prune [] = ([], 0) := by
  unfold Cv.prune
  rw [Cv.sorted_self List.Pairwise.nil]
  decide +kernel
theorem comp_one {x y z : Zn} (h : Cmp.comp x y = (z, 0)) (hc : Cv.checked [[x], [y]] = 0) (hp : Cv.prune [z] = ([z], 0)) : Zs.comp [x] [y] = ([z], 0) := by
  unfold Zs.comp Zs.paired
  rw [if_pos hc, Zs.pairGo_cons, Zs.come_cons, h]
  show (if (Cv.prune [z]).2 = 0 then Zs.pairGo Cmp.comp [y] (Cv.prune [z]).1 [] else _) = _
  rw [hp]; rfl
theorem comp_31 : Zs.comp [step3] [step1] = ([], 0) := by
  unfold Zs.comp Zs.paired
  have e : Zs.come (Cmp.comp step3) [] [step1] = ([], 0) := by
    rw [Zs.come_cons, if_neg (by rw [st_c3]; decide), if_pos st_c3]
    exact st_p0
  rw [if_pos (by decide +kernel), Zs.pairGo_cons, e]
  rfl
theorem lo0 (cz : Int) (h : 4 ≤ cz) : longer [step1] [] [step1] cz = ([step1], [], 0) := by
  have e1 : Zs.comp [] [step1] = ([], 0) := by
    unfold Zs.comp Zs.paired
    rw [if_pos (by decide +kernel)]; rfl
  have e2 : Zs.or [step1] [] = ([step1], 0) := by
    unfold Zs.or
    rw [if_pos (by decide +kernel)]; exact st_p1
  unfold longer
  rw [e1, e2]
  rw [if_neg (by simp; omega), if_neg (by simp; omega)]
theorem lo1 (cz : Int) (h : 4 ≤ cz) : longer [step1] [step1] [step1] cz = ([step2, step1], [step2], 0) := by
  have e1 : Zs.comp [step1] [step1] = ([step2], 0) := comp_one st_c1 (by decide +kernel) st_p2
  have e2 : Zs.or [step1] [step2] = ([step2, step1], 0) := by
    unfold Zs.or
    rw [if_pos (by decide +kernel)]; exact st_p12
  unfold longer
  rw [e1, e2]
  rw [if_neg (by simp; omega), if_neg (by simp; omega)]
theorem lo2 (cz : Int) (h : 4 ≤ cz) : longer [step2, step1] [step2] [step1] cz = ([step3, step2, step1], [step3], 0) := by
  have e1 : Zs.comp [step2] [step1] = ([step3], 0) := comp_one st_c2 (by decide +kernel) st_p3
  have e2 : Zs.or [step2, step1] [step3] = ([step3, step2, step1], 0) := by
    unfold Zs.or
    rw [if_pos (by decide +kernel)]; exact st_p213
  unfold longer
  rw [e1, e2]
  rw [if_neg (by simp; omega), if_neg (by simp; omega)]
theorem lo3 (cz : Int) (h : 4 ≤ cz) : longer [step3, step2, step1] [step3] [step1] cz = ([step3, step2, step1], [], 0) := by
  have e2 : Zs.or [step3, step2, step1] [] = ([step3, step2, step1], 0) := by
    unfold Zs.or
    rw [if_pos (by decide +kernel)]; exact st_p123
  unfold longer
  rw [comp_31, e2]
  rw [if_neg (by simp; omega), if_neg (by simp; omega)]
theorem st_in1 : (Cv.all_ [step2] [step1]).1 = false := by decide +kernel
theorem st_in2 : (Cv.all_ [step3] [step2, step1]).1 = false := by decide +kernel
theorem st_in3 : (Cv.all_ [] [step3, step2, step1]).1 = true := by decide +kernel
theorem st_chk1 : Zs.check [] = 0 := by
  unfold Zs.check
  rw [st_p0]; decide
theorem st_chk2 : Zs.check [step1] = 0 := by
  unfold Zs.check
  rw [st_p1]; decide
theorem st_chk (cz cr : Int) (h1 : 1 ≤ cz ∧ cz ≤ 4096) (h2 : 1 ≤ cr ∧ cr ≤ 4096) : chk [] [step1] cz cr = 0 := by
  unfold chk
  rw [if_neg (by omega), st_chk1, st_chk2, if_neg (by decide +kernel)]
theorem st_seq3 : seq [] [step1] 100 100 = [([step1], 0), ([step2, step1], 0), ([step3, step2, step1], 0)] := by
  unfold seq
  rw [if_neg (by simp), lo0 100 (by omega), if_neg (by simp), show (100 : Int).toNat = 97 + 1 + 1 + 1 from rfl]
  simp only
  rw [go_succ, lo1 100 (by omega), if_neg (by simp), if_neg (by simp)]
  simp only
  rw [st_in1, if_neg (by decide), go_succ, lo2 100 (by omega), if_neg (by simp), if_neg (by simp)]
  simp only
  rw [st_in2, if_neg (by decide), go_succ, lo3 100 (by omega), if_neg (by simp), if_neg (by simp)]
  simp only
  rw [st_in3, if_pos rfl]
theorem st_close3 : close [] [step1] 100 100 = ([step3, step2, step1], 3, 0) := by
  unfold close
  rw [st_chk 100 100 (by omega) (by omega), if_neg (by simp), st_seq3]
  show ((Cv.prune (lastS _)).1, _, (Cv.prune (lastS _)).2) = _
  rw [show lastS [([step1], (0 : Int)), ([step2, step1], 0), ([step3, step2, step1], 0)] = [step3, step2, step1] from rfl, st_p123]
  rfl
def pt0 (u : Int) : Pt := ⟨(Fr.of 0 2).1, (Fr.of u 2).1⟩
theorem st_has6 : Zs.has [step3, step2, step1] (pt0 6) = (true, 0) := by decide +kernel
theorem st_has5 : Zs.has [step3, step2, step1] (pt0 5) = (false, 0) := by decide +kernel
end Cl
end Go.Proofs.YtjbhpfmnfdebkaaGreat

/-
  rallentandolaw25's helpers: steps, point, alive; and the walk of CloseNames; by the engine.
-/
namespace Go.Proofs.YtjbhpfmnfdebkaaGreat
set_option linter.unusedVariables false
set_option linter.unusedSimpArgs false
set_option maxRecDepth 100000
open Go.RowKit Go.Proofs.YtjbhpfmnfdebkaaGreat.Eng Enc

theorem steps_any (w : World) : Calls Tryz.prog 52 #[] w (Ret w fun v w' => ∃ a' c', v = .slice a' 1 c' ∧ Own TZ w.heap.size w' (.slice a' 1 c') [Cl.step1]) := by
  refine fun_at 0 w.heap.size w (Nat.le_refl _) Tryz.func52 (args := []) rfl rfl ?_
  have hmk := fun (w : World) => make_any ⟨0, false, 3, false, false⟩ ⟨0, false, 3, false, false⟩ ⟨1, false, 1, false, false⟩ ⟨by simp only [inK]; omega, by simp only [inK]; omega⟩ ⟨by simp only [inK]; omega, by simp only [inK]; omega⟩ ⟨by simp only [inK]; omega, by simp only [inK]; omega⟩ w
  rw [Cl.st_make] at hmk
  apply CallI.use1
  focus (exact fun w1 h1 => hmk w1)
  intro w1 v1 h1 hB1
  refine NewI.mk fun b1 hb1 => ?_
  refine Branch.no rfl ?_
  refine NewI.mk fun b2 hb2 => ?_
  have hb2' : w.heap.size ≤ b2 := Nat.le_trans h1.below.size (Nat.le_trans hB1.size hb2)
  exact EndI.mk fun w9 h9 => ⟨_, _, rfl, Own.own (l := [Cl.step1]) h9 1 rfl rfl rfl hb2'⟩
theorem point25_any (t u : Int) (ht : inK .i64 t) (hu : inK .i64 u) (w : World) :
    Calls Tryz.prog 116 #[.int .i64 t, .int .i64 u] w fun e w' => e = .returned (.agg #[.int .i64 (Fr.of t 2).1.num, .int .i64 (Fr.of t 2).1.den, .int .i64 (Fr.of u 2).1.num, .int .i64 (Fr.of u 2).1.den]) ∧ Below w.heap.size w w' := by
  refine fun_eq 0 w Tryz.func116 (args := [.val (.int .i64 t), .val (.int .i64 u)]) rfl rfl ?_
  refine NewI.mk fun b1 hb1 => ?_
  (first
    | (refine CallI.to1 (rof_any t 2 ht (by simp only [inK]; omega)) fun w2 => ?_)
    | (refine Branch.yes rfl ?_)
    | (refine Branch.no rfl ?_)
    | (refine Branch.mk (fun hb => ?_) (fun hb => ?_))
    | (refine NewI.mk fun nb hnb => ?_)
    | (refine Need.mk (by show _ ∧ _; omega) ?_)
    | (refine Need.mk (by omega) ?_)
    | (refine Need.mk ?_ ?_)
    | (refine EndI.mk fun w1 h1 => ?_))
  refine NewI.mk fun b2 hb2 => ?_
  (first
    | (refine CallI.to1 (rof_any u 2 hu (by simp only [inK]; omega)) fun w2 => ?_)
    | (refine Branch.yes rfl ?_)
    | (refine Branch.no rfl ?_)
    | (refine Branch.mk (fun hb => ?_) (fun hb => ?_))
    | (refine NewI.mk fun nb hnb => ?_)
    | (refine Need.mk (by show _ ∧ _; omega) ?_)
    | (refine Need.mk (by omega) ?_)
    | (refine Need.mk ?_ ?_)
    | (refine EndI.mk fun w1 h1 => ?_))
  refine NewI.mk fun b3 hb3 => ?_
  exact EndI.mk fun w3 h3 => rfl
open Cl in
theorem alive25_any (w : World) : Calls Tryz.prog 53 #[] w fun e w' => e = .returned (.bool true) ∧ Below w.heap.size w w' := by
  refine fun_eq 0 w Tryz.func53 (args := []) rfl rfl ?_
  have hcl := fun (w : World) ap cp h2 => cclose_any [] [step1] 100 100 none ap 0 cp w Sl.nil h2
  rw [st_close3] at hcl
  have p6 := fun w => point25_any 0 6 (by simp [inK]) (by simp [inK]) w
  have p5 := fun w => point25_any 0 5 (by simp [inK]) (by simp [inK]) w
  have hh6 := fun (w : World) a c h => zshas_any [step3, step2, step1] (pt0 6) ⟨Fr.of_ins (by simp [inK]), Fr.of_ins (by simp [inK])⟩ a c w h
  rw [st_has6] at hh6
  have hh5 := fun (w : World) a c h => zshas_any [step3, step2, step1] (pt0 5) ⟨Fr.of_ins (by simp [inK]), Fr.of_ins (by simp [inK])⟩ a c w h
  rw [st_has5] at hh5
  apply CallI.use
  focus (exact fun w1 h1 => steps_any w1)
  rintro v w1 v1 h1 hB1 ⟨a1, c1, rfl, hO1⟩
  apply CallI.use
  focus (exact fun w2 h2 => hcl w2 _ _ (Sl.go hO1.sl (at_belowM h2 (by simp)) (at_belowM h2 (by simp)).size))
  rintro v w2 v2 h2 hB2 ⟨a2, c2, rfl, hO2⟩
  apply CallI.use1
  focus (exact fun w3 h3 => p6 w3)
  intro w3 v3 h3 hB3
  have hO3 := (hO2.below (at_belowM h3 (by simp))).below hB3
  apply CallI.use1
  focus (exact fun w4 h4 => hh6 w4 _ _ (Sl.go hO3.sl (at_belowM h4 (by simp)) (at_belowM h4 (by simp)).size))
  intro w4 v4 h4 hB4
  have hO4 := (hO3.below (at_belowM h4 (by simp))).below hB4
  apply CallI.use1
  focus (exact fun w5 h5 => p5 w5)
  intro w5 v5 h5 hB5
  have hO5 := (hO4.below (at_belowM h5 (by simp))).below hB5
  apply CallI.use1
  focus (exact fun w6 h6 => hh5 w6 _ _ (Sl.go hO5.sl (at_belowM h6 (by simp)) (at_belowM h6 (by simp)).size))
  intro w6 v6 h6 hB6
  iterate 5 refine Branch.yes rfl ?_
  exact EndI.mk fun w15 h15 => rfl
end Go.Proofs.YtjbhpfmnfdebkaaGreat

/-
  rallentandolaw25: great; the walk of CloseAgain; by the engine.
-/
namespace Go.Proofs.YtjbhpfmnfdebkaaGreat
set_option linter.unusedVariables false
set_option linter.unusedSimpArgs false
set_option maxRecDepth 100000
open Go.RowKit Go.Proofs.YtjbhpfmnfdebkaaGreat.Eng Enc

namespace Cl
theorem ins_i64 {z : Zn} (h : Zn.ins z) : Zo.i64 z := by
  obtain ⟨h1, h2, h3, h4, h5, h6⟩ := h
  simp only [inK] at h1 h2 h3 h4 h5 h6
  intro b hb
  unfold Zo.matL at hb
  unfold Dbm.int64
  simp only [List.mem_cons, List.not_mem_nil, or_false] at hb
  omega
end Cl
theorem great25_any (old p : List Zn) (io : ∀ z, z ∈ old → Zo.i64 z) (ip : ∀ z, z ∈ p → Zo.i64 z) (a b : Option Addr) (ca cb : Nat) (w : World) (hS : Sl w.heap.size w (.slice a old.length ca) old) (hT : Sl w.heap.size w (.slice b p.length cb) p) :
    Calls Tryz.prog 45 #[.slice a old.length ca, .slice b p.length cb] w fun e w' => e = .returned (.bool (Cl.great old p)) ∧ Below w.heap.size w w' := by
  refine fun_eq 0 w Tryz.func45 (args := [.val (.slice a old.length ca), .val (.slice b p.length cb)]) rfl rfl ?_
  have st := Stay.first (w := w)
  unfold Cl.great
  have e1 : (decide ((old.length : Int) > 40)) = decide (40 < old.length) := by rw [decide_eq_decide]; omega
  have e2 : (decide ((p.length : Int) > 40)) = decide (40 < p.length) := by rw [decide_eq_decide]; omega
  refine Branch.mk (fun h1 => ?_) (fun h1 => ?_)
  · have h1 := e1.symm.trans h1
    exact EndI.mk fun w9 h9 => by rw [h1]; rfl
  have h1 := e1.symm.trans h1
  rw [h1]
  refine Branch.mk (fun h2 => ?_) (fun h2 => ?_)
  · have h2 := e2.symm.trans h2
    exact EndI.mk fun w9 h9 => by rw [h2]; rfl
  have h2 := e2.symm.trans h2
  rw [h2]
  apply CallI.use1
  focus (exact fun w2 h2 => rlong24_any old io a ca w2 (hS.st (st.at h2 (fun x hx => by simp at hx <;> omega))))
  intro w2 v2 h2 hB2
  have st := st.next h2 (fun x hx => by simp at hx <;> omega) hB2
  refine Branch.mk (fun h3 => ?_) (fun h3 => ?_)
  · have h3 : decide (6 < Tb.lng 0 old) = true := h3
    exact EndI.mk fun w9 h9 => by rw [h3]; rfl
  have h3 : decide (6 < Tb.lng 0 old) = false := h3
  rw [h3]
  apply CallI.use1
  focus (exact fun w3 h3 => rlong24_any p ip b cb w3 (hT.st (st.at h3 (fun x hx => by simp at hx <;> omega))))
  intro w3 v3 h3 hB3
  have st := st.next h3 (fun x hx => by simp at hx <;> omega) hB3
  exact EndI.mk fun w9 h9 => by rfl
end Go.Proofs.YtjbhpfmnfdebkaaGreat

/-
  close.Rounds, by the engine.
-/
namespace Go.Proofs.YtjbhpfmnfdebkaaGreat
set_option linter.unusedVariables false
set_option linter.unusedSimpArgs false
set_option maxRecDepth 100000
open Go.RowKit Go.Shelf Go.Proofs.YtjbhpfmnfdebkaaGreat.Eng Enc

theorem infoTZs : (Tryz.prog.info? Cl.TZs).map (fun i => (i.zero, i.size, i.bytes)) = some (some (.slice none 0 0), 1, 24) := by kernel_rfl
theorem elTZs : ElOk Tryz.prog 74 Cl.TZs 1 24 := elOk (by kernel_rfl) infoTZs rfl (by decide)
namespace Cl
/-- slices that show lists, each in a row of its own. -/
def Rows (n₁ : Nat) (W : World) (ss : List Svl) (ls : List (List Zn)) : Prop := ∀ (k : Nat) (s : Svl) (l : List Zn), ss[k]? = some s → ls[k]? = some l → Own TZ n₁ W (.slice s.a s.len s.cap) l
theorem Rows.nil {n₁ : Nat} {W : World} {ls : List (List Zn)} : Rows n₁ W [] ls := fun k s l h => by simp at h
theorem own_cells {e : TypeId} {n₁ : Nat} {W X : World} {a : Option Addr} {n c : Nat} {l : List Zn} (h : Own e n₁ W (.slice a n c) l) (hk : ∀ (k : Nat) (cs : Array Value) (f : Nat × Nat), W.heap[k]? = some (.cells cs e f) → n₁ ≤ k → X.heap[k]? = W.heap[k]?) : Own e n₁ X (.slice a n c) l := by
  obtain ⟨hl, h0 | ⟨g, cap, cur, e1, e2, e3, e4⟩⟩ := h
  · exact ⟨hl, .inl h0⟩
  · exact ⟨hl, .inr ⟨g, cap, cur, e1, e2, (hk g _ _ e3 e2).trans e3, e4⟩⟩
theorem Rows.cells {n₁ : Nat} {W X : World} {ss : List Svl} {ls : List (List Zn)} (h : Rows n₁ W ss ls) (hk : ∀ (k : Nat) (cs : Array Value) (f : Nat × Nat), W.heap[k]? = some (.cells cs TZ f) → X.heap[k]? = W.heap[k]?) : Rows n₁ X ss ls := fun k s l hs hl => own_cells (h k s l hs hl) fun k cs f hk' _ => hk k cs f hk'
theorem Rows.app {n₁ : Nat} {W : World} {ss : List Svl} {ls : List (List Zn)} {s : Svl} {l : List Zn} (he : ss.length = ls.length) (h : Rows n₁ W ss ls) (h1 : Own TZ n₁ W (.slice s.a s.len s.cap) l) : Rows n₁ W (ss ++ [s]) (ls ++ [l]) := fun k t m ht hm => by
  by_cases hk : k < ss.length
  · rw [List.getElem?_append_left hk] at ht
    rw [List.getElem?_append_left (by omega)] at hm
    exact h k t m ht hm
  · have hk2 : k = ss.length := by
      have := (List.getElem?_eq_some_iff.1 ht).1
      simp at this; omega
    subst hk2
    rw [List.getElem?_append_right (Nat.le_refl _), Nat.sub_self] at ht
    rw [he, List.getElem?_append_right (Nat.le_refl _), Nat.sub_self] at hm
    simp at ht hm
    subst ht; subst hm
    exact h1
theorem Rows.lower {n₁ n₂ : Nat} {W : World} {ss : List Svl} {ls : List (List Zn)} (h : Rows n₁ W ss ls) (hn : n₂ ≤ n₁) : Rows n₂ W ss ls := fun k s l hs hl => (h k s l hs hl).lower hn
theorem Rows.below {n₁ : Nat} {W X : World} {ss : List Svl} {ls : List (List Zn)} (h : Rows n₁ W ss ls) (hB : Below W.heap.size W X) : Rows n₁ X ss ls := fun k s l hs hl => (h k s l hs hl).below hB
end Cl
set_option maxHeartbeats 4000000 in
open Cl in
theorem crounds_any (old part : List Zn) (cz cr : Int) (ao ap : Option Addr) (co cp : Nat) (w : World) (hO : Sl w.heap.size w (.slice ao old.length co) old) (hP : Sl w.heap.size w (.slice ap part.length cp) part) :
    Calls Tryz.prog 47 #[.slice ao old.length co, .slice ap part.length cp, .agg #[.int .i64 cz, .int .i64 cr]] w (Ret w fun v w' => ∃ a' c' ss, v = .tuple #[.slice a' ss.length c', .int .i64 (Cl.rounds old part cz cr).2] ∧ ss.length = (Cl.rounds old part cz cr).1.length ∧ Own TZs w.heap.size w' (.slice a' ss.length c') (ss : List Svl) ∧ Cl.Rows w.heap.size w' ss (Cl.rounds old part cz cr).1) := by
  refine fun_at 9 w.heap.size w (Nat.le_refl _) Tryz.func47 (args := [.val (.slice ao old.length co), .val (.slice ap part.length cp), .agg [.val (.int .i64 cz), .val (.int .i64 cr)]]) rfl rfl ?_
  refine NewI.mk fun b5 hb5 => ?_
  refine NewI.mk fun b6 hb6 => ?_
  refine NewI.mk fun b7 hb7 => ?_
  have e5 : w.heap.size ≤ b5 := hb5
  have e6 : w.heap.size ≤ b6 := hb6
  have e7 : w.heap.size ≤ b7 := hb7
  apply CallI.use1
  focus (exact fun w3 h3 => cchecked_any old part cz cr ao ap co cp w3 (Sl.at h3 hO) (Sl.at h3 hP))
  intro w3 v3 h3 hB3
  unfold Cl.rounds
  refine Branch.mk (fun z1 => ?_) (fun z1 => ?_)
  · rw [if_pos (of_decide_eq_true z1)]
    exact EndI.mk fun w9 h9 => ⟨_, _, [], rfl, rfl, Own.nil, Cl.Rows.nil⟩
  have h0 : chk old part cz cr = 0 := by simpa using z1
  obtain ⟨hcz, hcr⟩ := chk_zero h0
  rw [if_neg (by rw [h0]; simp), h0]
  have lb : ∀ b, b ∈ [b5, b6, b7] → b < w3.heap.size := fun b hb => h3.lt b hb
  have hw3 : w.heap.size ≤ w3.heap.size := h3.below.size
  have hs3 := hB3.size
  apply CallI.mk
  intro w7 h7
  refine (crounds_at ao ap old.length part.length co cp cz cr w7).mono ?_
  rintro e w8 ⟨rfl, rfl⟩
  have q1 : Below w7.heap.size w7 (w7.alloc (.cells #[.slice ao old.length co] TZs)) := below_al (Below.refl _ _)
  have g1 := World.alloc_heap_new w7 (.cells #[.slice ao old.length co] TZs)
  have s1 : (w7.alloc (.cells #[.slice ao old.length co] TZs)).heap.size = w7.heap.size + 1 := by simp
  generalize w7.alloc (.cells #[.slice ao old.length co] TZs) = x1 at q1 g1 s1 ⊢
  have q2 : Below x1.heap.size x1 (x1.alloc (.cells #[.slice ap part.length cp] TZs)) := below_al (Below.refl _ _)
  have g2 := World.alloc_heap_new x1 (.cells #[.slice ap part.length cp] TZs)
  have s2 : (x1.alloc (.cells #[.slice ap part.length cp] TZs)).heap.size = x1.heap.size + 1 := by simp
  generalize x1.alloc (.cells #[.slice ap part.length cp] TZs) = x2 at q2 g2 s2 ⊢
  have q3 : Below x2.heap.size x2 (x2.alloc (.cells #[.int .i64 cz, .int .i64 cr] TCaps)) := below_al (Below.refl _ _)
  have g3 := World.alloc_heap_new x2 (.cells #[.int .i64 cz, .int .i64 cr] TCaps)
  have s3 : (x2.alloc (.cells #[.int .i64 cz, .int .i64 cr] TCaps)).heap.size = x2.heap.size + 1 := by simp
  generalize x2.alloc (.cells #[.int .i64 cz, .int .i64 cr] TCaps) = w8 at q3 g3 s3 ⊢
  have hB8 : Below w7.heap.size w7 w8 := (q1.trans (q2.mono (by omega))).trans (q3.mono (by omega))
  refine ⟨h7.keep hB8, _, rfl, ?_⟩
  have k1 : w8.heap[w7.heap.size]? = some (.cells #[.slice ao old.length co] TZs (0, 0)) := (q3.block _ (by omega)).trans ((q2.block _ (by omega)).trans g1)
  have k2 : w8.heap[w7.heap.size + 1]? = some (.cells #[.slice ap part.length cp] TZs (0, 0)) := (q3.block _ (by omega)).trans (by rw [← s1]; exact g2)
  have k3 : w8.heap[w7.heap.size + 2]? = some (.cells #[.int .i64 cz, .int .i64 cr] TCaps (0, 0)) := by rw [show w7.heap.size + 2 = x2.heap.size by omega]; exact g3
  have lb7 : ∀ b, b ∈ [b5, b6, b7] → b < w7.heap.size := fun b hb => h7.lt b hb
  have hw7 : w.heap.size ≤ w7.heap.size := h7.below.size
  have hw8 : Below w.heap.size w w8 := h7.below.trans (hB8.mono hw7)
  have s8 : w8.heap.size = w7.heap.size + 3 := by omega
  generalize w7.heap.size = B0 at k1 k2 k3 lb7 hw7 s8 ⊢
  refine RawI.mk fun ac w10 hR => ?_
  have h10 := hR.at_
  have hB10 : Below w8.heap.size w8 w10 := at_below h10 (by simp)
  have hsz10 : w8.heap.size ≤ w10.heap.size := hB10.size
  have hw10 : Below w.heap.size w w10 := hw8.trans (hB10.mono (by omega))
  have nR : ∀ q, B0 ≤ q → q ∉ [b5, b6, b7] := fun q hq hm => by have := lb7 q hm; omega
  have hseq := rounds_stops 8 B0 (B0 + 1) (B0 + 2) w.heap.size w10.heap.size [b5, b6, b7] old part ao ap co cp cz cr hcz hcr w10 (by omega) (Nat.le_refl _) ⟨by omega, nR _ (by omega)⟩ ⟨by omega, nR _ (by omega)⟩ ⟨by omega, nR _ (by omega)⟩ ((hB10.block _ (by omega)).trans k1) ((hB10.block _ (by omega)).trans k2) ((hB10.block _ (by omega)).trans k3) (hO.below hw10) (hP.below hw10)
  refine rangeVu (α := RV) (encs := encV) cxOk (by decide) hR rfl Tryz.call185 hseq (fun z => V.own z) (by omega) (by show w.heap.size ≤ B0 + 2; omega) (nR _ (by omega))
    ?kt ?kb (fun x => rfl)
    (γ := Value × Int) (fun c => [⟨[.val (.int .i64 cz), .val (.int .i64 cr)], TCaps⟩, ⟨[.val c.1], 74⟩, ⟨[.val (.int .i64 0)], 28⟩])
    (fun (pre : List RV) (c : Value × Int) W => (∀ x : RV, x ∈ pre → x.e = 0) ∧ ∃ ss : List Svl, ss.length = pre.length ∧ Own TZs w10.heap.size W c.1 ss ∧ Cl.Rows w10.heap.size W ss (pre.map fun x => (Cv.prune x.l).1)) ?phi (.slice none 0 0, 0) rfl ⟨by simp, [], rfl, Own.nil, Cl.Rows.nil⟩
    (fun (c : Code) (pre : List RV) (q : Value × Int) (W : World) => c = .ret ∧ ∃ (pre0 : List RV) (x : RV), pre = pre0 ++ [x] ∧ (∀ y : RV, y ∈ pre0 → y.e = 0) ∧ x.e ≠ 0 ∧ q.2 = x.e)
    (fun _ q => [⟨[.val (.int .i64 cz), .val (.int .i64 cr)], TCaps⟩, ⟨[.val (.slice none 0 0)], 74⟩, ⟨[.val (.int .i64 q.2)], 28⟩])
    (fun c q pre A B row h hg hr => h) (fun z => [(8, .val (.slice z.a z.l.length z.c)), (9, .val (.int .i64 z.e))]) (fun z => []) (fun c bs => True) ?asg ?body ?done ?stop
  case kt =>
    exact fun h k => ⟨h.1.trans k.1, fun q hq hm => (k.2.1 q hq hm).trans (h.2.1 q hq hm), fun q cs f hq => (k.2.2 q cs f ((h.2.2 q cs f hq).trans hq)).trans (h.2.2 q cs f hq)⟩
  case kb =>
    intro W l o o' hl ho h1 h2
    refine ⟨⟨rfl, rfl, rfl, by simp, fun k hk => World.putObj_heap_other (by omega)⟩, fun q hq _ => World.putObj_heap_other (by omega), fun q cs f hq => World.putObj_heap_other (fun e => ?_)⟩
    subst e
    rw [ho] at hq; injection hq with hq; subst hq; cases h1
  case phi =>
    rintro c pre A C row ⟨hz, ss, hl, hOw, hRw⟩ hg hr
    exact ⟨hz, ss, hl, own_turn hOw hg hr (by omega), fun k s l hs hl => own_turn (hRw k s l hs hl) hg hr (by omega)⟩
  case asg =>
    intro l pre z c W hΦ hV hBW hsW hN
    refine ⟨rfl, [], rfl, trivial, Need.mk ⟨rfl, rfl, (List.append_nil _).symm, rfl⟩ (EndI.mk fun w9 h9 => ?_)⟩
    have hg := at_below h9 (by simp)
    exact ⟨below_keepsFrom hg _, ⟨hg.mono (by omega), fun q hq _ => hg.block q (by omega), fun q cs f hq => hg.block q (Array.getElem?_eq_some_iff.1 hq).1⟩, ⟨hΦ.1, by obtain ⟨_, ss, hl, hOw, hRw⟩ := hΦ; exact ⟨ss, hl, hOw.below hg, hRw.below hg⟩⟩, Own.below hV hg⟩
  case body =>
    intro l pre x c bs W hbs hψ hΦ hV hBW hsW hN
    obtain rfl := List.eq_nil_of_length_eq_zero hbs
    obtain ⟨hz, ss, hsl, hOw, hRw⟩ := hΦ
    refine Branch.mk (fun z3 => ?_) (fun z3 => ?_)
    · have hx : x.e ≠ 0 := by simpa using z3
      refine ⟨(c.1, x.e), Need.mk (CovH.mk rfl rfl rfl) (EndI.mk fun w9 h9 => ?_)⟩
      refine ⟨⟨h9.size, fun k o hk ho hcl => (h9.step k (Array.getElem?_eq_some_iff.1 ho).1 (fun hm => ?_)).trans ho⟩, rfl, pre, x, rfl, hz, hx, rfl⟩
      have m6 := lb7 b6 (by simp); have m7 := lb7 b7 (by simp)
      simp at hm
      omega
    · have hx : x.e = 0 := by simpa using z3
      apply CallI.use
      focus (exact fun w3 h3 => zsof_any x.l x.a x.c w3 (Sl.go (Own.sl hV) (at_below h3 (by simp)) (at_below h3 (by simp)).size))
      rintro v w11 v11 h11 hB11 ⟨a11, c11, rfl, hO11⟩
      have hF := at_below h11 (by simp)
      have hF := hF.trans (hB11.mono hF.size)
      refine NewI.mk fun b8 hb8 => ?_
      have hb8' : W.heap.size ≤ b8 := Nat.le_trans (by exact h11.size) (Nat.le_trans hB11.size hb8)
      have hF' : W.heap.size ≤ v11.heap.size := hF.size
      have m5 := lb7 b5 (by simp)
      have m6 := lb7 b6 (by simp)
      have m7 := lb7 b7 (by simp)
      have hr : ∀ k, c.1.ownBlock = some k → w.heap.size ≤ k ∧ k ∉ [b5, b6, b7, b8] := fun k hk => by
        have hkk := hOw.lt k hk
        refine ⟨by omega, fun hm => ?_⟩
        simp only [List.mem_cons, List.not_mem_nil, or_false] at hm
        omega
      have t6 : ∃ cs, W.heap[b6]? = some (.cells cs 74 (0, 0)) := ⟨_, (h11.step b6 (by omega) (by simp)).symm.trans (h11.blk 1 b6 _ rfl rfl)⟩
      refine GenN.app (α := Svl) elTZs ss [⟨a11, (Cv.prune x.l).1.length, c11⟩] w10.heap.size (fun w5 h5 => (hOw.below hF).below h5.go) (fun w5 h5 => src_own h5 3 rfl rfl rfl rfl) (by unfold maxLen; simp; omega) (by simp; omega) (fun w5 h5 => Nat.le_trans (Nat.le_trans hsW hF') h5.size)
        (fun w5 w6 h5 hg => keep_grown h5 hg hr) fun sv' w5 w6 h5 hg hO' => ?_
      obtain ⟨a', c', rfl⟩ := hO'.form
      refine ⟨(.slice a' (ss ++ [(⟨a11, (Cv.prune x.l).1.length, c11⟩ : Svl)]).length c', 0), ?_⟩
      refine Need.mk (CovH.mk rfl rfl rfl) (EndI.mk fun w9 h9 => ?_)
      have hv5 : v11.heap.size ≤ w5.heap.size := h5.size
      have hs6 := hg.size
      have hs9 := h9.size
      have hW9 : W.heap.size ≤ w9.heap.size := by omega
      have keep1 : ∀ k, k < W.heap.size → k ≠ b6 → c.1.ownBlock ≠ some k → w9.heap[k]? = W.heap[k]? := fun k hkW h3 hrow => by
        refine (h9.step k (by omega) (fun hm => ?_)).trans ((hg.block k (by omega) (fun e => hrow e.symm)).trans ((h5.go.block k (by omega)).trans (hF.block k hkW)))
        simp at hm; omega
      have rowt : ∀ (k : Nat) (cs : Array Value) (t : TypeId) (f : Nat × Nat), c.1.ownBlock = some k → W.heap[k]? = some (.cells cs t f) → t = TZs := fun k cs t f e hk => by
        obtain ⟨_, ⟨e0, _⟩ | ⟨g, cp, cur, e0, _, hgb, _⟩⟩ := id hOw
        · rw [e0] at e; cases e
        · rw [e0] at e
          injection e with e
          subst e
          rw [hgb] at hk; injection hk with hk; injection hk with _ hk; exact hk.symm
      have rowc : ∀ k, c.1.ownBlock = some k → ∃ (cs : Array Value) (f : Nat × Nat), W.heap[k]? = some (.cells cs TZs f) := fun k e => by
        obtain ⟨_, ⟨e0, _⟩ | ⟨g, cp, cur, e0, _, hgb, _⟩⟩ := id hOw
        · rw [e0] at e; cases e
        · rw [e0] at e
          injection e with e
          subst e
          exact ⟨_, _, hgb⟩
      have keepT : ∀ (k : Nat) (cs : Array Value) (f : Nat × Nat), W.heap[k]? = some (.cells cs TZ f) → w9.heap[k]? = W.heap[k]? := fun k cs f hk => by
        refine keep1 k (Array.getElem?_eq_some_iff.1 hk).1 (fun e => ?_) (fun e => ?_)
        · obtain ⟨_, t6⟩ := t6
          subst e
          rw [t6] at hk; injection hk with hk; injection hk with _ hk; exact absurd hk (by decide)
        · exact absurd (rowt k _ _ _ e hk) (by decide)
      refine ⟨⟨hW9, fun k o hk7 hk hcl => ?_⟩, ⟨?_, ?_, keepT⟩, ?_, ss ++ [⟨a11, (Cv.prune x.l).1.length, c11⟩], by simp [hsl], ?_, ?_⟩
      · have hkW : k < W.heap.size := (Array.getElem?_eq_some_iff.1 hk).1
        refine (keep1 k hkW (by omega) (fun e => ?_)).trans hk
        obtain ⟨_, _, h⟩ := rowc k e
        rw [h] at hk; cases hk; cases hcl
      · exact below_between (X := w) hBW (by exact h9.below) hW9
      · exact fun k hk hm => keep1 k (by omega) (fun e => hm (by rw [e]; simp)) (fun e => by have := hOw.lt k e; omega)
      · intro y hy
        rcases List.mem_append.1 hy with hy | hy
        · exact hz y hy
        · rw [List.mem_singleton.1 hy]; exact hx
      · exact hO'.at h9 (fun b hb => by simp at hb; omega)
      · rw [List.map_append]
        refine Rows.app (by simp [hsl]) (hRw.cells keepT) ?_
        refine Own.lower (own_cells hO11 (fun k cs f hk hge => ?_)) (by have := h11.size; omega)
        have hkv := (Array.getElem?_eq_some_iff.1 hk).1
        have h11s := h11.size
        refine (h9.step k (by omega) (fun hm => ?_)).trans ((hg.block k (by omega) (fun e => ?_)).trans (h5.go.block k hkv))
        · simp at hm; omega
        · have := hOw.lt k e.symm; omega
  case done =>
    rintro D xs c W hD hSx ⟨hz, ss, hsl, hOw, hRw⟩ hmark
    have hDW : D < W.heap.size := (Array.getElem?_eq_some_iff.1 hmark).1
    have hf : (seq old part cz cr).find? (fun x => decide (x.2 ≠ 0)) = none := by
      rw [← hSx, List.find?_eq_none]
      intro y hy
      obtain ⟨x, hx, rfl⟩ := List.mem_map.1 hy
      simp [rv, hz x hx]
    rw [hf]
    have hmm : (xs.map fun x => (Cv.prune x.l).1) = (seq old part cz cr).map (fun x => (Cv.prune x.1).1) := by rw [← hSx, List.map_map]; rfl
    rw [hmm] at hRw
    obtain ⟨a', c', hcc⟩ := hOw.form
    obtain ⟨c1, c2⟩ := c
    simp only at hOw hcc
    subst hcc
    have m5 := lb7 b5 (by simp); have m6 := lb7 b6 (by simp); have m7 := lb7 b7 (by simp)
    refine EndM.mk fun w13 h13 => ⟨⟨by show w.heap.size ≤ D; omega, (h13.step D hDW (by simp)).trans hmark⟩, fun w14 hu => ?_⟩
    have same : ∀ (k : Nat) (cs : Array Value) (t : TypeId) (f : Nat × Nat), W.heap[k]? = some (.cells cs t f) → w10.heap.size ≤ k → w14.heap[k]? = W.heap[k]? := fun k cs t f hk hge => by
      have hkW := (Array.getElem?_eq_some_iff.1 hk).1
      refine (hu.2.2.2.2 k (fun e => ?_)).trans (h13.step k hkW (by simp))
      subst e
      rw [hmark] at hk; cases hk
    refine ⟨_, _, ss, rfl, ?_, ?_, ?_⟩
    · rw [hsl]
      show xs.length = ((seq old part cz cr).map (fun x => (Cv.prune x.1).1)).length
      rw [List.length_map, ← hSx, List.length_map]
    · obtain ⟨hl, h0 | ⟨g, cap, cur, e1, e2, e3, e4⟩⟩ := hOw
      · exact ⟨hl, .inl h0⟩
      · exact ⟨hl, .inr ⟨g, cap, cur, e1, by omega, (same g _ _ _ e3 e2).trans e3, e4⟩⟩
    · exact fun k s l hs hl => (own_cells (hRw k s l hs hl) fun q cs f hq hge => same q cs _ f hq hge).lower (by omega)
  case stop =>
    rintro D cd e pre q W hD hSp ⟨rfl, pre0, x, rfl, hz, hx, hq⟩ hex hmark
    have hDW : D < W.heap.size := (Array.getElem?_eq_some_iff.1 hmark).1
    obtain ⟨t, ht⟩ := hSp
    have hf : (seq old part cz cr).find? (fun x => decide (x.2 ≠ 0)) = some (rv x) := by
      rw [← ht, List.map_append, List.append_assoc, List.find?_append, List.find?_eq_none.2 (fun y hy => by
        obtain ⟨z, hz', rfl⟩ := List.mem_map.1 hy
        simp [rv, hz z hz'])]
      simp [rv, hx]
    rw [hf]
    injection hex with hex
    subst hex
    refine EndM.mk fun w10 h10 => ⟨⟨by show w.heap.size ≤ D; omega, (h10.step D hDW (by simp)).trans hmark⟩, fun w11 hu => ?_⟩
    exact ⟨_, _, [], by rw [hq]; rfl, rfl, Own.nil, Cl.Rows.nil⟩
end Go.Proofs.YtjbhpfmnfdebkaaGreat

