/-
  One law on a range over a function whose loop variables are the caller's own cells (the assignment writes memory in every round) and whose body is empty. Where the iterator hands over x, the invariant of what has come so far goes from pre to pre ++ [x] by the assignment itself.
-/
import Derived.RangeFuncNested
namespace Go.Proofs.Ytcidjmhadpoibaa
set_option linter.unusedVariables false
open Go.RowKit

/-- For a loop that only assigns: the fence is the wide one, the loop stands in no round, and no round leaves by a jump. -/
theorem range_assigns {α : Type} {P : Program} {n : Nat} {g : Operand} {ps : Array Tmp} {assign body : Code} {Q : Exit → Act → World → Prop} {a : Act} {w : World}
    (h1 : 1 ≤ n) {gf : Nat} {lb : Array Value} (hg : a.eval g = .func (.func gf) #[] lb) (eg : ∀ args w, (callFunc gf args).run P w = .ok (.enter gf args) w)
    {encs : α → Array Value} {n₀ N : Nat} {S : List α → Prop} (hn₀ : n₀ ≤ w.heap.size) (hseq : SeqStopsK Fence.wide (n - 1) P gf lb encs (Below n₀) S (fun _ => True) N w) (hps : ∀ x, (encs x).size = ps.size)
    (I : List α → World → Prop) (hI : OwnFrom w.heap.size I) (h0 : I [] w)
    (hassign : ∀ (l : Nat) (pre : List α) (x : α) (W : World), I pre W →
      assign.wpIn (Fence.wide.inRound l) (n - 1 - 1) P (Exit.then (fun _ W' => KeepsFrom w.heap.size W W' ∧ Below n₀ W W' ∧ I (pre ++ [x]) W') (fun _ _ _ => False)) { tmps := (ps.zip (encs x)).foldl (fun t (p, v) => t.setIfInBounds p v) a.tmps, defers := [] } W)
    (hbody : ∀ (l : Nat) (R : Exit → Act → World → Prop) (a' : Act) (W : World), R .normal a' W → body.wpIn (Fence.wide.inRound l) (n - 1 - 1) P R a' W)
    (hdone : ∀ (D : Nat) (xs : List α) (W : World), w.heap.size ≤ D → S xs → I xs W → W.heap[D]? = some (.deferred (some [])) → Q .normal { a with defers := { target := .collected D, args := #[] } :: a.defers } W) :
    (Code.rangeFunc g ps assign body).wpIn Fence.wide n P Q a w := by
  refine wpIn_rangeFunc fun fn hfn => ?_
  -- the record of the loop, in each of its states
  obtain ⟨rec, hrec⟩ : ∃ rec : LoopState → Option Code → Loop, rec = fun st pe => { state := st, pending := pe, fn, tmps := a.tmps, params := ps, assign, body, defers := w.heap.size } := ⟨_, rfl⟩
  let Z := (w.alloc (.deferred (some []))).alloc (.loop (rec .ready none))
  have zL : Z.heap[w.heap.size + 1]? = some (.loop (rec .ready none)) := by
    have := World.alloc_heap_new (w.alloc (.deferred (some []))) (.loop (rec .ready none)); rwa [World.size_alloc] at this
  have zK : Z.heap[w.heap.size]? = some (.deferred (some [])) := (Below.heap_alloc _ _ _ (by simp)).trans (World.alloc_heap_new w _)
  have zB : Below w.heap.size w Z := ((Below.refl _ w).alloc (Nat.le_refl _) _).alloc (by simp) _
  have zs : w.heap.size ≤ Z.heap.size := zB.size
  let J : List α → World → Prop := fun pre W => I pre W ∧ W.heap[w.heap.size + 1]? = some (.loop (rec .ready none)) ∧ W.heap[w.heap.size]? = some (.deferred (some []))
  have hJ : AbidesFrom Z.heap.size J := fun s A B row hs hg' hr =>
    ⟨hI s A B row hs.1 hg' (fun r e => by obtain ⟨hB, o, ho, hw⟩ := hr r e; exact ⟨Nat.le_trans zs hB, o, ho, Obj.not_cells_of_walk hw⟩),
      (grownBy_keeps hg' (fun r e => (hr r e).2) hs.2.1 rfl).trans hs.2.1, (grownBy_keeps hg' (fun r e => (hr r e).2) hs.2.2 rfl).trans hs.2.2⟩
  refine ⟨w.heap.size + 1, [{ target := .collected w.heap.size, args := #[] }], Z, { target := .fn (.func gf) lb, args := #[.func (.yield (w.heap.size + 1)) #[] #[]] }, Z, gf,
    #[.func (.yield (w.heap.size + 1)) #[] #[]] ++ lb, Z, ?_, ?_, fun _ _ => trivial, ?_, fun _ => h1, ?_⟩
  · simp only [Z, hrec]; exact run_enterLoop_outer _ _ _ _ _
  · simp only [resolve, hg]
    simp [go_sem]
  · simp [invoke, go_sem, eg]
  refine (hseq (w.heap.size + 1) J (fun _ _ => False) Z zB hJ (fun _ _ _ _ hs _ _ => hs) ?_ ⟨hI.alloc _ (hI.alloc _ h0), zL, zK⟩).mono ?_
  · -- one round
    rintro pre x W ⟨hi, hl, hk⟩ _
    have hy := run_yield (P := P) (args := encs x) hl (by rw [hrec]; exact hps x)
    rw [hrec] at hy
    refine ⟨fn, _, assign, body, hy, roundIn_of_wpIn hfn (wpIn_mono (hassign _ pre x W hi) ?_)⟩
    clear hy
    intro e a' V hV
    cases e with
    | normal =>
      obtain ⟨vk, vb, vi⟩ := hV
      have vl := vk.same _ _ (by omega) hl rfl
      have vd := vk.same _ _ (Nat.le_refl _) hk rfl
      have vlt := (Array.getElem?_eq_some_iff.1 vl).1
      refine ⟨_, run_beginRound vl (by rw [hrec]), hbody _ _ _ _ ?_⟩
      -- the record: busy, then ready again
      have bl : (V.putObj (w.heap.size + 1) (.loop { rec .ready none with state := .busy })).heap[w.heap.size + 1]? = some (.loop { rec .ready none with state := .busy }) := World.putObj_heap_same vlt
      have bd : (V.putObj (w.heap.size + 1) (.loop { rec .ready none with state := .busy })).heap[w.heap.size]? = some (.deferred (some [])) := (World.putObj_heap_other (by omega)).trans vd
      have r0 := run_endRound (P := P) none bl
      refine ⟨_, _, r0, .inl ⟨rfl, ⟨hI.putObj _ (hI.putObj _ vi (by omega) vl rfl) (by omega) bl rfl, ?_, ?_⟩, ?_⟩⟩
      · have := World.putObj_heap_same (o := .loop { { rec .ready none with state := .busy } with state := if (none : Option Code).isNone then .ready else .done, pending := none }) (Array.getElem?_eq_some_iff.1 bl).1
        rw [this, hrec]; rfl
      · exact (World.putObj_heap_other (by omega)).trans bd
      · exact (vb.trans (belowK_b (w := w) hn₀ V _ _ _ (by omega) vl rfl rfl)).trans (belowK_b (w := w) hn₀ _ _ _ _ (by omega) bl rfl rfl)
    | ret => exact hV.elim
    | exit _ => exact hV.elim
    | goto _ => exact hV.elim
    | panic _ => exact hV.elim
    | outgrown => exact hV.elim
  · -- behind the iterator
    rintro e V ⟨⟨v, rfl⟩, (⟨xs, hS, hi, hl, hk⟩ | ⟨_, _, hf⟩)⟩
    · have r1 := run_endLoop (P := P) hl (by rw [hrec]; simp)
      refine ⟨none, _, by rw [hrec] at r1; exact r1, hdone _ xs _ (Nat.le_refl _) hS (hI.putObj _ hi (by omega) hl rfl) ((World.putObj_heap_other (by omega)).trans hk)⟩
    · exact hf.elim

end Go.Proofs.Ytcidjmhadpoibaa
