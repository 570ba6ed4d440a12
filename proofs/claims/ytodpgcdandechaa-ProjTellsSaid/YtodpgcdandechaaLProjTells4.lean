/-
  Merged texts of this law (each with its own head below).
-/
import Derived.Test.YtodpgcdandechaaLProjTells3
import Derived.Test.YtodpgcdandechaaLProjTells1
import Derived.RangeFuncBox
import Derived.RangeFuncLeaves
import Derived.Shelf.Abstract
import Derived.WalkKit
import Derived.OwnWalkIn
import Derived.TacticsInMore
import Derived.LoopNIn
import Derived.LoopIn
import Derived.Shelf.SlGeneric
import Derived.Shelf.SortM.Plain
import Derived.Shelf.SortM.SortNone
import Derived.Ground.SlgmProg
import Derived.Test.YtodpgcdandechaaProg
import Derived.Sort.OwnSortedInts
/-
  What stays: the worlds that a run has come by, each of which still stands below; one list, lengthened call by call.
-/
namespace Go.Proofs.Ytodpgcdandechaa
set_option linter.unusedVariables false
open Go.RowKit Go.Proofs.Ytodpgcdandechaa.Eng Enc

/-- the worlds that the run has come by; w: the last one. -/
structure Stay (w0 : Base) (l : List World) (w : World) : Prop where
  base : ∀ X, X ∈ l → Below w0.B w0.W X
  all : ∀ X, X ∈ l → Below X.heap.size X w
theorem Stay.start {w0 : Base} {w : World} (h : Below w0.B w0.W w) : Stay w0 [w] w :=
  ⟨fun X hX => by rw [List.mem_singleton.1 hX]; exact h, fun X hX => by rw [List.mem_singleton.1 hX]; exact Below.refl _ _⟩
theorem Stay.first {w : World} : Stay ⟨w, w.heap.size, Nat.le_refl _⟩ [w] w := Stay.start (Below.refl _ _)
section
variable {w0 : Base} {l : List World} {hp : List LB} {r L : List Nat} {w w1 w2 : World}
/-- at a world at hand. -/
theorem Stay.at (st : Stay w0 l w) (h : At w0 hp r L w w1) (hL : ∀ b, b ∈ L → w.heap.size ≤ b) : Stay w0 (w1 :: l) w1 := by
  refine ⟨fun X hX => ?_, fun X hX => ?_⟩
  · rcases List.mem_cons.1 hX with rfl | hX
    · exact h.below
    · exact st.base X hX
  · rcases List.mem_cons.1 hX with rfl | hX
    · exact Below.refl _ _
    · exact h.from (st.base X hX) (st.all X hX) fun b hb => Nat.le_trans (st.all X hX).size (hL b hb)
theorem Stay.go (st : Stay w0 l w) (h : w0.B ≤ w.heap.size) (hb : Below w0.B w0.W w) (hB : Below w.heap.size w w2) : Stay w0 (w2 :: l) w2 := by
  refine ⟨fun X hX => ?_, fun X hX => ?_⟩
  · rcases List.mem_cons.1 hX with rfl | hX
    · exact hb.trans (hB.mono h)
    · exact st.base X hX
  · rcases List.mem_cons.1 hX with rfl | hX
    · exact Below.refl _ _
    · exact (st.all X hX).trans (hB.mono (st.all X hX).size)
theorem Stay.next (st : Stay w0 l w) (h : At w0 hp r L w w1) (hL : ∀ b, b ∈ L → w.heap.size ≤ b) (hB : Below w1.heap.size w1 w2) : Stay w0 (w2 :: w1 :: l) w2 :=
  (st.at h hL).go (Nat.le_trans w0.le h.below.size) h.below hB
theorem Stay.sub {m : List World} (st : Stay w0 l w) (h : ∀ X, X ∈ m → X ∈ l) : Stay w0 m w := ⟨fun X hX => st.base X (h X hX), fun X hX => st.all X (h X hX)⟩
theorem Stay.get (st : Stay w0 l w) {X : World} (hX : X ∈ l) : Below X.heap.size X w := st.all X hX
end
/-- a list that was shown at a world that the run has come by. -/
theorem Sl.st {α : Type} [Enc α] {w0 : Base} {l : List World} {X w : World} {sv : Value} {m : List α} (h : Sl X.heap.size X sv m) (st : Stay w0 l w) (hX : X ∈ l := by simp) : Sl w.heap.size w sv m := h.go (st.get hX) (st.get hX).size
/-- a slice's beginning. -/
theorem Sl.pre {α : Type} [Enc α] {n : Nat} {W : World} {a : Option Addr} {m cap : Nat} {l : List α} (h : Sl n W (.slice a m cap) l) (hi : Nat) (h2 : hi ≤ l.length) : Sl n W (.slice a hi cap) (l.take hi) := by
  obtain ⟨a', cap', e, c1, c2, c3, c4⟩ := h
  injection e with e1 e2 e3
  subst e1; subst e2; subst e3
  have hl : (l.take hi).length = hi := by simp; omega
  refine ⟨_, _, by rw [hl], by rw [hl]; omega, c2, c3, fun k x hk => ?_⟩
  rw [List.getElem?_take] at hk
  split at hk
  case isFalse => cases hk
  exact c4 k x hk
theorem Fresh.st {w0 : Base} {l : List World} {X w : World} {e : TypeId} {base : Nat} {sv : Value} {m : List Int} (h : Fresh e base X sv m) (st : Stay w0 l w) (hX : X ∈ l := by simp) : Fresh e base w sv m := h.below (st.get hX)
theorem Own.st {α : Type} [Enc α] {w0 : Base} {l : List World} {X w : World} {e : TypeId} {base : Nat} {sv : Value} {m : List α} (h : Own e base X sv m) (st : Stay w0 l w) (hX : X ∈ l := by simp) : Own e base w sv m := h.below (st.get hX)

/-- a list that a loop makes longer, in a row of the run's own: the worlds that stay; the row lies behind base, and base behind them and behind the run's blocks. -/
structure Lp {α : Type} [Enc α] (w0 : Base) (l : List World) (r : List Nat) (e : TypeId) (base : Nat) (W : World) (v : Value) (xs : List α) : Prop where
  st : Stay w0 l W
  own : Own e base W v xs
  anc : ∀ X, X ∈ l → X.heap.size ≤ base
  blk : ∀ b, b ∈ r → b < base
  size : base ≤ W.heap.size
  b0 : w0.B ≤ base
section
variable {α : Type} [Enc α] {w0 : Base} {l : List World} {hp : List LB} {r r0 L : List Nat} {w w1 w2 : World} {e : TypeId} {base : Nat} {v sv : Value} {xs : List α}
theorem Lp.start (st : Stay w0 l w) (h : At w0 hp r L w w1) (hL : ∀ b, b ∈ L → w.heap.size ≤ b) : Lp w0 l r e w1.heap.size w1 (.slice none 0 0) ([] : List α) := by
  have s1 := st.at h hL
  refine ⟨⟨fun X hX => st.base X hX, fun X hX => s1.all X (List.mem_cons_of_mem _ hX)⟩, Own.nil, fun X hX => (s1.all X (List.mem_cons_of_mem _ hX)).size, fun b hb => h.lt b hb, Nat.le_refl _, Nat.le_trans w0.le h.below.size⟩
theorem Lp.go (lp : Lp w0 l r0 e base w v xs) (hB : Below w.heap.size w w2) : Lp w0 l r0 e base w2 v xs :=
  ⟨⟨lp.st.base, fun X hX => (lp.st.all X hX).trans (hB.mono (lp.st.all X hX).size)⟩, lp.own.below hB, lp.anc, lp.blk, Nat.le_trans lp.size hB.size, lp.b0⟩
theorem Lp.at (lp : Lp w0 l r0 e base w v xs) (h : At w0 hp r L w w1) (hL : ∀ b, b ∈ L → w.heap.size ≤ b ∨ b < base ∧ ∀ X, X ∈ l → X.heap.size ≤ b) : Lp w0 l r0 e base w1 v xs := by
  refine ⟨⟨lp.st.base, fun X hX => h.from (lp.st.base X hX) (lp.st.all X hX) fun b hb => ?_⟩, ?_, lp.anc, lp.blk, Nat.le_trans lp.size h.size, lp.b0⟩
  · rcases hL b hb with h1 | h1
    · exact Nat.le_trans (lp.st.all X hX).size h1
    · exact h1.2 X hX
  · obtain ⟨hl, h0 | ⟨g, cap, cur, e1, e2, e3, e4⟩⟩ := lp.own
    · exact ⟨hl, .inl h0⟩
    · have hg := (Array.getElem?_eq_some_iff.1 e3).1
      exact ⟨hl, .inr ⟨g, cap, cur, e1, e2, (h.step g hg (fun e => by have := hL g e; omega)).trans e3, e4⟩⟩
/-- a list that begins as a block of the run's own that is full, and is lengthened. -/
def Lq (α : Type) [Enc α] (w0 : Base) (l : List World) (r : List Nat) (e : TypeId) (W : World) (v : Value) (b : Nat) (x0 xs : List α) : Prop :=
  (v = .slice (some ⟨b, 0, none⟩) x0.length x0.length ∧ xs = x0 ∧ Stay w0 l W) ∨ ∃ base, Lp w0 l r e base W v xs
theorem Lq.st {b : Nat} {x0 : List α} (h : Lq α w0 l r e w v b x0 xs) : Stay w0 l w := by
  rcases h with ⟨_, _, h⟩ | ⟨_, h⟩
  · exact h
  · exact h.st
theorem Lq.at {b : Nat} {x0 : List α} (lq : Lq α w0 l r0 e w v b x0 xs) (h : At w0 hp r [] w w1) : Lq α w0 l r0 e w1 v b x0 xs := by
  rcases lq with ⟨e1, e2, h1⟩ | ⟨base, h1⟩
  · exact .inl ⟨e1, e2, (h1.at h (by simp)).sub fun X hX => List.mem_cons_of_mem _ hX⟩
  · exact .inr ⟨base, h1.at h (by simp)⟩
theorem Lq.go {b : Nat} {x0 : List α} (lq : Lq α w0 l r0 e w v b x0 xs) (hB : Below w.heap.size w w2) : Lq α w0 l r0 e w2 v b x0 xs := by
  rcases lq with ⟨e1, e2, h1⟩ | ⟨base, h1⟩
  · exact .inl ⟨e1, e2, h1.base, fun X hX => (h1.all X hX).trans (hB.mono (h1.all X hX).size)⟩
  · exact .inr ⟨base, h1.go hB⟩
theorem Lq.form {b : Nat} {x0 : List α} (lq : Lq α w0 l r0 e w v b x0 xs) : ∃ a c, v = .slice a xs.length c := by
  rcases lq with ⟨e1, e2, h1⟩ | ⟨base, h1⟩
  · subst e2; exact ⟨_, _, e1⟩
  · exact h1.own.form
/-- the list, as it is shown; the run's block number i holds what it begins with. -/
theorem Lq.sl {b : Nat} {x0 : List α} (lq : Lq α w0 l r0 e w v b x0 xs) (h : At w0 hp r [] w w1) (i : Nat) {c : LB} (hi : r[i]? = some b) (hc : hget hp i = some c) (hm : denL r c.cells = cellsL x0) (hmax : x0.length ≤ maxLen) : Sl w1.heap.size w1 v xs := by
  rcases lq with ⟨e1, e2, h1⟩ | ⟨base, h1⟩
  · subst e1; subst e2
    exact Sl.own h i hi hc hm (Nat.le_refl _) hmax
  · exact (h1.at h (by simp)).own.sl
end
end Go.Proofs.Ytodpgcdandechaa

/-
  Ranges over functions, in the run, that carry something on from round to round.
-/
namespace Go.Proofs.Ytodpgcdandechaa.Eng
set_option linter.unusedVariables false
set_option linter.unusedSimpArgs false
open Go Go.RowKit Go.Shelf Go.Proofs

section
variable {cx : Cx} {w0 : Base}

/-- A RANGE OVER A FUNCTION, in the run, with something that the rounds carry on (a row's address). -/
theorem rangeE (hcx : CxOk cx) {n : Nat} (h1 : 1 ≤ n) {s : St} {a : Act} {w : World} (hR : Rel w0 s a w) {g : Operand} {ps : Array Tmp} {x y : Code} {K : Exit → St → Prop} {gf : Nat} {lb : Array Value}
    (hg : ev s.fr g = .val (.func (.func gf) #[] lb)) (eg : Enters cx.P gf)
    {α : Type} {encs : α → List Value} {Kp : World → World → Prop} {S Sp : List α → Prop} {N : Nat} (hseq : SeqStopsK Fence.wide (n - 1) cx.P gf lb (fun x => (encs x).toArray) Kp S Sp N w)
    (hKt : ∀ {A B C : World}, Kp A B → Kp B C → Kp A C) (hKb : ∀ (W : World) (l : Nat) (o o' : Obj), w.heap.size ≤ l → W.heap[l]? = some o → o.isCells = false → o.isWalk = false → Kp W (W.putObj l o'))
    (hKg : ∀ W W', w.heap.size ≤ W.heap.size → W.grownBy W' none → Kp W W') (hps : ∀ x, (encs x).length = ps.size)
    {γ : Type} (hpf : γ → List LB) (Φ : List α → γ → World → Prop) (hΦ : ∀ c, OwnFrom w.heap.size fun pre W => Φ pre c W) (c0 : γ) (hp0 : hpf c0 = s.hp) (hΦ0 : Φ [] c0 w)
    (Ix : Code → List α → γ → World → Prop) (hpx : Code → γ → List LB) (hIx : ∀ c q, OwnFrom w.heap.size fun pre W => Ix c pre q W)
    (frx : α → Fr)
    (hassign : ∀ l z hp W, codeD (Fence.wide.inRound l) (n - 1 - 1) cx w0 x (fun e s' => e = .normal ∧ s' = ⟨frx z, hp, s.r, [], W, []⟩) ⟨setP s.fr ps.toList (encs z), hp, s.r, [], W, []⟩)
    (hbody : ∀ l pre x c W, Φ pre c W → Below w0.B w0.W W → w.heap.size ≤ W.heap.size → pre.length < N → codeD (Fence.wide.inRound l) (n - 1 - 1) cx w0 y
      (fun e s' => match e with
        | .normal => s'.on fun fr2 hp2 r2 L2 w2 df2 => ∃ c', Need (CovH (hpf c') s.r ⟨fr2, hp2, r2, L2, w2, df2⟩) (EndI w0 hp2 r2 L2 w2 undef fun _ w1 => KeepsFrom w.heap.size W w1 ∧ Kp W w1 ∧ Φ (pre ++ [x]) c' w1)
        | .ret => s'.on fun fr2 hp2 r2 L2 w2 df2 => ∃ c', Need (CovH (hpx .ret c') s.r ⟨fr2, hp2, r2, L2, w2, df2⟩) (EndI w0 hp2 r2 L2 w2 undef fun _ w1 => KeepsFrom w.heap.size W w1 ∧ Ix .ret (pre ++ [x]) c' w1)
        | .exit id => s'.on fun fr2 hp2 r2 L2 w2 df2 => ∃ c', Need (CovH (hpx (.exit id) c') s.r ⟨fr2, hp2, r2, L2, w2, df2⟩) (EndI w0 hp2 r2 L2 w2 undef fun _ w1 => KeepsFrom w.heap.size W w1 ∧ Ix (.exit id) (pre ++ [x]) c' w1)
        | _ => False) ⟨frx x, hpf c, s.r, [], W, []⟩)
    (hdone : ∀ D xs c W, w.heap.size ≤ D → S xs → Φ xs c W → W.heap[D]? = some (.deferred (some [])) → K .normal ⟨s.fr, hpf c, s.r, [], W, { target := .collected D, args := #[] } :: s.df⟩)
    (hstop : ∀ D c e pre q W, w.heap.size ≤ D → Sp pre → Ix c pre q W → exitOf c = some e → W.heap[D]? = some (.deferred (some [])) → K e ⟨s.fr, hpx c q, s.r, [], W, { target := .collected D, args := #[] } :: s.df⟩) :

    (Code.rangeFunc g ps x y).wpIn Fence.wide n cx.P (fun e a' w' => ∃ s', Rel w0 s' a' w' ∧ K e s') a w := by

  have hev := hR.ev1 hg (by simp) []
  simp only [SV.den] at hev
  have hB : w0.B ≤ w.heap.size := Nat.le_trans w0.le hR.at_.below.size
  have ownR : ∀ (hp : List LB), OwnFrom w.heap.size (fun (pre : List α) W => Rel w0 ⟨s.fr, hp, s.r, [], W, s.df⟩ a W) := fun hp pre W W' row h hgr hr =>
    h.keep (grown_keep h hB hgr hr)
  have withD : ∀ {hp : List LB} {W : World} (D : Nat), Rel w0 ⟨s.fr, hp, s.r, [], W, s.df⟩ a W → Rel w0 ⟨s.fr, hp, s.r, [], W, { target := .collected D, args := #[] } :: s.df⟩ { a with defers := { target := .collected D, args := #[] } :: a.defers } W := fun {hp} {W} D h =>
    ⟨congrArg (_ :: ·) h.df, h.fits, ⟨h.at_.below, h.at_.size, h.at_.step, h.at_.blk, h.at_.fresh, h.at_.lt, h.at_.base⟩, h.blk, h.nod, h.len⟩
  have inner : ∀ {hp : List LB} {W : World} {a' : Act} {fr : Fr}, Rel w0 ⟨s.fr, hp, s.r, [], W, s.df⟩ a W → a'.defers = [] → (∀ t, Fits (s.r ++ t) fr a'.tmps) → Rel w0 ⟨fr, hp, s.r, [], W, []⟩ a' W := fun {hp} {W} {a'} {fr} h hd hf =>
    ⟨hd, hf, ⟨h.at_.below, h.at_.size, h.at_.step, h.at_.blk, h.at_.fresh, h.at_.lt, h.at_.base⟩, h.blk, h.nod, h.len⟩
  refine wpIn_rangeFunc_ownH rfl h1 hev trivial eg hseq hKt hKb (Below.refl _ _) (fun x => by simp [hps]) (fun pre W => ∃ c, Rel w0 ⟨s.fr, hpf c, s.r, [], W, s.df⟩ a W ∧ w.heap.size ≤ W.heap.size ∧ Φ pre c W)
    (fun c pre W => (∃ e, exitOf c = some e) ∧ ∃ q, Rel w0 ⟨s.fr, hpx c q, s.r, [], W, s.df⟩ a W ∧ Ix c pre q W)
    ?_ ?_ ?_ (fun x a' _ => a'.defers = [] ∧ ∀ t, Fits (s.r ++ t) (frx x) a'.tmps) (fun _ _ _ _ _ _ h _ _ => h) ?_ ?_ ?_ ?_
  · exact fun pre W W' row ⟨c, h⟩ hgr hr => ⟨c, ownR (hpf c) pre W W' row h.1 hgr hr, Nat.le_trans h.2.1 hgr.size, hΦ c pre W W' row h.2.2 hgr hr⟩
  · exact fun c pre W W' row ⟨h0, q, h⟩ hgr hr => ⟨h0, q, ownR (hpx c q) pre W W' row h.1 hgr hr, hIx c q pre W W' row h.2 hgr hr⟩
  · have h0 := hR.keep keep_refl
    refine ⟨c0, ?_, Nat.le_refl _, hΦ0⟩
    rw [hp0]; exact h0
  · rintro l pre z W K' ⟨c, hI⟩ hK
    have hr1 := rel_sets (w0 := w0) (s := ⟨s.fr, hpf c, s.r, [], W, []⟩) (a := ⟨a.tmps, []⟩) (inner hI.1 rfl hI.1.fits) ps.toList (encs z)
    have e1 : (ps.zip (encs z).toArray).foldl (fun (t : Array Value) (x : Nat × Value) => t.setIfInBounds x.1 x.2) a.tmps = sets a.tmps ps.toList (encs z) := by
      rw [← sets_eq]
    show x.wpIn _ _ _ _ ({ tmps := (ps.zip (encs z).toArray).foldl (fun (t : Array Value) (x : Nat × Value) => t.setIfInBounds x.1 x.2) a.tmps, defers := [] } : Act) W
    rw [e1]
    refine codeD_round hcx l _ _ _ _ _ W _ (hassign l z (hpf c) W) hr1 ?_
    rintro e s' a' W' ⟨rfl, rfl⟩ hR'
    have hgr := grown_of_at (a2 := a) hI.1 hR'.at_ rfl rfl
    refine hK a' W' ⟨hgr.size, fun k o _ hk _ => (hgr.block k (Array.getElem?_eq_some_iff.1 hk).1 (by simp)).trans hk⟩ (hKg W W' hI.2.1 hgr) ⟨c, ownR (hpf c) pre W W' none hI.1 hgr (by simp), Nat.le_trans hI.2.1 hgr.size, hΦ c pre W W' none hI.2.2 hgr (by simp)⟩ ⟨hR'.df, hR'.fits⟩
  · rintro l pre x a' W _ _ ⟨c, hI⟩ hA hN
    refine codeD_round hcx l _ y _ _ _ W _ (hbody l pre x c W hI.2.2 hI.1.at_.below hI.2.1 hN) (inner hI.1 hA.1 hA.2) ?_
    intro e s' a2 w1 hK hR'
    cases e with
    | normal =>
      simp only [St.on_eq] at hK
      obtain ⟨c', h1, h2⟩ := hK
      obtain ⟨h3, h4, h5⟩ := h2.h w1 hR'.at_
      exact ⟨h3, h4, c', covH_rel (s := ⟨s.fr, hpf c, s.r, [], W, s.df⟩) hI.1 hR' h1, Nat.le_trans hI.2.1 h3.size, h5⟩
    | ret =>
      simp only [St.on_eq] at hK
      obtain ⟨c', h1, h2⟩ := hK
      obtain ⟨h3, h5⟩ := h2.h w1 hR'.at_
      exact ⟨h3, ⟨_, rfl⟩, c', covH_rel (s := ⟨s.fr, hpf c, s.r, [], W, s.df⟩) hI.1 hR' h1, h5⟩
    | exit id =>
      simp only [St.on_eq] at hK
      obtain ⟨c', h1, h2⟩ := hK
      obtain ⟨h3, h5⟩ := h2.h w1 hR'.at_
      exact ⟨h3, ⟨_, rfl⟩, c', covH_rel (s := ⟨s.fr, hpf c, s.r, [], W, s.df⟩) hI.1 hR' h1, h5⟩
    | goto l => exact hK.elim
    | panic ch => exact hK.elim
    | outgrown => exact hK.elim
  · rintro D xs W hD hS ⟨c, hI⟩ hd
    exact ⟨_, withD D hI.1, hdone D xs c W hD hS hI.2.2 hd⟩
  · intro D c pre W hD hS hI hd
    obtain ⟨⟨e, he⟩, q, hRx, hix⟩ := hI
    have hk := hstop D c e pre q W hD hS hix he hd
    cases c <;> simp only [exitOf] at he <;> try (cases he; done)
    · injection he with he; subst he; exact wpIn_exit ⟨_, withD D hRx, hk⟩
    · injection he with he; subst he; exact wpIn_ret ⟨_, withD D hRx, hk⟩
end
end Go.Proofs.Ytodpgcdandechaa.Eng

/-
  The contract of dbm.Top, by the engine.
-/
namespace Go.Proofs.Ytodpgcdandechaa
set_option linter.unusedVariables false
set_option linter.unusedSimpArgs false
set_option maxRecDepth 100000
open Go.RowKit Go.Proofs.Ytodpgcdandechaa.Eng Enc

namespace Dbm
def topB (n k : Nat) : Int := if k / n = k % n then 1 else 9223372036854775807
def topL (n : Nat) : List Int := (List.range (n * n)).map (topB n)
def top (n : Int) : Int × List Int × Int := if 1 ≤ n ∧ n ≤ 4 then (n, topL n.toNat, 0) else (0, [], 2)
end Dbm

end Go.Proofs.Ytodpgcdandechaa

/-
  What the document's answer of layer 7 reckons, in the program's words: a clock less, a clock more, an order.
-/
namespace Go.Proofs.Ytodpgcdandechaa
set_option linter.unusedVariables false
set_option linter.unusedSimpArgs false
namespace Proj
open Dbm
/-- what is left without clock k, of the first m places. -/
def wl (N k : Nat) (c : List Int) (m : Nat) : List Int := (List.range m).filterMap fun p => if p / N ≠ k ∧ p % N ≠ k then some (c[p]?.getD 0) else none
theorem wl_zero (N k : Nat) (c : List Int) : wl N k c 0 = [] := rfl
theorem wl_succ (N k : Nat) (c : List Int) (m : Nat) : wl N k c (m + 1) = wl N k c m ++ (if m / N ≠ k ∧ m % N ≠ k then [c[m]?.getD 0] else []) := by
  unfold wl
  rw [List.range_succ, List.filterMap_append]
  congr 1
  simp only [List.filterMap_cons, List.filterMap_nil]
  split <;> rename_i h <;> split at h <;> simp_all
theorem wl_len (N k : Nat) (c : List Int) (m : Nat) : (wl N k c m).length ≤ m := by
  induction m with
  | zero => simp [wl_zero]
  | succ m ih =>
    rw [wl_succ, List.length_append]
    split <;> simp <;> omega
theorem wl_drop {N k : Nat} (hN : 1 ≤ N ∧ N ≤ 4) (hk : 1 ≤ k ∧ k < N) (c : List Int) : wl N k c (N * N) = dropL N k c := by
  have : (N = 2 ∧ k = 1) ∨ (N = 3 ∧ k = 1) ∨ (N = 3 ∧ k = 2) ∨ (N = 4 ∧ k = 1) ∨ (N = 4 ∧ k = 2) ∨ (N = 4 ∧ k = 3) := by omega
  rcases this with ⟨rfl, rfl⟩ | ⟨rfl, rfl⟩ | ⟨rfl, rfl⟩ | ⟨rfl, rfl⟩ | ⟨rfl, rfl⟩ | ⟨rfl, rfl⟩ <;> rfl
/-- a matrix with a clock more, behind m places that are written. -/
def gl (N : Nat) (L : List Int) (m : Nat) : List Int := (List.range m).foldl (fun M p => M.set (p / N * (N + 1) + p % N) (L[p]?.getD 0)) (topL (N + 1))
theorem gl_succ (N : Nat) (L : List Int) (m : Nat) : gl N L (m + 1) = (gl N L m).set (m / N * (N + 1) + m % N) (L[m]?.getD 0) := by
  unfold gl; rw [List.range_succ, List.foldl_append]; rfl
theorem gl_len (N : Nat) (L : List Int) (m : Nat) : (gl N L m).length = (N + 1) * (N + 1) := by
  induction m with
  | zero => simp [gl, topL]
  | succ m ih => rw [gl_succ, List.length_set, ih]
theorem gl_grow {N : Nat} (hN : 1 ≤ N ∧ N ≤ 3) (L : List Int) : gl N L (N * N) = growL N L := by
  have : N = 1 ∨ N = 2 ∨ N = 3 := by omega
  rcases this with rfl | rfl | rfl <;> rfl
theorem perm_of_sub {l m : List Int} (hn : l.Nodup) (hs : ∀ x, x ∈ l → x ∈ m) (hl : m.length = l.length) : m.Perm l := by
  induction l generalizing m with
  | nil =>
    have : m = [] := List.eq_nil_of_length_eq_zero (by simpa using hl)
    subst this; exact List.Perm.refl _
  | cons a l ih =>
    have ha : a ∈ m := hs a (by simp)
    have hn' := List.nodup_cons.1 hn
    have hp := List.perm_cons_erase ha
    refine hp.trans (List.Perm.cons a (ih hn'.2 (fun x hx => ?_) ?_))
    · have hne : x ≠ a := fun e => hn'.1 (e ▸ hx)
      exact (List.mem_erase_of_ne hne).2 (hs x (List.mem_cons_of_mem _ hx))
    · rw [List.length_erase_of_mem ha, hl]; simp
theorem moveOk_doc {N : Nat} {O : List Int} (hl : O.length = N) (h0 : O[0]?.getD 1 = 0) : moveOk N O = (List.range N).all fun n => decide ((n : Int) ∈ O) := by
  unfold moveOk
  rw [decide_eq_true (by omega : ((O.length : Nat) : Int) = N), decide_eq_true h0, Bool.eq_iff_iff]
  simp only [Bool.true_and, decide_eq_true_eq, List.all_eq_true, List.mem_range, Int.toNat_natCast]
  rw [sortI_upto]
  constructor
  · intro hp n hn
    exact hp.symm.subset (mem_upto.2 ⟨by omega, by omega⟩)
  · intro h
    refine perm_of_sub (upto_nodup N) (fun x hx => ?_) (by rw [hl]; simp [upto])
    have hx := mem_upto.1 hx
    have := h x.toNat (by omega)
    rwa [Int.toNat_of_nonneg hx.1] at this
end Proj
end Go.Proofs.Ytodpgcdandechaa

/-
  The document's own closing: the least simple way between two clocks; it is the closing of XPlainDbm.
-/
namespace Go.Proofs.Ytodpgcdandechaa
set_option linter.unusedVariables false
set_option linter.unusedSimpArgs false
namespace Dbm
/-- is a clock among some (bits)? -/
def inS (S k : Nat) : Bool := decide (S / 2 ^ k % 2 = 1)
def pc (S : Nat) : Nat := (if inS S 0 then 1 else 0) + (if inS S 1 then 1 else 0) + (if inS S 2 then 1 else 0) + (if inS S 3 then 1 else 0)
theorem inS_less {S k a : Nat} (hk : inS S k = true) (hS : S < 16) (hk4 : k < 4) (ha : a < 4) : (inS (S - 2 ^ k) a = true ↔ inS S a = true ∧ a ≠ k) ∧ pc (S - 2 ^ k) + 1 = pc S := by
  have key : ∀ S : Fin 16, ∀ k a : Fin 4, inS S.1 k.1 = true → (inS (S.1 - 2 ^ k.1) a.1 = true ↔ inS S.1 a.1 = true ∧ a.1 ≠ k.1) ∧ pc (S.1 - 2 ^ k.1) + 1 = pc S.1 := by decide +kernel
  exact key ⟨S, hS⟩ ⟨k, hk4⟩ ⟨a, ha⟩ hk
theorem inS_zero {S k : Nat} (hS : S < 16) (hp : pc S = 0) (hk : k < 4) : inS S k = false := by
  have key : ∀ S : Fin 16, ∀ k : Fin 4, pc S.1 = 0 → inS S.1 k.1 = false := by decide +kernel
  exact key ⟨S, hS⟩ ⟨k, hk⟩ hp
def cand (N : Nat) (L : List Int) (i : Nat) (rc : Nat → Int) (k : Nat) : Int := (Bd.add (L[i * N + k]?.getD 0) (rc k)).1
def pstep (sk : Nat → Bool) (cd : Nat → Int) (best : Int) (k : Nat) : Int := if sk k = true then best else if cd k < best then cd k else best
def skip (i j S k : Nat) : Bool := !(inS S k) || decide (k = i) || decide (k = j)
/-- the least sum of bounds by clocks among some, no clock twice; as deep as there are clocks. -/
def pth (N : Nat) (L : List Int) : Nat → Nat → Nat → Nat → Int
  | 0, i, j, _ => L[i * N + j]?.getD 0
  | f + 1, i, j, S => (List.range N).foldl (pstep (skip i j S) (cand N L i fun k => pth N L f k j (S - 2 ^ k))) (L[i * N + j]?.getD 0)
theorem fold_min {sk : Nat → Bool} {cd : Nat → Int} {G : Int → Prop} : ∀ (l : List Nat) (b : Int), G b → (∀ k, k ∈ l → sk k = false → G (cd k)) →
    G (l.foldl (pstep sk cd) b) ∧ l.foldl (pstep sk cd) b ≤ b ∧ ∀ k, k ∈ l → sk k = false → l.foldl (pstep sk cd) b ≤ cd k
  | [], b, hb, _ => ⟨hb, Int.le_refl _, by simp⟩
  | k :: l, b, hb, hc => by
    rw [List.foldl_cons]
    have hs : G (pstep sk cd b k) ∧ pstep sk cd b k ≤ b ∧ (sk k = false → pstep sk cd b k ≤ cd k) := by
      unfold pstep
      by_cases h1 : sk k = true
      · rw [if_pos h1]; exact ⟨hb, Int.le_refl _, fun h => by rw [h1] at h; cases h⟩
      · rw [if_neg h1]
        have h1' : sk k = false := by simpa using h1
        by_cases h2 : cd k < b
        · rw [if_pos h2]; exact ⟨hc k (by simp) h1', by omega, fun _ => Int.le_refl _⟩
        · rw [if_neg h2]; exact ⟨hb, Int.le_refl _, fun _ => by omega⟩
    obtain ⟨k1, k2, k3⟩ := fold_min l (pstep sk cd b k) hs.1 (fun a ha => hc a (by simp [ha]))
    refine ⟨k1, by omega, fun a ha hsa => ?_⟩
    rcases List.mem_cons.1 ha with rfl | ha
    · have := hs.2.2 hsa; omega
    · exact k3 a ha hsa
theorem le_ole {m : Int} (hm : m ≤ 2305843009213693952) {u v : Int} (hu : lim m u) (hv : lim m v) (h : u ≤ v) : ole (ob u) (ob v) :=
  not_olt.1 fun h2 => by have := (lt_iff hm hv hu).2 h2; omega
structure POk (N : Nat) (L : List Int) (i j S f : Nat) (v : Int) : Prop where
  lim : Dbm.lim 1152921504606846976 v
  wit : ∀ u, ob v = some u → ∃ mid : List Nat, mid.Nodup ∧ i ∉ mid ∧ j ∉ mid ∧ (∀ a, a ∈ mid → a < N ∧ inS S a = true) ∧ way (mx N L) (i :: (mid ++ [j])) = some u
  low : ∀ mid : List Nat, mid.Nodup → i ∉ mid → j ∉ mid → (∀ a, a ∈ mid → a < N ∧ inS S a = true) → mid.length ≤ f → ole (ob v) (way (mx N L) (i :: (mid ++ [j])))
section
variable {N : Nat} {L : List Int}
theorem mx_lim (h0 : chk N L = 0) : ∀ i j v, i < N → j < N → mx N L i j = some v → -288230376151711744 ≤ v / 2 ∧ v / 2 ≤ 288230376151711744 := fun i j v hi hj hv => by
  obtain ⟨c1, c2, c3, c4⟩ := chk_iff.1 h0
  have hL : L.length = N * N := by exact_mod_cast c3
  obtain ⟨e1, e2⟩ := mx_some hv
  have := chk_lim h0 (i * N + j) (by rw [hL]; exact place_lt hi hj)
  rw [e1] at this
  exact this.resolve_left e2
theorem way_lim3 (h0 : chk N L = 0) {i j : Nat} (hi : i < N) (hj : j < N) {mid : List Nat} (hn : mid.Nodup) (him : i ∉ mid) (hm : ∀ a, a ∈ mid → a < N) {u : Int} (hu : way (mx N L) (i :: (mid ++ [j])) = some u) : -1152921504606846976 ≤ u / 2 ∧ u / 2 ≤ 1152921504606846976 := by
  obtain ⟨c1, c2, c3, c4⟩ := chk_iff.1 h0
  have hlt : ∀ a ∈ i :: (mid ++ [j]), a < N := by
    intro a ha
    simp only [List.mem_cons, List.mem_append, List.not_mem_nil, or_false] at ha
    rcases ha with rfl | ha | rfl
    · exact hi
    · exact hm a ha
    · exact hj
  have hw := way_lim (by omega) (mx_lim h0) _ u hlt hu
  have hl := nodup_len N (i :: mid) (List.nodup_cons.2 ⟨him, hn⟩) (fun a ha => by rcases List.mem_cons.1 ha with rfl | ha; exact hi; exact hm a ha)
  have hl' : ((i :: (mid ++ [j])).length - 1 : Nat) ≤ 4 := by simp at hl ⊢; omega
  generalize ((i :: (mid ++ [j])).length - 1 : Nat) = x at hw hl'
  omega
theorem ob_lim {v m : Int} (h : ∀ u, ob v = some u → -m ≤ u / 2 ∧ u / 2 ≤ m) : lim m v := by
  by_cases hv : v = NO
  · exact .inl hv
  · exact .inr (h v (by unfold ob; rw [if_neg hv]))
theorem pth_ok (h0 : chk N L = 0) : ∀ (f i j S : Nat), i < N → j < N → S < 16 → inS S i = false → POk N L i j S f (pth N L f i j S)
  | 0, i, j, S, hi, hj, hS, hiS => by
    have hw : ∀ u, ob (pth N L 0 i j S) = some u → way (mx N L) (i :: ([] ++ [j])) = some u := fun u hu => by rw [List.nil_append, way_two]; exact hu
    refine ⟨ob_lim fun u hu => way_lim3 h0 hi hj (by simp) (by simp) (by simp) (hw u hu), fun u hu => ⟨[], by simp, by simp, by simp, by simp, hw u hu⟩, fun mid _ _ _ _ hl => ?_⟩
    have : mid = [] := List.eq_nil_of_length_eq_zero (by omega)
    subst this
    rw [List.nil_append, way_two]
    exact ole_refl _
  | f + 1, i, j, S, hi, hj, hS, hiS => by
    obtain ⟨c1, c2, c3, c4⟩ := chk_iff.1 h0
    have hN4 : N ≤ 4 := by omega
    have hL : L.length = N * N := by exact_mod_cast c3
    let G : Int → Prop := fun v => ∀ u, ob v = some u → ∃ mid : List Nat, mid.Nodup ∧ i ∉ mid ∧ j ∉ mid ∧ (∀ a, a ∈ mid → a < N ∧ inS S a = true) ∧ way (mx N L) (i :: (mid ++ [j])) = some u
    have Glim : ∀ v, G v → lim 1152921504606846976 v := fun v hv => ob_lim fun u hu => by
      obtain ⟨mid, m1, m2, m3, m4, m5⟩ := hv u hu
      exact way_lim3 h0 hi hj m1 m2 (fun a ha => (m4 a ha).1) m5
    have hsk : ∀ k, k < N → skip i j S k = false → inS S k = true ∧ k ≠ i ∧ k ≠ j := fun k hk h => by
      unfold skip at h
      simpa [and_assoc] using h
    have rc : ∀ k, k < N → skip i j S k = false → POk N L k j (S - 2 ^ k) f (pth N L f k j (S - 2 ^ k)) := fun k hk h => by
      obtain ⟨h1, h2, h3⟩ := hsk k hk h
      have hl := inS_less (a := k) h1 hS (by omega) (by omega)
      refine pth_ok h0 f k j (S - 2 ^ k) hk hj (Nat.lt_of_le_of_lt (Nat.sub_le _ _) hS) ?_
      cases hh : inS (S - 2 ^ k) k with
      | false => rfl
      | true => exact absurd rfl ((hl.1.1 hh).2)
    have cdE : ∀ k, k < N → skip i j S k = false → ob (cand N L i (fun k => pth N L f k j (S - 2 ^ k)) k) = oadd (mx N L i k) (ob (pth N L f k j (S - 2 ^ k))) := fun k hk h => by
      have l1 : lim 1152921504606846976 (L[i * N + k]?.getD 0) := lim_mono (chk_lim h0 (i * N + k) (by rw [hL]; exact place_lt hi hk)) (by omega)
      exact (add_eq l1 (rc k hk h).lim).1
    have cdG : ∀ k, k ∈ List.range N → skip i j S k = false → G (cand N L i (fun k => pth N L f k j (S - 2 ^ k)) k) := fun k hk h u hu => by
      have hk := List.mem_range.1 hk
      obtain ⟨h1, h2, h3⟩ := hsk k hk h
      rw [cdE k hk h] at hu
      cases he : mx N L i k with
      | none => rw [he] at hu; cases hu
      | some x =>
        cases hp : ob (pth N L f k j (S - 2 ^ k)) with
        | none => rw [he, hp] at hu; cases hu
        | some y =>
          obtain ⟨mid, m1, m2, m3, m4, m5⟩ := (rc k hk h).wit y hp
          have hl := fun a (ha : a < 4) => (inS_less (a := a) h1 hS (by omega) ha).1
          have hin : ∀ a, a ∈ mid → a < N ∧ inS S a = true ∧ a ≠ k := fun a ha => ⟨(m4 a ha).1, (hl a (by have := (m4 a ha).1; omega)).1 (m4 a ha).2⟩
          refine ⟨k :: mid, List.nodup_cons.2 ⟨m2, m1⟩, ?_, ?_, ?_, ?_⟩
          · intro hm
            rcases List.mem_cons.1 hm with rfl | hm
            · exact h2 rfl
            · have := (hin i hm).2.1; rw [hiS] at this; cases this
          · intro hm
            rcases List.mem_cons.1 hm with rfl | hm
            · exact h3 rfl
            · exact m3 hm
          · intro a ha
            rcases List.mem_cons.1 ha with rfl | ha
            · exact ⟨hk, h1⟩
            · exact ⟨(hin a ha).1, (hin a ha).2.1⟩
          · show oadd (mx N L i k) (way (mx N L) (k :: (mid ++ [j]))) = some u
            rw [m5, he]
            rw [he, hp] at hu
            exact hu
    have b0 : G (L[i * N + j]?.getD 0) := fun u hu => ⟨[], by simp, by simp, by simp, by simp, by rw [List.nil_append, way_two]; exact hu⟩
    obtain ⟨k1, k2, k3⟩ := fold_min (sk := skip i j S) (cd := cand N L i fun k => pth N L f k j (S - 2 ^ k)) (G := G) (List.range N) _ b0 cdG
    refine ⟨Glim _ k1, k1, fun mid m1 m2 m3 m4 hl => ?_⟩
    cases mid with
    | nil =>
      rw [List.nil_append, way_two]
      exact le_ole (by omega) (Glim _ k1) (Glim _ b0) k2
    | cons k mid =>
      have hkN := (m4 k (by simp)).1
      have hkS := (m4 k (by simp)).2
      have hki : k ≠ i := fun e => m2 (by simp [e])
      have hkj : k ≠ j := fun e => m3 (by simp [e])
      have hs : skip i j S k = false := by unfold skip; simp [hkS, hki, hkj]
      have h1 := k3 k (List.mem_range.2 hkN) hs
      have h2 := le_ole (m := 1152921504606846976) (by omega) (Glim _ k1) (Glim _ (cdG k (List.mem_range.2 hkN) hs)) h1
      rw [cdE k hkN hs] at h2
      refine ole_trans h2 ?_
      show ole _ (oadd (mx N L i k) (way (mx N L) (k :: (mid ++ [j]))))
      have hnd := List.nodup_cons.1 m1
      refine oadd_mono (ole_refl _) ((rc k hkN hs).low mid hnd.2 hnd.1 (fun h => m3 (by simp [h])) (fun a ha => ?_) (by simp at hl; omega))
      have ha4 := m4 a (by simp [ha])
      exact ⟨ha4.1, (inS_less hkS hS (by omega) (by omega)).1.2 ⟨ha4.2, fun e => hnd.1 (e ▸ ha)⟩⟩
end
end Dbm
end Go.Proofs.Ytodpgcdandechaa

/-
  The document's own closing is the closing of XPlainDbm.
-/
namespace Go.Proofs.Ytodpgcdandechaa
set_option linter.unusedVariables false
set_option linter.unusedSimpArgs false
namespace Dbm
def full (N i : Nat) : Nat := 2 ^ N - 1 - 2 ^ i
theorem full_ok {N i : Nat} (hN : N ≤ 4) (hi : i < N) : full N i < 16 ∧ inS (full N i) i = false ∧ pc (full N i) ≤ N ∧ ∀ a, a < N → a ≠ i → inS (full N i) a = true := by
  have key : ∀ N : Fin 5, ∀ i a : Fin 4, i.1 < N.1 → full N.1 i.1 < 16 ∧ inS (full N.1 i.1) i.1 = false ∧ pc (full N.1 i.1) ≤ N.1 ∧ (a.1 < N.1 → a.1 ≠ i.1 → inS (full N.1 i.1) a.1 = true) := by decide +kernel
  have k := fun a ha => key ⟨N, by omega⟩ ⟨i, by omega⟩ ⟨a, ha⟩ hi
  have k0 := k 0 (by omega)
  exact ⟨k0.1, k0.2.1, k0.2.2.1, fun a ha => (k a (by omega)).2.2.2 ha⟩
def closedR (N : Nat) (L : List Int) : Option (List Int) :=
  if (List.range N).all (fun i => decide (1 ≤ pth N L N i i (full N i))) = true then some ((List.range (N * N)).map fun p => if p / N = p % N then 1 else pth N L N (p / N) (p % N) (full N (p / N))) else none
/-- no clock behind itself. -/
def dis : List Nat → Prop
  | a :: b :: t => a ≠ b ∧ dis (b :: t)
  | _ => True
theorem dis_way {N : Nat} {L L1 : List Int} (h : ∀ i j, i < N → j < N → i ≠ j → L1[i * N + j]?.getD 0 = L[i * N + j]?.getD 0) : ∀ (p : List Nat), dis p → (∀ a, a ∈ p → a < N) → way (mx N L1) p = way (mx N L) p
  | [], _, _ => rfl
  | [_], _, _ => rfl
  | a :: b :: t, hd, hp => by
    have h1 : mx N L1 a b = mx N L a b := by unfold mx; rw [h a b (hp a (by simp)) (hp b (by simp)) hd.1]
    simp only [way, h1, dis_way h (b :: t) hd.2 (fun c hc => hp c (List.mem_cons_of_mem a hc))]
theorem dis_simple : ∀ (mid : List Nat) (i j : Nat), mid.Nodup → i ∉ mid → j ∉ mid → (i ≠ j ∨ mid ≠ []) → dis (i :: (mid ++ [j]))
  | [], i, j, _, _, _, h => ⟨h.resolve_right (fun h => h rfl), trivial⟩
  | k :: mid, i, j, hn, hi, hj, _ => by
    have hnd := List.nodup_cons.1 hn
    exact ⟨fun e => hi (by simp [e]), dis_simple mid k j hnd.2 hnd.1 (fun h => hj (by simp [h])) (.inl fun e => hj (by simp [e]))⟩
/-- there and back again is no less than 0, where no simple way round is. -/
theorem cyc_ok {N n : Nat} {E M : Mx} (inv : Inv N n E M) (hn : n < N) (H : ∀ i mid, i < N → mid.Nodup → i ∉ mid → (∀ a, a ∈ mid → a < N) → ole (some 1) (way E (i :: (mid ++ [i])))) :
    ∀ (m : Nat) (p q : List Nat) (i : Nat), p.length + q.length ≤ m → (i :: (p ++ [n])).Nodup → (n :: (q ++ [i])).Nodup → (∀ a, a ∈ p → a < n) → (∀ a, a ∈ q → a < n) → i < N → ole (some 1) (oadd (way E (i :: (p ++ [n]))) (way E (n :: (q ++ [i]))))
  | m, p, q, i, hm, hp, hq, hpn, hqn, hi => by
    have hp' := List.nodup_cons.1 hp
    have hq' := List.nodup_cons.1 hq
    have hpa := List.nodup_append.1 hp'.2
    have hqa := List.nodup_append.1 hq'.2
    have hip : i ∉ p := fun h => hp'.1 (List.mem_append.2 (.inl h))
    have hin : i ≠ n := fun h => hp'.1 (List.mem_append.2 (.inr (by simp [h])))
    have hnq : n ∉ q := fun h => hq'.1 (List.mem_append.2 (.inl h))
    have hnp : n ∉ p := fun h => hpa.2.2 n h n (by simp) rfl
    have hiq : i ∉ q := fun h => hqa.2.2 i h i (by simp) rfl
    by_cases hd : ∃ v, v ∈ p ∧ v ∈ q
    · obtain ⟨v, hv1, hv2⟩ := hd
      obtain ⟨p1, p2, rfl⟩ := List.append_of_mem hv1
      obtain ⟨q1, q2, rfl⟩ := List.append_of_mem hv2
      have hvn : v < n := hpn v hv1
      have e1 : way E (i :: ((p1 ++ v :: p2) ++ [n])) = oadd (way E (i :: (p1 ++ [v]))) (way E (v :: (p2 ++ [n]))) := by
        have := way_split E (i :: p1) v (p2 ++ [n])
        simpa using this
      have e2 : way E (n :: ((q1 ++ v :: q2) ++ [i])) = oadd (way E (n :: (q1 ++ [v]))) (way E (v :: (q2 ++ [i]))) := by
        have := way_split E (n :: q1) v (q2 ++ [i])
        simpa using this
      have e3 : way E (i :: ((p1 ++ v :: q2) ++ [i])) = oadd (way E (i :: (p1 ++ [v]))) (way E (v :: (q2 ++ [i]))) := by
        have := way_split E (i :: p1) v (q2 ++ [i])
        simpa using this
      have h1 : ole (some 1) (way E (i :: ((p1 ++ v :: q2) ++ [i]))) := by
        have := inv.le_way (by omega) (p1 ++ v :: q2) i i hi hi (fun a ha => by
          rcases List.mem_append.1 ha with h | h
          · exact hpn a (List.mem_append.2 (.inl h))
          · rcases List.mem_cons.1 h with rfl | h
            · exact hvn
            · exact hqn a (List.mem_append.2 (.inr (List.mem_cons_of_mem _ h))))
        rwa [inv.diag i hi] at this
      have hm' : p2.length + q1.length < p1.length + (p2.length + 1) + (q1.length + (q2.length + 1)) := by omega
      have h2 : ole (some 1) (oadd (way E (v :: (p2 ++ [n]))) (way E (n :: (q1 ++ [v])))) := by
        match m, hm with
        | 0, hm => simp at hm
        | m + 1, hm =>
          refine cyc_ok inv hn H m p2 q1 v (by simp at hm; omega) ?_ ?_ (fun a ha => hpn a (by simp [ha])) (fun a ha => hqn a (by simp [ha])) (by omega)
          · refine hp'.2.sublist ?_
            have : (p1 ++ v :: p2) ++ [n] = p1 ++ (v :: (p2 ++ [n])) := by simp
            rw [this]; exact List.sublist_append_right _ _
          · refine hq.sublist ?_
            have : (q1 ++ v :: q2) ++ [i] = (q1 ++ [v]) ++ (q2 ++ [i]) := by simp
            rw [this]; exact List.Sublist.cons_cons n (List.sublist_append_left _ _)
      rw [e1, e2]
      generalize way E (i :: (p1 ++ [v])) = A at *
      generalize way E (v :: (p2 ++ [n])) = B at *
      generalize way E (n :: (q1 ++ [v])) = C at *
      generalize way E (v :: (q2 ++ [i])) = D at *
      have e4 : oadd (oadd A B) (oadd C D) = oadd (oadd A D) (oadd B C) := by
        rw [oadd_assoc, oadd_comm C D, ← oadd_assoc B D C, oadd_comm B D, oadd_assoc D B C, ← oadd_assoc A D]
      rw [e4, ← e3]
      have := oadd_mono h1 h2
      rwa [oadd_one] at this
    · have h1 := H i (p ++ n :: q) hi (List.nodup_append.2 ⟨hpa.1, List.nodup_cons.2 ⟨hnq, hqa.1⟩, fun a ha b hb e => by
          subst e
          rcases List.mem_cons.1 hb with rfl | hb
          · exact hnp ha
          · exact hd ⟨a, ha, hb⟩⟩) (fun h => by
          rcases List.mem_append.1 h with h | h
          · exact hip h
          · rcases List.mem_cons.1 h with h | h
            · exact hin h
            · exact hiq h) (fun a ha => by
          rcases List.mem_append.1 ha with h | h
          · have := hpn a h; omega
          · rcases List.mem_cons.1 h with rfl | h
            · exact hn
            · have := hqn a h; omega)
      have e := way_split E (i :: p) n (q ++ [i])
      have e' : way E (i :: ((p ++ n :: q) ++ [i])) = oadd (way E (i :: (p ++ [n]))) (way E (n :: (q ++ [i]))) := by simpa using e
      rwa [e'] at h1
theorem there_back {N n : Nat} {E M : Mx} (inv : Inv N n E M) (hn : n < N) (H : ∀ i mid, i < N → mid.Nodup → i ∉ mid → (∀ a, a ∈ mid → a < N) → ole (some 1) (way E (i :: (mid ++ [i])))) (i : Nat) (hi : i < N) : ole (some 1) (oadd (M i n) (M n i)) := by
  by_cases hin : i = n
  · subst hin; rw [inv.diag i hi, oadd_one]; exact ole_refl _
  cases h1 : M i n with
  | none => trivial
  | some u =>
    cases h2 : M n i with
    | none => trivial
    | some v =>
      obtain ⟨p, p1, p2, p3⟩ := inv.wit i n hi hn hin u h1
      obtain ⟨q, q1, q2, q3⟩ := inv.wit n i hn hi (fun e => hin e.symm) v h2
      have := cyc_ok inv hn H (p.length + q.length) p q i (Nat.le_refl _) p1 q1 p2 q2 hi
      rwa [p3, q3] at this
end Dbm
end Go.Proofs.Ytodpgcdandechaa

/-
  The document's own closing is the closing of XPlainDbm: both ways.
-/
namespace Go.Proofs.Ytodpgcdandechaa
set_option linter.unusedVariables false
set_option linter.unusedSimpArgs false
namespace Dbm
section
variable {N : Nat} {L : List Int}
theorem pth_full (h0 : chk N L = 0) {i j : Nat} (hi : i < N) (hj : j < N) : POk N L i j (full N i) N (pth N L N i j (full N i)) := by
  obtain ⟨c1, c2, c3, c4⟩ := chk_iff.1 h0
  obtain ⟨f1, f2, _, _⟩ := full_ok (N := N) (i := i) (by omega) hi
  exact pth_ok h0 N i j (full N i) hi hj f1 f2
theorem low_full (h0 : chk N L = 0) {i j : Nat} (hi : i < N) (hj : j < N) {mid : List Nat} (hn : mid.Nodup) (him : i ∉ mid) (hjm : j ∉ mid) (hm : ∀ a, a ∈ mid → a < N) : ole (ob (pth N L N i j (full N i))) (way (mx N L) (i :: (mid ++ [j]))) := by
  obtain ⟨c1, c2, c3, c4⟩ := chk_iff.1 h0
  obtain ⟨_, _, _, f4⟩ := full_ok (N := N) (i := i) (by omega) hi
  exact (pth_full h0 hi hj).low mid hn him hjm (fun a ha => ⟨hm a ha, f4 a (hm a ha) (fun e => him (e ▸ ha))⟩) (nodup_len N mid hn hm)
theorem ole_one {v : Int} (h : 1 ≤ v) : ole (some 1) (ob v) := by
  unfold ob; split
  · trivial
  · exact h
theorem one_of_ole {v : Int} (h : ole (some 1) (ob v)) : 1 ≤ v := by
  unfold ob at h
  split at h
  · rename_i e; rw [e]; decide
  · exact h
theorem diag_some (hL : L.length = N * N) (hd : ∀ i, i < N → 1 ≤ L[i * N + i]?.getD 0) : ∀ n, n ≤ N → ∃ Ln, (List.range n).foldlM (diag1 N) L = some Ln := by
  intro n
  induction n with
  | zero => intro _; exact ⟨L, rfl⟩
  | succ n ih =>
    intro hn
    obtain ⟨Ln, hLn⟩ := ih (by omega)
    obtain ⟨a1, a2, a3⟩ := diag_spec hL n Ln (by omega) hLn
    refine ⟨Ln.set (n * N + n) 1, ?_⟩
    have h1 : Ln[n * N + n]?.getD 0 = L[n * N + n]?.getD 0 := by rw [a3 n n (by omega) (by omega), if_neg (by omega)]
    have h2 := hd n (by omega)
    rw [List.range_succ, List.foldlM_append, hLn]
    have h3 : diag1 N Ln n = some (Ln.set (n * N + n) 1) := by unfold diag1; rw [if_neg (by omega)]
    simp [h3]
theorem stage_some {L1 : List Int} (hN4 : N ≤ 4) (a1 : L1.length = N * N) (hd1 : ∀ i, i < N → mx N L1 i i = some 1) (hE : ∀ i j v, i < N → j < N → mx N L1 i j = some v → -288230376151711744 ≤ v / 2 ∧ v / 2 ≤ 288230376151711744)
    (H : ∀ i mid, i < N → mid.Nodup → i ∉ mid → (∀ a, a ∈ mid → a < N) → ole (some 1) (way (mx N L1) (i :: (mid ++ [i])))) : ∀ n, n ≤ N → ∃ Cn, (List.range n).foldlM (stage N) L1 = some Cn := by
  intro n
  induction n with
  | zero => intro _; exact ⟨L1, rfl⟩
  | succ n ih =>
    intro hn
    obtain ⟨Cn, hCn⟩ := ih (by omega)
    obtain ⟨b1, b2⟩ := fold_inv hN4 a1 hd1 hE n Cn (by omega) hCn
    have hq := inv_lim b2 (by omega) hN4 hE
    have hq' : ∀ q, q < N * N → lim 1152921504606846976 (Cn[q]?.getD 0) := fun q h => lim_mono (hq q h) (by omega)
    have hkk := (mx_some (b2.diag n (by omega))).1
    have hok : diagOk N (thrL N n Cn) = true := by
      unfold diagOk
      rw [List.all_eq_true]
      intro i hi
      have hi := List.mem_range.1 hi
      have ht := thrL_mx (k := n) (by omega) b1 hkk hq' hi hi
      have h1 : thr n (mx N Cn) i i = some 1 := by
        rcases thr_cases n (mx N Cn) i i with e | ⟨_, e⟩
        · rw [e]; exact b2.diag i hi
        · exfalso
          rw [b2.diag i hi] at e
          exact olt_irrefl e (there_back b2 (by omega) H i hi)
      rw [h1] at ht
      rw [(mx_some ht).1]; decide
    refine ⟨thrL N n Cn, ?_⟩
    rw [List.range_succ, List.foldlM_append, hCn]
    have h3 : stage N Cn n = some (thrL N n Cn) := by unfold stage; rw [if_pos hok]
    simp [h3]
theorem closedR_eq (h0 : chk N L = 0) : closedR N L = closeL N L := by
  obtain ⟨c1, c2, c3, c4⟩ := chk_iff.1 h0
  have hN4 : N ≤ 4 := by omega
  have hL : L.length = N * N := by exact_mod_cast c3
  cases hC : closeL N L with
  | some C =>
    obtain ⟨L1, a2, a3, inv, hl, hE⟩ := close_inv h0 hC
    have hoff : ∀ i j, i < N → j < N → i ≠ j → L1[i * N + j]?.getD 0 = L[i * N + j]?.getD 0 := fun i j hi hj h => by rw [a3 i j hi hj, if_neg h]
    have hw : ∀ i j mid, i < N → j < N → mid.Nodup → i ∉ mid → j ∉ mid → (∀ a, a ∈ mid → a < N) → (i ≠ j ∨ mid ≠ []) → way (mx N L1) (i :: (mid ++ [j])) = way (mx N L) (i :: (mid ++ [j])) := fun i j mid hi hj hn him hjm hm h =>
      dis_way hoff _ (dis_simple mid i j hn him hjm h) (fun a ha => by
        simp only [List.mem_cons, List.mem_append, List.not_mem_nil, or_false] at ha
        rcases ha with rfl | ha | rfl
        · exact hi
        · exact hm a ha
        · exact hj)
    have hne : ∀ i j, i < N → j < N → i ≠ j → mx N C i j = ob (pth N L N i j (full N i)) := fun i j hi hj hij => by
      have hp := pth_full h0 hi hj
      refine ole_antisymm ?_ ?_
      · cases hv : ob (pth N L N i j (full N i)) with
        | none => cases mx N C i j <;> trivial
        | some u =>
          obtain ⟨mid, m1, m2, m3, m4, m5⟩ := hp.wit u hv
          rw [← m5, ← hw i j mid hi hj m1 m2 m3 (fun a ha => (m4 a ha).1) (.inl hij)]
          exact inv.le_way (Nat.le_refl _) mid i j hi hj (fun a ha => (m4 a ha).1)
      · cases hv : mx N C i j with
        | none => cases ob (pth N L N i j (full N i)) <;> trivial
        | some u =>
          obtain ⟨mid, m1, m2, m3⟩ := inv.wit i j hi hj hij u hv
          have n1 := List.nodup_cons.1 m1
          have n2 := List.nodup_append.1 n1.2
          have him : i ∉ mid := fun h => n1.1 (List.mem_append.2 (.inl h))
          have hjm : j ∉ mid := fun h => n2.2.2 j h j (by simp) rfl
          rw [← m3, hw i j mid hi hj n2.1 him hjm m2 (.inl hij)]
          exact low_full h0 hi hj n2.1 him hjm m2
    have hdg : ∀ i, i < N → 1 ≤ pth N L N i i (full N i) := fun i hi => by
      have hp := pth_full h0 hi hi
      apply one_of_ole
      cases hv : ob (pth N L N i i (full N i)) with
      | none => trivial
      | some u =>
        obtain ⟨mid, m1, m2, m3, m4, m5⟩ := hp.wit u hv
        cases mid with
        | nil =>
          rw [List.nil_append, way_two] at m5
          have := a2 i hi
          rw [(mx_some m5).1] at this
          exact this
        | cons k mid =>
          rw [← m5, ← hw i i (k :: mid) hi hi m1 m2 m3 (fun a ha => (m4 a ha).1) (.inr (by simp))]
          have := inv.le_way (Nat.le_refl _) (k :: mid) i i hi hi (fun a ha => (m4 a ha).1)
          rwa [inv.diag i hi] at this
    unfold closedR
    rw [if_pos (by rw [List.all_eq_true]; intro i hi; simpa using hdg i (List.mem_range.1 hi))]
    congr 1
    apply List.ext_getElem
    · simp [hl]
    · intro q hq1 hq2
      have hq : q < N * N := by rw [← hl]; exact hq2
      have hdi := div_lt hq
      have hmo := mod_lt hq
      simp only [List.getElem_map, List.getElem_range]
      have hCq : C[q]?.getD 0 = C[q] := by rw [List.getElem?_eq_getElem hq2]; rfl
      by_cases e : q / N = q % N
      · rw [if_pos e]
        have := (mx_some (inv.diag (q / N) hdi)).1
        rw [show q / N * N + q / N = q by have := div_mod (N := N) (p := q); omega, hCq] at this
        exact this.symm
      · rw [if_neg e]
        have := hne (q / N) (q % N) hdi hmo e
        unfold mx at this
        rw [div_mod, hCq] at this
        exact (ob_inj this).symm
  | none =>
    unfold closedR
    rw [if_neg]
    intro hall
    rw [List.all_eq_true] at hall
    have hdg : ∀ i, i < N → 1 ≤ pth N L N i i (full N i) := fun i hi => by simpa using hall i (List.mem_range.2 hi)
    have H0 : ∀ i mid, i < N → mid.Nodup → i ∉ mid → (∀ a, a ∈ mid → a < N) → ole (some 1) (way (mx N L) (i :: (mid ++ [i]))) := fun i mid hi hn him hm =>
      ole_trans (ole_one (hdg i hi)) (low_full h0 hi hi hn him him hm)
    have hd : ∀ i, i < N → 1 ≤ L[i * N + i]?.getD 0 := fun i hi => by
      have := H0 i [] hi (by simp) (by simp) (by simp)
      rw [List.nil_append, way_two] at this
      exact one_of_ole this
    obtain ⟨L1, hL1⟩ := diag_some hL hd N (Nat.le_refl _)
    obtain ⟨a1, a2, a3⟩ := diag_spec hL N L1 (Nat.le_refl _) hL1
    have a3' : ∀ i j, i < N → j < N → L1[i * N + j]?.getD 0 = if i = j then 1 else L[i * N + j]?.getD 0 := fun i j hi hj => by
      rw [a3 i j hi hj]
      by_cases e : i = j
      · rw [if_pos ⟨e, hi⟩, if_pos e]
      · rw [if_neg (fun h => e h.1), if_neg e]
    have hd1 : ∀ i, i < N → mx N L1 i i = some 1 := fun i hi => by unfold mx; rw [a3' i i hi hi, if_pos rfl]; rfl
    have hE : ∀ i j v, i < N → j < N → mx N L1 i j = some v → -288230376151711744 ≤ v / 2 ∧ v / 2 ≤ 288230376151711744 := fun i j v hi hj hv => by
      obtain ⟨e1, e2⟩ := mx_some hv
      rw [a3' i j hi hj] at e1
      split at e1
      · subst e1; decide
      · have := chk_lim h0 (i * N + j) (by rw [hL]; exact place_lt hi hj)
        rw [e1] at this
        exact this.resolve_left e2
    have hoff : ∀ i j, i < N → j < N → i ≠ j → L1[i * N + j]?.getD 0 = L[i * N + j]?.getD 0 := fun i j hi hj h => by rw [a3' i j hi hj, if_neg h]
    have H1 : ∀ i mid, i < N → mid.Nodup → i ∉ mid → (∀ a, a ∈ mid → a < N) → ole (some 1) (way (mx N L1) (i :: (mid ++ [i]))) := fun i mid hi hn him hm => by
      cases mid with
      | nil => rw [List.nil_append, way_two, hd1 i hi]; exact ole_refl _
      | cons k mid =>
        rw [dis_way hoff _ (dis_simple (k :: mid) i i hn him him (.inr (by simp))) (fun a ha => by
          simp only [List.mem_cons, List.mem_append, List.not_mem_nil, or_false] at ha
          rcases ha with rfl | (rfl | ha) | rfl
          · exact hi
          · exact hm a (by simp)
          · exact hm a (by simp [ha])
          · exact hi)]
        exact H0 i (k :: mid) hi hn him hm
    obtain ⟨Cn, hCn⟩ := stage_some hN4 a1 hd1 hE H1 N (Nat.le_refl _)
    unfold closeL at hC
    rw [hL1, Option.bind_some, hCn] at hC
    cases hC
end
end Dbm
end Go.Proofs.Ytodpgcdandechaa

/-
  The contract of rallentandoref01.May at every number.
-/
namespace Go.Proofs.Ytodpgcdandechaa
set_option linter.unusedVariables false
open Go.RowKit

theorem may_any (a : Int) (w : World) :
    Calls Try.prog 52 #[.int .i64 a] w fun e w' => e = .returned (.bool (Num.okB a)) ∧ w = w' := by
  by_cases h1 : -2305843009213693952 ≤ a
  · by_cases h2 : a ≤ 2305843009213693952
    · have hr := Lib.hid (Num.okB_iff.2 ⟨h1, h2⟩)
      go_enter Try.func52, Try.ntmps52
      go_wp2
      go_ret
      exact ⟨by rw [hr.out]; rfl, rfl⟩
    · have hr := Lib.hid (Num.okB_no.2 (.inr (Int.not_le.1 h2)))
      go_enter Try.func52, Try.ntmps52
      go_wp2
      go_ret
      exact ⟨by rw [hr.out]; rfl, rfl⟩
  · have hr := Lib.hid (Num.okB_no.2 (.inl (Int.not_le.1 h1)))
    go_enter Try.func52, Try.ntmps52
    go_wp2
    go_ret
    exact ⟨by rw [hr.out]; rfl, rfl⟩

end Go.Proofs.Ytodpgcdandechaa

/-
  The contracts of the reference of chapter 2 (rallentandoref02), at every bound that is an int64, and every number.
-/
namespace Go.Proofs.Ytodpgcdandechaa
set_option linter.unusedVariables false
open Go.RowKit

theorem tmod2_even {b : Int} (h : b % 2 = 0) : b.tmod 2 = 0 := Int.tmod_eq_zero_of_dvd (Int.dvd_of_emod_eq_zero h)
theorem tmod2_odd {b : Int} (h : ¬ b % 2 = 0) : (b.tmod 2 == 0) = false := by
  simp only [beq_eq_false_iff_ne, ne_eq]
  intro e
  exact h (Int.emod_eq_zero_of_dvd (Int.dvd_of_tmod_eq_zero e))
theorem tdiv2_even {b : Int} (h : b % 2 = 0) : b.tdiv 2 = b / 2 := by
  obtain ⟨k, rfl⟩ := Int.dvd_of_emod_eq_zero h
  rw [Int.mul_tdiv_cancel_left _ (by decide), Int.mul_ediv_cancel_left _ (by decide)]

theorem rnumber_any (b : Int) (hlo : -9223372036854775808 ≤ b) (hhi : b ≤ 9223372036854775807) (w : World) :
    Calls Try.prog 33 #[.int .i64 b] w fun e w' => e = .returned (.int .i64 (b / 2)) ∧ w = w' := by
  by_cases h : b % 2 = 0
  · have h1 := tmod2_even h
    have h2 := Lib.hid (tdiv2_even h)
    clear h
    go_enter Try.func33, Try.ntmps33
    go_wp2
    go_ret
    exact ⟨ret_int h2.out, rfl⟩
  · have h1 := tmod2_odd h
    have h3 : (b.tmod 2 != 0) = true := by simp only [bne, h1]; rfl
    have h2 := Lib.hid (show (b - 1).tdiv 2 = b / 2 by rw [tdiv2_even (by omega)]; omega)
    have h4 : -9223372036854775808 ≤ b - 1 := by omega
    clear h
    go_enter Try.func33, Try.ntmps33
    go_wp2
    go_ret
    exact ⟨ret_int h2.out, rfl⟩

theorem rstrict_any (b : Int) (w : World) :
    Calls Try.prog 54 #[.int .i64 b] w fun e w' => e = .returned (.bool (Bd.st b)) ∧ w = w' := by
  by_cases h : b % 2 = 0
  · have h1 := tmod2_even h
    have hr := Lib.hid (show Bd.st b = true by simp [Bd.st, h])
    clear h
    go_enter Try.func54, Try.ntmps54
    go_wp2
    go_ret
    exact ⟨by rw [hr.out]; rfl, rfl⟩
  · have h1 := tmod2_odd h
    have hr := Lib.hid (show Bd.st b = false by simp [Bd.st, h])
    clear h
    go_enter Try.func54, Try.ntmps54
    go_wp2
    go_ret
    exact ⟨by rw [hr.out]; rfl, rfl⟩

theorem rmade_any (c : Int) (s : Bool) (h1 : -4611686018427387904 ≤ c) (h2 : c ≤ 4611686018427387903) (w : World) :
    Calls Try.prog 53 #[.int .i64 c, .bool s] w fun e w' => e = .returned (.int .i64 (Bd.mk c s)) ∧ w = w' := by
  cases s
  all_goals
    go_enter Try.func53, Try.ntmps53
    go_wp2
    go_ret
    exact ⟨ret_int (by simp [Bd.mk]; omega), rfl⟩

/-- Sum: the sum, and whether it may be, of two bounds that may be. -/
def Bd.sum (a b : Int) : Int × Bool :=
  if a = 9223372036854775807 ∨ b = 9223372036854775807 then (9223372036854775807, true) else if Num.okB (a / 2 + b / 2) then (Bd.mk (a / 2 + b / 2) (Bd.st a || Bd.st b), true) else (0, false)

theorem rbsum_any (a b : Int) (ha : Bd.may a = true) (hb : Bd.may b = true) (alo : -9223372036854775808 ≤ a) (ahi : a ≤ 9223372036854775807) (blo : -9223372036854775808 ≤ b) (bhi : b ≤ 9223372036854775807) (w : World) :
    Calls Try.prog 44 #[.int .i64 a, .int .i64 b] w fun e w' => e = .returned (.tuple #[.int .i64 (Bd.sum a b).1, .bool (Bd.sum a b).2]) ∧ w = w' := by
  by_cases na : a = 9223372036854775807
  · have hr := Lib.hid (show Bd.sum a b = (9223372036854775807, true) by simp [Bd.sum, na])
    subst na
    clear ha hb
    go_enter Try.func44, Try.ntmps44
    go_wp2
    go_ret2
    exact ⟨ibtup hr.out rfl rfl, rfl⟩
  · have na1 : (a == 9223372036854775807) = false := by simpa using na
    by_cases nb : b = 9223372036854775807
    · have hr := Lib.hid (show Bd.sum a b = (9223372036854775807, true) by simp [Bd.sum, nb])
      subst nb
      clear ha hb na
      go_enter Try.func44, Try.ntmps44
      go_wp2
      go_ret2
      exact ⟨ibtup hr.out rfl rfl, rfl⟩
    · have nb1 : (b == 9223372036854775807) = false := by simpa using nb
      obtain ⟨a1, a2⟩ := Num.okB_iff.1 (Bd.okB_of_may ha na)
      obtain ⟨b1, b2⟩ := Num.okB_iff.1 (Bd.okB_of_may hb nb)
      cases hs : Num.okB (a / 2 + b / 2) with
      | false =>
        have hr := Lib.hid (show Bd.sum a b = (0, false) by simp [Bd.sum, na, nb, hs])
        clear ha hb na nb
        go_enter Try.func44, Try.ntmps44
        go_wp2_with (first
          | (go_at_call 33; refine (rnumber_any _ (by assumption) (by assumption) _).mono ?_; rintro e w' ⟨rfl, rfl⟩)
          | (go_at_call 52; refine (may_any _ _).mono ?_; rintro e w' ⟨rfl, rfl⟩))
        go_ret2
        exact ⟨ibtup hr.out rfl rfl, rfl⟩
      | true =>
        have hr := Lib.hid (show Bd.sum a b = (Bd.mk (a / 2 + b / 2) (Bd.st a || Bd.st b), true) by simp [Bd.sum, na, nb, hs])
        obtain ⟨s1, s2⟩ := Num.okB_iff.1 hs
        clear ha hb na nb
        cases hst : Bd.st a
        all_goals
          go_enter Try.func44, Try.ntmps44
          go_wp2_with (first
            | (go_at_call 33; refine (rnumber_any _ (by assumption) (by assumption) _).mono ?_; rintro e w' ⟨rfl, rfl⟩)
            | (go_at_call 54; refine (rstrict_any _ _).mono ?_; rintro e w' ⟨rfl, rfl⟩)
            | (go_at_call 53; refine (rmade_any _ _ (by omega) (by omega) _).mono ?_; rintro e w' ⟨rfl, rfl⟩)
            | (go_at_call 52; refine (may_any _ _).mono ?_; rintro e w' ⟨rfl, rfl⟩))
          go_ret2
          exact ⟨ibtup hr.out rfl (by rw [hst]; rfl), rfl⟩

theorem Bd.add_sum {a b : Int} (ha : Bd.may a = true) (hb : Bd.may b = true) : Bd.add a b = if (Bd.sum a b).2 then ((Bd.sum a b).1, 0) else (0, 10) := by
  by_cases h : a = 9223372036854775807 ∨ b = 9223372036854775807
  · simp [Bd.add, Bd.sum, ha, hb, h]
  · cases hs : Num.okB (a / 2 + b / 2) <;> simp [Bd.add, Bd.sum, ha, hb, h, Bd.made, hs]

end Go.Proofs.Ytodpgcdandechaa

/-
  Rows of the run's own, an element set; slices of slices; lists of zones.
-/
namespace Go.Proofs.Ytodpgcdandechaa
set_option linter.unusedVariables false
open Go.RowKit Go.Proofs.Ytodpgcdandechaa.Eng Enc

/-- a slice, as an element of a slice. -/
structure Svl where
  a : Option Addr
  len : Nat
  cap : Nat
instance encSvl : Enc Svl := ⟨fun x => [.slice x.a x.len x.cap], 1, fun _ => rfl, by decide, fun _ v hv => by rw [List.mem_singleton.1 hv]; rfl, fun x => .slice x.a x.len x.cap⟩

section
variable {α : Type} [Enc α]
theorem cellsL_set (l : List α) (k : Nat) (x : α) (hk : k < l.length) : cellsL (l.set k x) = (cellsL l).take (k * size α) ++ enc x ++ (cellsL l).drop (k * size α + size α) := by
  induction l generalizing k with
  | nil => simp at hk
  | cons y l ih =>
    cases k with
    | zero =>
      simp only [List.set_cons_zero, cellsL, Nat.zero_mul, List.take_zero, List.nil_append, Nat.zero_add]
      rw [List.drop_append_of_le_length (by rw [Enc.len]; exact Nat.le_refl _), List.drop_of_length_le (by rw [Enc.len]; exact Nat.le_refl _), List.nil_append]
    | succ k =>
      have hk' : k < l.length := by simpa using hk
      simp only [List.set_cons_succ, cellsL, ih k hk']
      have e1 : (k + 1) * size α = size α + k * size α := by rw [Nat.succ_mul]; omega
      rw [e1, List.take_append, List.drop_append, Enc.len, List.take_of_length_le (l := enc y) (by rw [Enc.len]; omega), List.drop_of_length_le (l := enc y) (by rw [Enc.len]; omega)]
      rw [show size α + k * size α - size α = k * size α by omega, show size α + k * size α + size α - size α = k * size α + size α by omega, List.nil_append]
      simp only [List.append_assoc]
theorem Own.set {e : TypeId} {base : Nat} {W : World} {g n cap : Nat} {l : List α} (h : Own e base W (.slice (some ⟨g, 0, none⟩) n cap) l) {cur : Array Value} (hc : W.heap[g]? = some (.cells cur e (0, 0))) (k : Nat) (hk : k < l.length) (x : α) :
    Own e base (W.setRow g (cur.toList.take (k * size α) ++ enc x ++ cur.toList.drop (k * size α + (enc x).length)).toArray) (.slice (some ⟨g, 0, none⟩) n cap) (l.set k x) := by
  obtain ⟨rfl, hb, hlt, cur', hg, hn, hm, hs, ht⟩ := h.at0
  rw [hg] at hc
  injection hc with hc; injection hc with hc _; subst hc
  have hkk : (k + 1) * size α ≤ l.length * size α := Nat.mul_le_mul_right _ hk
  rw [Nat.succ_mul] at hkk
  have hcl : l.length * size α ≤ cap * size α := Nat.mul_le_mul_right _ hn
  refine ⟨by rw [cellsL_len, List.length_set], .inr ⟨g, cap, _, by rw [List.length_set], hb, setRow_heap W g cur' _ e _ hg, by rw [List.length_set]; exact hn, hm, ?_, ?_⟩⟩
  · simp only [List.size_toArray, List.length_append, List.length_take, List.length_drop, Array.length_toList, Enc.len]; omega
  · rw [List.length_set, cellsL_set l k x hk, ← ht]
    have hl : cur'.toList.length = cap * size α := by rw [Array.length_toList, hs]
    apply List.ext_getElem?
    intro j
    simp only [List.getElem?_append, List.getElem?_take, List.getElem?_drop, List.length_append, List.length_take, Enc.len, hl]
    rw [show min (k * size α) (cap * size α) = k * size α by omega, show min (k * size α) (min (l.length * size α) (cap * size α)) = k * size α by omega]
    by_cases h1 : j < k * size α
    · have h1' : j < k * size α + size α := by omega
      have h1'' : j < l.length * size α := by omega
      simp only [h1, h1', h1'', if_true]
    · by_cases h2 : j < k * size α + size α
      · have h2' : j < l.length * size α := by omega
        simp only [h1, h2, h2', if_true, if_false]
      · by_cases h3 : j < l.length * size α
        · have h3' : k * size α + size α + (j - (k * size α + size α)) < l.length * size α := by omega
          simp only [h1, h2, h3, h3', if_true, if_false]
        · have h3' : ¬ k * size α + size α + (j - (k * size α + size α)) < l.length * size α := by omega
          simp only [h1, h2, h3, h3', if_false]
end
end Go.Proofs.Ytodpgcdandechaa

/-
  The document's answer of layer 4, by the engine: May, path, Closed.
-/
namespace Go.Proofs.Ytodpgcdandechaa
set_option linter.unusedVariables false
set_option linter.unusedSimpArgs false
set_option maxRecDepth 100000
open Go.RowKit Go.Proofs.Ytodpgcdandechaa.Eng Enc

namespace Dbm
def int64 (b : Int) : Prop := -9223372036854775808 ≤ b ∧ b ≤ 9223372036854775807
end Dbm
theorem atB {w0 : Base} {hp : List LB} {r L : List Nat} {w w1 : World} (h : At w0 hp r L w w1) (hL : ∀ b, b ∈ L → w.heap.size ≤ b) : Below w.heap.size w w1 :=
  ⟨h.below.os.trans h.base.os.symm, h.below.tape.trans h.base.tape.symm, h.below.output.trans h.base.output.symm, h.size, fun k hk => h.step k hk fun hm => by have := hL k hm; omega⟩
theorem rmay04_any (n : Int) (L : List Int) (hn : Dbm.int64 n) (hL : ∀ b, b ∈ L → Dbm.int64 b) (a : Option Addr) (cap : Nat) (w : World) (hS : Sl w.heap.size w (.slice a L.length cap) L) :
    Calls Try.prog 17 #[.agg #[.int .i64 n, .slice a L.length cap]] w fun e w' => e = .returned (.bool (decide (Dbm.chk n L = 0))) ∧ Below w.heap.size w w' := by
  refine fun_eq 0 w Try.func17 (args := [.agg [.val (.int .i64 n), .val (.slice a L.length cap)]]) rfl rfl ?_
  obtain ⟨_, _, hfe, hcap1, hcap2, _⟩ := hS.form
  injection hfe with _ _ hfe
  subst hfe
  unfold maxLen at hcap2
  refine NewI.mk fun b1 hb1 => ?_
  have no : ¬ (1 ≤ n ∧ n ≤ 4 ∧ (L.length : Int) = n * n ∧ L.any (fun b => !(Dbm.mayC b)) = false) → decide (Dbm.chk n L = 0) = false := fun h => decide_eq_false (fun e => h (Dbm.chk_iff.1 e))
  refine Branch.mk (fun z1 => ?_) (fun z1 => ?_)
  · have h1 : n < 1 := of_decide_eq_true z1
    rw [no (by omega)]
    exact EndI.mk fun w9 h9 => rfl
  have h1 : ¬ n < 1 := of_decide_eq_false z1
  refine Branch.mk (fun z2 => ?_) (fun z2 => ?_)
  · have h2 : 4 < n := of_decide_eq_true z2
    rw [no (by omega)]
    exact EndI.mk fun w9 h9 => rfl
  have h2 : ¬ 4 < n := of_decide_eq_false z2
  have hnn : 0 ≤ n * n ∧ n * n ≤ 16 := by
    have : n = 1 ∨ n = 2 ∨ n = 3 ∨ n = 4 := by omega
    rcases this with rfl | rfl | rfl | rfl <;> decide
  refine Need.mk (by simp only [inK]; omega) ?_
  refine Branch.mk (fun z3 => ?_) (fun z3 => ?_)
  · have h3 : (L.length : Int) ≠ n * n := of_decide_eq_true z3
    rw [no (fun h => h3 h.2.2.1)]
    exact EndI.mk fun w9 h9 => rfl
  have h3 : (L.length : Int) = n * n := by have := of_decide_eq_false z3; omega
  refine LoopI.invC (α := Nat × World) (fun y => [(3, .val (.int .i64 y.1))]) (fun y => y.2) (fun y => y.1 ≤ L.length ∧ Below w.heap.size w y.2 ∧ ∀ b, b ∈ L.take y.1 → Dbm.mayC b = true) (fun y => L.length - y.1) ?_ ?_
  · intro w1 h1
    exact ⟨(0, w1), Cov.mk (by repeat' (first | exact trivial | refine And.intro rfl ?_)) rfl rfl rfl rfl rfl, rfl, Nat.zero_le _, h1.below, by simp⟩
  rintro ⟨k, V⟩ ⟨hk, hV, hall⟩
  simp only at hk hV hall
  refine Branch.mk (fun z4 => ?_) (fun z4 => ?_)
  · have hlt : k < L.length := by have := of_decide_eq_true z4; simp only at this; omega
    have hx := List.getElem?_eq_getElem (l := L) (i := k) hlt
    generalize L[k] = x at hx
    have hxi := hL x (List.mem_of_getElem? hx)
    have hSV := hS.go hV hV.size
    refine hSV.idx hx fun ad had => ?_
    refine hSV.ld1 hx had (Below.refl _ _) (by simp) ?_
    have bad : Dbm.mayC x = false → decide (Dbm.chk n L = 0) = false := fun h => no (fun h4 => by
      have := List.any_eq_false.1 h4.2.2.2 x (List.mem_of_getElem? hx)
      simp [h] at this)
    have good : Dbm.mayC x = true → ∀ b, b ∈ L.take (k + 1) → Dbm.mayC b = true := fun h b hb => by
      rw [List.take_add_one, hx] at hb
      rcases List.mem_append.1 hb with hb | hb
      · exact hall b hb
      · rw [List.mem_singleton.1 hb]; exact h
    refine Branch.mk (fun z5 => ?_) (fun z5 => ?_)
    · have hne : x ≠ 9223372036854775807 := of_decide_eq_true z5
      have hmC : Dbm.mayC x = (decide (-288230376151711744 ≤ x / 2) && decide (x / 2 ≤ 288230376151711744)) := by unfold Dbm.mayC; simp [hne]
      refine CallI.to0 (fun w => rnumber_any x hxi.1 hxi.2 w) fun w2 => ?_
      refine Branch.mk (fun z6 => ?_) (fun z6 => ?_)
      · have h6 : x / 2 < -288230376151711744 := of_decide_eq_true z6
        rw [bad (by rw [hmC]; simp; omega)]
        exact EndI.mk fun w9 h9 => rfl
      have h6 : ¬ x / 2 < -288230376151711744 := of_decide_eq_false z6
      refine CallI.to0 (fun w => rnumber_any x hxi.1 hxi.2 w) fun w3 => ?_
      refine Branch.mk (fun z7 => ?_) (fun z7 => ?_)
      · have h7 : 288230376151711744 < x / 2 := of_decide_eq_true z7
        rw [bad (by rw [hmC]; simp; omega)]
        exact EndI.mk fun w9 h9 => rfl
      have h7 : ¬ 288230376151711744 < x / 2 := of_decide_eq_false z7
      refine Need.mk (by simp only [inK]; omega) (EndI.mk fun w9 h9 => ⟨(k + 1, w9), Cov.mk (by repeat' (first | exact trivial | refine And.intro rfl ?_)) rfl rfl rfl rfl rfl, rfl, ⟨hlt, h9.below, good (by rw [hmC]; simp; omega)⟩, by simp only; omega⟩)
    · have heq : x = 9223372036854775807 := by have := of_decide_eq_false z5; simpa using this
      refine Need.mk (by simp only [inK]; omega) (EndI.mk fun w9 h9 => ⟨(k + 1, w9), Cov.mk (by repeat' (first | exact trivial | refine And.intro rfl ?_)) rfl rfl rfl rfl rfl, rfl, ⟨hlt, h9.below, good (by rw [heq]; decide)⟩, by simp only; omega⟩)
  · have hge : k = L.length := by have := of_decide_eq_false z4; simp only at this; omega
    subst hge
    rw [List.take_length] at hall
    have hc : Dbm.chk n L = 0 := Dbm.chk_iff.2 ⟨by omega, by omega, h3, by rw [List.any_eq_false]; intro b hb; simp [hall b hb]⟩
    refine EndI.mk fun w9 h9 => ?_
    rw [decide_eq_true hc]
section
variable {N : Nat} {L : List Int}
theorem lim_int64 {v : Int} (h : Dbm.lim 1152921504606846976 v) : Dbm.int64 v ∧ Bd.may v = true := by
  rcases h with h | h
  · rw [h]; exact ⟨by unfold Dbm.NO Dbm.int64; omega, by decide⟩
  · exact ⟨by unfold Dbm.int64; omega, Bd.may_of (Num.okB_iff.2 (by omega))⟩
/-- Sum is the program's sum where bounds are far enough below what may be. -/
theorem sum_add {u v : Int} (hu : Dbm.lim 1152921504606846976 u) (hv : Dbm.lim 1152921504606846976 v) : Bd.sum u v = ((Bd.add u v).1, true) := by
  have h := Bd.add_sum (lim_int64 hu).2 (lim_int64 hv).2
  have h2 : (Bd.sum u v).2 = true := by
    unfold Bd.sum
    split
    · rfl
    · rename_i hn
      have hu' := hu.resolve_left (fun e => hn (.inl e))
      have hv' := hv.resolve_left (fun e => hn (.inr e))
      rw [if_pos (Num.okB_iff.2 (by omega))]
  rw [h, if_pos h2]
  exact Prod.ext rfl h2
theorem pathStep_any (h0 : Dbm.chk N L = 0) (a : Option Addr) (cap : Nat) (i j S : Nat) (hi : i < N) (hj : j < N) (hS16 : S < 16) (p : Nat → Int) (hp : ∀ k, k < N → Dbm.skip i j S k = false → Dbm.lim 1152921504606846976 (p k)) (w : World) (hS : Sl w.heap.size w (.slice a L.length cap) L)
    (hcall : ∀ k, k < N → Dbm.skip i j S k = false → ∀ w1, Sl w1.heap.size w1 (.slice a L.length cap) L → Calls Try.prog 34 #[.agg #[.int .i64 N, .slice a L.length cap], .int .i64 k, .int .i64 j, .int .i64 (S - 2 ^ k : Nat)] w1 fun e w' => e = .returned (.int .i64 (p k)) ∧ Below w1.heap.size w1 w') :
    Calls Try.prog 34 #[.agg #[.int .i64 N, .slice a L.length cap], .int .i64 i, .int .i64 j, .int .i64 S] w fun e w' => e = .returned (.int .i64 ((List.range N).foldl (Dbm.pstep (Dbm.skip i j S) (Dbm.cand N L i p)) (L[i * N + j]?.getD 0))) ∧ Below w.heap.size w w' := by
  obtain ⟨c1, c2, c3, c4⟩ := Dbm.chk_iff.1 h0
  have hN4 : N ≤ 4 := by omega
  have hLN : L.length = N * N := by exact_mod_cast c3
  have hNN : N * N ≤ 16 := Nat.mul_le_mul hN4 hN4
  refine fun_eq 0 w Try.func34 (args := [.agg [.val (.int .i64 N), .val (.slice a L.length cap)], .val (.int .i64 i), .val (.int .i64 j), .val (.int .i64 S)]) rfl rfl ?_
  have hpl := fun k (hk : k < N) => Dbm.place_lt (N := N) (i := i) (j := k) hi hk
  have hget := fun k (hk : k < N) => show L[i * N + k]? = some (L[i * N + k]?.getD 0) by rw [List.getElem?_eq_getElem (by rw [hLN]; exact hpl k hk)]; rfl
  have hiN : ((i : Int) * (N : Int)) = ((i * N : Nat) : Int) := (Int.natCast_mul i N).symm
  have hiN16 : i * N < 16 := by have := hpl j hj; omega
  refine NewI.mk fun b1 hb1 => ?_
  refine Need.mk (by rw [hiN]; simp only [inK]; omega) ?_
  have hpj := hpl j hj
  refine Need.mk (by rw [hiN]; simp only [inK]; omega) ?_
  refine hS.idx (k := i * N + j) (hget j hj) fun ad had => ?_
  refine hS.ld1 (k := i * N + j) (hget j hj) had (Below.refl _ _) (by simp) ?_
  refine LoopI.invC (α := (Nat × Int) × World) (fun y => [(10, .val (.int .i64 y.1.1)), (9, .val (.int .i64 y.1.2))]) (fun y => y.2) (fun y => y.1.1 ≤ N ∧ Below w.heap.size w y.2 ∧ y.1.2 = (List.range y.1.1).foldl (Dbm.pstep (Dbm.skip i j S) (Dbm.cand N L i p)) (L[i * N + j]?.getD 0)) (fun y => N - y.1.1) ?_ ?_
  · intro w1 h1
    exact ⟨((0, L[i * N + j]?.getD 0), w1), Cov.mk (by repeat' (first | exact trivial | refine And.intro rfl ?_)) rfl rfl rfl rfl rfl, rfl, Nat.zero_le _, h1.below, rfl⟩
  rintro ⟨⟨k, best⟩, V⟩ ⟨hk, hV, hbest⟩
  simp only at hk hV hbest
  refine Branch.mk (fun z1 => ?_) (fun z1 => ?_)
  · have hlt : k < N := by have := of_decide_eq_true z1; simp only at this; omega
    have hnext : (List.range (k + 1)).foldl (Dbm.pstep (Dbm.skip i j S) (Dbm.cand N L i p)) (L[i * N + j]?.getD 0) = Dbm.pstep (Dbm.skip i j S) (Dbm.cand N L i p) best k := by
      rw [List.range_succ, List.foldl_append, ← hbest]; rfl
    have hbit : bits .and .i64 ((S : Int) / 2 ^ ((k : Int).toNat)) 1 = ((S / 2 ^ k % 2 : Nat) : Int) := by
      rw [i64_and1, Int.toNat_natCast]; norm_cast
    have hsame : Dbm.skip i j S k = true → (List.range (k + 1)).foldl (Dbm.pstep (Dbm.skip i j S) (Dbm.cand N L i p)) (L[i * N + j]?.getD 0) = best := fun h => by rw [hnext]; unfold Dbm.pstep; rw [if_pos h]
    refine Need.mk (by simp only [Int.toNat_natCast, IntKind.bits]; omega) ?_
    conv => whnf
    rw [hbit]
    refine Branch.mk (fun z2 => ?_) (fun z2 => ?_)
    · have h2 : Dbm.inS S k = false := by have := of_decide_eq_true z2; unfold Dbm.inS; simp; omega
      refine Need.mk (by simp only [inK]; omega) (EndI.mk fun w9 h9 => ⟨((k + 1, best), w9), Cov.mk (by repeat' (first | exact trivial | refine And.intro rfl ?_)) rfl rfl rfl rfl rfl, rfl, ⟨hlt, h9.below, (hsame (by simp [Dbm.skip, h2])).symm⟩, by simp only; omega⟩)
    have h2 : Dbm.inS S k = true := by have := of_decide_eq_false z2; unfold Dbm.inS; simp; omega
    refine Branch.mk (fun z3 => ?_) (fun z3 => ?_)
    · have h3 : k = i := by have := of_decide_eq_true z3; simp only at this; omega
      refine Need.mk (by simp only [inK]; omega) (EndI.mk fun w9 h9 => ⟨((k + 1, best), w9), Cov.mk (by repeat' (first | exact trivial | refine And.intro rfl ?_)) rfl rfl rfl rfl rfl, rfl, ⟨hlt, h9.below, (hsame (by simp [Dbm.skip, h3])).symm⟩, by simp only; omega⟩)
    have h3 : k ≠ i := by have := of_decide_eq_false z3; simp only at this; omega
    refine Branch.mk (fun z4 => ?_) (fun z4 => ?_)
    · have h4 : k = j := by have := of_decide_eq_true z4; simp only at this; omega
      refine Need.mk (by simp only [inK]; omega) (EndI.mk fun w9 h9 => ⟨((k + 1, best), w9), Cov.mk (by repeat' (first | exact trivial | refine And.intro rfl ?_)) rfl rfl rfl rfl rfl, rfl, ⟨hlt, h9.below, (hsame (by simp [Dbm.skip, h4])).symm⟩, by simp only; omega⟩)
    have h4 : k ≠ j := by have := of_decide_eq_false z4; simp only at this; omega
    have hsk : Dbm.skip i j S k = false := by simp [Dbm.skip, h2, h3, h4]
    have hSk : 2 ^ k ≤ S ∧ 2 ^ k ≤ 8 := by
      have key : ∀ S : Fin 16, ∀ k : Fin 4, Dbm.inS S.1 k.1 = true → 2 ^ k.1 ≤ S.1 ∧ 2 ^ k.1 ≤ 8 := by decide +kernel
      exact key ⟨S, hS16⟩ ⟨k, by omega⟩ h2
    have hpow : (2 : Int) ^ ((k : Int).toNat) = ((2 ^ k : Nat) : Int) := by rw [Int.toNat_natCast]; norm_cast
    have hc := hcall k hlt hsk
    generalize hP : 2 ^ k = P at hSk hpow hc
    have hsub : (S : Int) - 1 * (P : Int) = ((S - P : Nat) : Int) := by omega
    refine DrawI.go (.tk 0 (.tk 1 (.tk 2 (.tk 3 (.tk 4 (.tk 5 (.tk 6 (.tk 7 (.tk 8 (.tk 9 (.tk 10 (.tk 11 (.tk 12 (.tk 13 (.tk 14 (.tk 15 (.tk 16 (.ev 17 (.ev 18 (.tk 19 (.tk 20 (.tk 21 (.tk 22 (.tk 23 .done)))))))))))))))))))))))) (by kernel_rfl) fun w2 h2' => ?_
    have hpk := hpl k hlt
    have hw2 : Below w.heap.size w w2 := hV.trans (h2'.go.mono hV.size)
    have hS2 := hS.go hw2 hw2.size
    refine Need.mk (by rw [hiN]; simp only [inK]; omega) ?_
    refine Need.mk (by rw [hiN]; simp only [inK]; omega) ?_
    refine hS2.idx (k := i * N + k) (hget k hlt) fun ad2 had2 => ?_
    refine hS2.ld1 (k := i * N + k) (hget k hlt) had2 (Below.refl _ _) (by simp) ?_
    refine Need.mk (by rw [hpow]; simp only [Int.toNat_natCast, IntKind.bits, inK]; omega) ?_
    conv => whnf
    rw [hpow]
    refine Need.mk (by rw [hsub]; simp only [inK]; omega) ?_
    conv => whnf
    rw [hsub]
    apply CallI.use1
    focus (exact fun w3 h3 => hc w3 (hS.go h3.below h3.below.size))
    intro w3 v3 h3' hB3
    have hlu : Dbm.lim 1152921504606846976 (L[i * N + k]?.getD 0) := Dbm.lim_mono (Dbm.chk_lim h0 (i * N + k) (by rw [hLN]; exact hpk)) (by omega)
    have hlp := hp k hlt hsk
    have hsum := fun w => rbsum_any (L[i * N + k]?.getD 0) (p k) (lim_int64 hlu).2 (lim_int64 hlp).2 (lim_int64 hlu).1.1 (lim_int64 hlu).1.2 (lim_int64 hlp).1.1 (lim_int64 hlp).1.2 w
    rw [sum_add hlu hlp] at hsum
    refine CallI.to0 (fun w => hsum w) fun w4 => ?_
    refine Branch.yes rfl ?_
    refine Branch.mk (fun z5 => ?_) (fun z5 => ?_)
    · have h5 : Dbm.cand N L i p k < best := of_decide_eq_true z5
      refine Need.mk (by simp only [inK]; omega) (EndI.mk fun w9 h9 => ⟨((k + 1, Dbm.cand N L i p k), w9), Cov.mk (by repeat' (first | exact trivial | refine And.intro rfl ?_)) rfl rfl rfl rfl rfl, rfl, ⟨hlt, h9.below, ?_⟩, by simp only; omega⟩)
      simp only
      rw [hnext]; unfold Dbm.pstep; rw [if_neg (by simp [hsk]), if_pos h5]
    · have h5 : ¬ Dbm.cand N L i p k < best := of_decide_eq_false z5
      refine Need.mk (by simp only [inK]; omega) (EndI.mk fun w9 h9 => ⟨((k + 1, best), w9), Cov.mk (by repeat' (first | exact trivial | refine And.intro rfl ?_)) rfl rfl rfl rfl rfl, rfl, ⟨hlt, h9.below, ?_⟩, by simp only; omega⟩)
      simp only
      rw [hnext]; unfold Dbm.pstep; rw [if_neg (by simp [hsk]), if_neg h5]
  · have hge : k = N := by have := of_decide_eq_false z1; simp only at this; omega
    subst hge
    refine EndI.mk fun w9 h9 => ?_
    rw [hbest]
theorem path_any (h0 : Dbm.chk N L = 0) (a : Option Addr) (cap : Nat) : ∀ (f i j S : Nat), i < N → j < N → S < 16 → Dbm.inS S i = false → Dbm.pc S ≤ f → ∀ w, Sl w.heap.size w (.slice a L.length cap) L →
    Calls Try.prog 34 #[.agg #[.int .i64 N, .slice a L.length cap], .int .i64 i, .int .i64 j, .int .i64 S] w fun e w' => e = .returned (.int .i64 (Dbm.pth N L f i j S)) ∧ Below w.heap.size w w'
  | 0, i, j, S, hi, hj, hS, hiS, hf, w, hSl => by
    obtain ⟨c1, c2, c3, c4⟩ := Dbm.chk_iff.1 h0
    have hsk : ∀ k, k < N → Dbm.skip i j S k = true := fun k hk => by
      have := Dbm.inS_zero hS (by omega) (show k < 4 by omega)
      simp [Dbm.skip, this]
    have hno : ∀ k, k < N → Dbm.skip i j S k = false → False := fun k hk h => by rw [hsk k hk] at h; cases h
    have hfold : ∀ n, n ≤ N → (List.range n).foldl (Dbm.pstep (Dbm.skip i j S) (Dbm.cand N L i fun _ => 0)) (L[i * N + j]?.getD 0) = L[i * N + j]?.getD 0 := by
      intro n
      induction n with
      | zero => intro _; rfl
      | succ n ih =>
        intro hn
        rw [List.range_succ, List.foldl_append, ih (by omega)]
        show Dbm.pstep _ _ _ n = _
        unfold Dbm.pstep; rw [if_pos (hsk n (by omega))]
    have h := pathStep_any h0 a cap i j S hi hj hS (fun _ => 0) (fun k hk h => (hno k hk h).elim) w hSl (fun k hk h => (hno k hk h).elim)
    rw [hfold N (Nat.le_refl _)] at h
    exact h
  | f + 1, i, j, S, hi, hj, hS, hiS, hf, w, hSl => by
    obtain ⟨c1, c2, c3, c4⟩ := Dbm.chk_iff.1 h0
    have hin : ∀ k, k < N → Dbm.skip i j S k = false → Dbm.inS S k = true ∧ Dbm.inS (S - 2 ^ k) k = false ∧ Dbm.pc (S - 2 ^ k) ≤ f := fun k hk h => by
      have h1 : Dbm.inS S k = true := by unfold Dbm.skip at h; simp at h; exact h.1.1
      have h2 := Dbm.inS_less (a := k) h1 hS (by omega) (by omega)
      refine ⟨h1, ?_, by omega⟩
      cases hh : Dbm.inS (S - 2 ^ k) k with
      | false => rfl
      | true => exact absurd rfl ((h2.1.1 hh).2)
    exact pathStep_any h0 a cap i j S hi hj hS (fun k => Dbm.pth N L f k j (S - 2 ^ k)) (fun k hk h => (Dbm.pth_ok h0 f k j (S - 2 ^ k) hk hj (Nat.lt_of_le_of_lt (Nat.sub_le _ _) hS) (hin k hk h).2.1).lim) w hSl
      (fun k hk h w1 hS1 => path_any h0 a cap f k j (S - 2 ^ k) hk hj (Nat.lt_of_le_of_lt (Nat.sub_le _ _) hS) (hin k hk h).2.1 (hin k hk h).2.2 w1 hS1)
end
end Go.Proofs.Ytodpgcdandechaa

/-
  The document's answer of layer 4, by the engine: Closed.
-/
namespace Go.Proofs.Ytodpgcdandechaa
set_option linter.unusedVariables false
set_option linter.unusedSimpArgs false
set_option maxRecDepth 100000
open Go.RowKit Go.Proofs.Ytodpgcdandechaa.Eng Enc

namespace Dbm
def ent (N : Nat) (L : List Int) (q : Nat) : Int := if q / N = q % N then 1 else pth N L N (q / N) (q % N) (full N (q / N))
def ents (N : Nat) (L : List Int) (p : Nat) : List Int := (List.range p).map (ent N L)
theorem ents_len (N : Nat) (L : List Int) (p : Nat) : (ents N L p).length = p := by simp [ents]
theorem ents_succ (N : Nat) (L : List Int) (p : Nat) : ents N L (p + 1) = ents N L p ++ [ent N L p] := by simp [ents, List.range_succ]
/-- what the document's closing answers: clocks, bounds, whether there is one. -/
def rc (N : Nat) (L : List Int) : Int × List Int × Bool := match closeL N L with | some C => (N, C, true) | none => (0, [], false)
theorem rc_no {N : Nat} {L : List Int} (h0 : chk N L = 0) {i : Nat} (hi : i < N) (h : pth N L N i i (full N i) < 1) : rc N L = (0, [], false) := by
  have : closedR N L = none := by
    unfold closedR
    rw [if_neg]
    intro hall
    have := (List.all_eq_true.1 hall) i (List.mem_range.2 hi)
    simp at this; omega
  unfold rc; rw [← closedR_eq h0, this]
theorem rc_yes {N : Nat} {L : List Int} (h0 : chk N L = 0) (h : ∀ i, i < N → 1 ≤ pth N L N i i (full N i)) : rc N L = ((N : Int), ents N L (N * N), true) := by
  have : closedR N L = some (ents N L (N * N)) := by
    unfold closedR
    rw [if_pos (by rw [List.all_eq_true]; intro i hi; simpa using h i (List.mem_range.1 hi))]
    rfl
  unfold rc; rw [← closedR_eq h0, this]
theorem full_bits {N i : Nat} (hN : N ≤ 4) (hi : i < N) : bits .andNot .i64 (1 * 2 ^ ((N : Int).toNat) - 1) (1 * 2 ^ ((i : Int).toNat)) = ((full N i : Nat) : Int) ∧ full N i ≤ 15 := by
  have key : ∀ N : Fin 5, ∀ i : Fin 4, i.1 < N.1 → bits .andNot .i64 (1 * 2 ^ (((N.1 : Nat) : Int).toNat) - 1) (1 * 2 ^ (((i.1 : Nat) : Int).toNat)) = ((full N.1 i.1 : Nat) : Int) ∧ full N.1 i.1 ≤ 15 := by decide +kernel
  exact key ⟨N, by omega⟩ ⟨i, by omega⟩ hi
theorem shl_one {N : Nat} (hN : N ≤ 4) : (1 : Int) * 2 ^ ((N : Int).toNat) ≤ 16 ∧ 1 ≤ (1 : Int) * 2 ^ ((N : Int).toNat) := by
  have key : ∀ N : Fin 5, (1 : Int) * 2 ^ (((N.1 : Nat) : Int).toNat) ≤ 16 ∧ 1 ≤ (1 : Int) * 2 ^ (((N.1 : Nat) : Int).toNat) := by decide +kernel
  exact key ⟨N, by omega⟩
end Dbm
section
variable {N : Nat} {L : List Int}
theorem rclosed_any (h0 : Dbm.chk N L = 0) (a : Option Addr) (cap : Nat) (w : World) (hS : Sl w.heap.size w (.slice a L.length cap) L) :
    Calls Try.prog 18 #[.agg #[.int .i64 N, .slice a L.length cap]] w (Ret w fun v w' => ∃ a' c', v = .tuple #[.agg #[.int .i64 (Dbm.rc N L).1, .slice a' (Dbm.rc N L).2.1.length c'], .bool (Dbm.rc N L).2.2] ∧ Own 37 w.heap.size w' (.slice a' (Dbm.rc N L).2.1.length c') (Dbm.rc N L).2.1) := by
  obtain ⟨c1, c2, c3, c4⟩ := Dbm.chk_iff.1 h0
  have hN4 : N ≤ 4 := by omega
  have hLN : L.length = N * N := by exact_mod_cast c3
  have hNN : N * N ≤ 16 := Nat.mul_le_mul hN4 hN4
  refine fun_ret 0 w Try.func18 (args := [.agg [.val (.int .i64 N), .val (.slice a L.length cap)]]) rfl rfl ?_
  refine NewI.mk fun b1 hb1 => ?_
  refine NewI.mk fun b2 hb2 => ?_
  refine NewI.mk fun b3 hb3 => ?_
  obtain ⟨X, hX1, hX2, hX3, hXw, hXm⟩ : ∃ X, b1 < X ∧ b2 < X ∧ b3 < X ∧ w.heap.size ≤ X ∧ ∀ n, b1 < n → b2 < n → b3 < n → w.heap.size ≤ n → X ≤ n := ⟨max (max (max b1 b2) b3 + 1) w.heap.size, by omega, by omega, by omega, by omega, fun n h1 h2 h3 h4 => by omega⟩
  refine LoopI.inv (α := Nat × World × Value) (fun y => [(5, .val (.int .i64 y.1))]) (fun y => [⟨[.val (.int .i64 N), .val (.slice a L.length cap)], 24⟩, ⟨[.val (.int .i64 0), .val (.slice none 0 0)], 24⟩, ⟨[.val (.int .i64 N), .val y.2.2], 24⟩]) (fun y => y.2.1)
    (fun y => y.1 ≤ N ∧ Below w.heap.size w y.2.1 ∧ X ≤ y.2.1.heap.size ∧ Own 37 X y.2.1 y.2.2 (Dbm.ents N L (y.1 * N)) ∧ ∀ i, i < y.1 → 1 ≤ Dbm.pth N L N i i (Dbm.full N i)) (fun y => N - y.1) ?_ ?_
  · intro w1 h1
    exact ⟨(0, w1, .slice none 0 0), Cov.mk (by repeat' (first | exact trivial | refine And.intro rfl ?_)) rfl rfl rfl rfl rfl, rfl, Nat.zero_le _, h1.below, hXm _ (h1.lt b1 (by simp)) (h1.lt b2 (by simp)) (h1.lt b3 (by simp)) h1.below.size, by simp only [Nat.zero_mul]; exact Own.nil, fun i hi => by simp at hi⟩
  rintro ⟨i, V, sv⟩ ⟨hi, hV, hXV, hO, hd⟩
  simp only at hi hV hXV hO hd
  refine Branch.mk (fun z1 => ?_) (fun z1 => ?_)
  · have hiN : i < N := by have := of_decide_eq_true z1; simp only at this; omega
    refine LoopI.inv (α := Nat × World × Value) (fun y => [(6, .val (.int .i64 y.1))]) (fun y => [⟨[.val (.int .i64 N), .val (.slice a L.length cap)], 24⟩, ⟨[.val (.int .i64 0), .val (.slice none 0 0)], 24⟩, ⟨[.val (.int .i64 N), .val y.2.2], 24⟩]) (fun y => y.2.1)
      (fun y => y.1 ≤ N ∧ Below w.heap.size w y.2.1 ∧ X ≤ y.2.1.heap.size ∧ Own 37 X y.2.1 y.2.2 (Dbm.ents N L (i * N + y.1)) ∧ (i < y.1 → 1 ≤ Dbm.pth N L N i i (Dbm.full N i))) (fun y => N - y.1) ?_ ?_
    · intro w1 h1
      exact ⟨(0, w1, sv), Cov.mk (by repeat' (first | exact trivial | refine And.intro rfl ?_)) rfl rfl rfl rfl rfl, rfl, Nat.zero_le _, h1.below, Nat.le_trans hXV h1.size, hO.at h1 (by simp), fun h => by simp at h⟩
    rintro ⟨j, U, tv⟩ ⟨hj, hU, hXU, hO2, hd2⟩
    simp only at hj hU hXU hO2 hd2
    refine Branch.mk (fun z2 => ?_) (fun z2 => ?_)
    · have hjN : j < N := by have := of_decide_eq_true z2; simp only at this; omega
      obtain ⟨fb, fb15⟩ := Dbm.full_bits hN4 hiN
      obtain ⟨f1, f2, f3, _⟩ := Dbm.full_ok (N := N) (i := i) hN4 hiN
      have sN := Dbm.shl_one hN4
      have si := Dbm.shl_one (N := i) (by omega)
      refine DrawI.go (.tk 0 (.tk 1 (.tk 2 (.tk 3 (.tk 4 (.tk 5 (.tk 6 (.tk 7 .done)))))))) (by kernel_rfl) fun w2 h2 => ?_
      refine Need.mk ⟨by omega, by simp only [Int.toNat_natCast, IntKind.bits]; omega, by simp only [inK]; omega⟩ ?_
      refine Need.mk (by simp only [inK]; omega) ?_
      refine Need.mk ⟨by simp only; omega, by simp only [Int.toNat_natCast, IntKind.bits]; omega, by simp only [inK]; omega⟩ ?_
      conv => whnf
      rw [fb]
      apply CallI.use1
      focus (exact fun w3 h3 => path_any h0 a cap N i j (Dbm.full N i) hiN hjN f1 f2 f3 w3 (hS.go h3.below h3.below.size))
      intro w3 v3 h3 hB3
      have hv3 : Below w.heap.size w v3 := h3.below.trans (hB3.mono h3.below.size)
      have hO3 := (hO2.below ((atB h2 (by simp)))).below (atB h3 (by simp)) |>.below hB3
      have hXv3 : X ≤ v3.heap.size := Nat.le_trans hXU (Nat.le_trans h2.size (Nat.le_trans h3.size hB3.size))
      have hq1 : (i * N + j) / N = i := Dbm.place_div hjN
      have hq2 : (i * N + j) % N = j := Dbm.place_mod hjN
      have hpl : i * N + j < N * N := Dbm.place_lt hiN hjN
      have hb1 : b1 < v3.heap.size := by omega
      refine Branch.mk (fun z3 => ?_) (fun z3 => ?_)
      · have hij : i = j := by have := of_decide_eq_true z3; simp only at this; omega
        refine Branch.mk (fun z4 => ?_) (fun z4 => ?_)
        · have hlt1 := of_decide_eq_true z4
          rw [Dbm.rc_no h0 hiN (by rw [← hij] at hlt1; exact hlt1)]
          exact EndI.mk fun w9 h9 => ⟨_, _, rfl, Own.nil⟩
        have hge1 : 1 ≤ Dbm.pth N L N i i (Dbm.full N i) := by have := of_decide_eq_false z4; rw [← hij] at this; omega
        have hent : Dbm.ent N L (i * N + j) = 1 := by unfold Dbm.ent; rw [hq1, hq2, if_pos hij]
        have hes : Dbm.ents N L (i * N + (j + 1)) = Dbm.ents N L (i * N + j) ++ [1] := by rw [← Nat.add_assoc, Dbm.ents_succ, hent]
        refine NewI.mk fun b5 hb5 => ?_
        have hb5' : v3.heap.size ≤ b5 := hb5
        have hr : ∀ g, tv.ownBlock = some g → w.heap.size ≤ g ∧ g ∉ [b1, b2, b3, b5] := fun g hg => by
          have := hO3.lt g hg
          refine ⟨Nat.le_trans hXw this.1, fun hm => ?_⟩
          simp only [List.mem_cons, List.not_mem_nil, or_false] at hm
          omega
        refine GenN.app (α := Int) elB (Dbm.ents N L (i * N + j)) [(1 : Int)] X (fun w5 h5 => hO3.below h5.go) (fun w5 h5 => src_own h5 3 rfl rfl rfl rfl) (by rw [Dbm.ents_len]; unfold maxLen; simp; omega) (by rw [Dbm.ents_len]; simp; omega) (fun w5 h5 => Nat.le_trans hXv3 h5.size)
          (fun w5 w6 h5 hg => keep_grown h5 hg hr) fun sv' w5 w6 h5 hg hO' => ?_
        obtain ⟨a', c', rfl⟩ := hO'.form
        rw [← hes] at hO' ⊢
        have hX6 : X ≤ w6.heap.size := Nat.le_trans hXv3 (Nat.le_trans h5.size hg.size)
        refine Need.mk (by simp only [inK]; omega) (EndI.mk fun w7 h7 => ⟨(j + 1, w7, .slice a' (Dbm.ents N L (i * N + (j + 1))).length c'), Cov.mk (by repeat' (first | exact trivial | refine And.intro rfl ?_)) rfl rfl rfl rfl rfl, rfl, ⟨hjN, h7.below, Nat.le_trans hX6 h7.size, ?_, fun h => hge1⟩, by simp only; omega⟩)
        exact hO'.at h7 (by intro b hb; simp at hb; subst hb; exact hX3)
      · have hij : i ≠ j := by have := of_decide_eq_false z3; simp only at this; omega
        have hent : Dbm.ent N L (i * N + j) = Dbm.pth N L N i j (Dbm.full N i) := by unfold Dbm.ent; rw [hq1, hq2, if_neg hij]
        have hes : Dbm.ents N L (i * N + (j + 1)) = Dbm.ents N L (i * N + j) ++ [Dbm.pth N L N i j (Dbm.full N i)] := by rw [← Nat.add_assoc, Dbm.ents_succ, hent]
        refine NewI.mk fun b5 hb5 => ?_
        have hb5' : v3.heap.size ≤ b5 := hb5
        have hr : ∀ g, tv.ownBlock = some g → w.heap.size ≤ g ∧ g ∉ [b1, b2, b3, b5] := fun g hg => by
          have := hO3.lt g hg
          refine ⟨Nat.le_trans hXw this.1, fun hm => ?_⟩
          simp only [List.mem_cons, List.not_mem_nil, or_false] at hm
          omega
        refine GenN.app (α := Int) elB (Dbm.ents N L (i * N + j)) [Dbm.pth N L N i j (Dbm.full N i)] X (fun w5 h5 => hO3.below h5.go) (fun w5 h5 => src_own h5 3 rfl rfl rfl rfl) (by rw [Dbm.ents_len]; unfold maxLen; simp; omega) (by rw [Dbm.ents_len]; simp; omega) (fun w5 h5 => Nat.le_trans hXv3 h5.size)
          (fun w5 w6 h5 hg => keep_grown h5 hg hr) fun sv' w5 w6 h5 hg hO' => ?_
        obtain ⟨a', c', rfl⟩ := hO'.form
        rw [← hes] at hO' ⊢
        have hX6 : X ≤ w6.heap.size := Nat.le_trans hXv3 (Nat.le_trans h5.size hg.size)
        refine Need.mk (by simp only [inK]; omega) (EndI.mk fun w7 h7 => ⟨(j + 1, w7, .slice a' (Dbm.ents N L (i * N + (j + 1))).length c'), Cov.mk (by repeat' (first | exact trivial | refine And.intro rfl ?_)) rfl rfl rfl rfl rfl, rfl, ⟨hjN, h7.below, Nat.le_trans hX6 h7.size, ?_, fun h => hd2 (by simp only at h; omega)⟩, by simp only; omega⟩)
        exact hO'.at h7 (by intro b hb; simp at hb; subst hb; exact hX3)
    · have hge : j = N := by have := of_decide_eq_false z2; simp only at this; omega
      subst hge
      have hnx : i * j + j = (i + 1) * j := by rw [Nat.add_mul, Nat.one_mul]
      refine Need.mk (by simp only [inK]; omega) (EndI.mk fun w9 h9 => ⟨(i + 1, w9, tv), Cov.mk (by repeat' (first | exact trivial | refine And.intro rfl ?_)) rfl rfl rfl rfl rfl, rfl, ⟨hiN, h9.below, Nat.le_trans hXU h9.size, ?_, fun k hk => ?_⟩, by simp only; omega⟩)
      · simp only; rw [← hnx]; exact hO2.at h9 (by simp)
      · by_cases hki : k = i
        · subst hki; exact hd2 hiN
        · exact hd k (by simp only at hk; omega)
  · have hge : i = N := by have := of_decide_eq_false z1; simp only at this; omega
    subst hge
    rw [Dbm.rc_yes h0 hd]
    obtain ⟨a', c', rfl⟩ := hO.form
    refine EndI.mk fun w9 h9 => ⟨a', c', rfl, ?_⟩
    exact (hO.at h9 (by intro b hb; simp at hb; subst hb; exact hX2)).lower hXw
end
end Go.Proofs.Ytodpgcdandechaa

/-
  The document's answer of layer 7: a matrix without a clock, with one more, by the engine.
-/
namespace Go.Proofs.Ytodpgcdandechaa
set_option linter.unusedVariables false
set_option linter.unusedSimpArgs false
set_option maxRecDepth 100000
open Go.RowKit Go.Proofs.Ytodpgcdandechaa.Eng Enc

theorem Dbm.topL_len (n : Nat) : (Dbm.topL n).length = n * n := by simp [Dbm.topL]
theorem take_succ_get {α : Type} {l : List α} {m : Nat} {x : α} (h : l[m]? = some x) : l.take (m + 1) = l.take m ++ [x] := by
  rw [List.take_add_one, h]; rfl
theorem rall04_any (N : Nat) (hN : 1 ≤ N ∧ N ≤ 4) (w : World) :
    Calls Try.prog 35 #[.int .i64 N] w (Ret w fun v w' => ∃ a' c', v = .agg #[.int .i64 N, .slice a' (Dbm.topL N).length c'] ∧ Own TB w.heap.size w' (.slice a' (Dbm.topL N).length c') (Dbm.topL N)) := by
  have hNN : N * N ≤ 16 := Nat.mul_le_mul hN.2 hN.2
  refine fun_ret 0 w Try.func35 (args := [.val (.int .i64 N)]) rfl rfl ?_
  refine NewI.mk fun b1 hb1 => ?_
  refine NewI.mk fun b2 hb2 => ?_
  obtain ⟨X, hX1, hX2, hXw, hXm⟩ : ∃ X, b1 < X ∧ b2 < X ∧ w.heap.size ≤ X ∧ ∀ n, b1 < n → b2 < n → w.heap.size ≤ n → X ≤ n := ⟨max (max b1 b2 + 1) w.heap.size, by omega, by omega, by omega, fun n h1 h2 h4 => by omega⟩
  refine LoopI.inv (α := Nat × World × Value) (fun y => [(4, .val (.int .i64 y.1))]) (fun y => [⟨[.val (.int .i64 0), .val (.slice none 0 0)], 24⟩, ⟨[.val (.int .i64 N), .val y.2.2], 24⟩]) (fun y => y.2.1)
    (fun y => y.1 ≤ N ∧ Below w.heap.size w y.2.1 ∧ X ≤ y.2.1.heap.size ∧ Own TB X y.2.1 y.2.2 ((Dbm.topL N).take (y.1 * N))) (fun y => N - y.1) ?_ ?_
  · intro w1 h1
    exact ⟨(0, w1, .slice none 0 0), Cov.mk (by repeat' (first | exact trivial | refine And.intro rfl ?_)) rfl rfl rfl rfl rfl, rfl, Nat.zero_le _, h1.below, hXm _ (h1.lt b1 (by simp)) (h1.lt b2 (by simp)) h1.below.size, by simp only [Nat.zero_mul, List.take_zero]; exact Own.nil⟩
  rintro ⟨i, V, sv⟩ ⟨hi, hV, hXV, hO⟩
  simp only at hi hV hXV hO
  refine Branch.mk (fun z1 => ?_) (fun z1 => ?_)
  · have hiN : i < N := by have := of_decide_eq_true z1; simp only at this; omega
    refine LoopI.inv (α := Nat × World × Value) (fun y => [(5, .val (.int .i64 y.1))]) (fun y => [⟨[.val (.int .i64 0), .val (.slice none 0 0)], 24⟩, ⟨[.val (.int .i64 N), .val y.2.2], 24⟩]) (fun y => y.2.1)
      (fun y => y.1 ≤ N ∧ Below w.heap.size w y.2.1 ∧ X ≤ y.2.1.heap.size ∧ Own TB X y.2.1 y.2.2 ((Dbm.topL N).take (i * N + y.1))) (fun y => N - y.1) ?_ ?_
    · intro w1 h1
      exact ⟨(0, w1, sv), Cov.mk (by repeat' (first | exact trivial | refine And.intro rfl ?_)) rfl rfl rfl rfl rfl, rfl, Nat.zero_le _, h1.below, Nat.le_trans hXV h1.size, hO.at h1 (by simp)⟩
    rintro ⟨j, U, tv⟩ ⟨hj, hU, hXU, hO2⟩
    simp only at hj hU hXU hO2
    refine Branch.mk (fun z2 => ?_) (fun z2 => ?_)
    · have hjN : j < N := by have := of_decide_eq_true z2; simp only at this; omega
      have hpl : i * N + j < N * N := Dbm.place_lt hiN hjN
      have hq1 : (i * N + j) / N = i := Dbm.place_div hjN
      have hq2 : (i * N + j) % N = j := Dbm.place_mod hjN
      have hget : (Dbm.topL N)[i * N + j]? = some (if i = j then 1 else 9223372036854775807) := by
        unfold Dbm.topL
        rw [List.getElem?_map, List.getElem?_range hpl]
        simp only [Option.map_some, Dbm.topB, hq1, hq2]
      have hlt : ((Dbm.topL N).take (i * N + j)).length = i * N + j := by rw [List.length_take, Dbm.topL_len]; omega
      have hr : ∀ (b : Nat), U.heap.size ≤ b → ∀ g, tv.ownBlock = some g → w.heap.size ≤ g ∧ g ∉ [b1, b2, b] := fun b hb g hg => by
        have := hO2.lt g hg
        refine ⟨Nat.le_trans hXw this.1, fun hm => ?_⟩
        simp only [List.mem_cons, List.not_mem_nil, or_false] at hm
        omega
      refine Branch.mk (fun z3 => ?_) (fun z3 => ?_)
      · have hij : i = j := by have := of_decide_eq_true z3; simp only at this; omega
        rw [if_pos hij] at hget
        refine NewI.mk fun b5 hb5 => ?_
        refine GenN.app (α := Int) elB ((Dbm.topL N).take (i * N + j)) [(1 : Int)] X (fun w5 h5 => hO2.below h5.go) (fun w5 h5 => src_own h5 2 rfl rfl rfl rfl) (by rw [hlt]; unfold maxLen; simp; omega) (by rw [hlt]; simp; omega) (fun w5 h5 => Nat.le_trans hXU h5.size)
          (fun w5 w6 h5 hg => keep_grown h5 hg (hr b5 hb5)) fun sv' w5 w6 h5 hg hO' => ?_
        rw [← take_succ_get hget] at hO'
        obtain ⟨a', c', rfl⟩ := hO'.form
        have hX6 : X ≤ w6.heap.size := Nat.le_trans hXU (Nat.le_trans h5.size hg.size)
        refine Need.mk (by simp only [inK]; omega) (EndI.mk fun w7 h7 => ⟨(j + 1, w7, .slice a' _ c'), Cov.mk (by repeat' (first | exact trivial | refine And.intro rfl ?_)) rfl rfl rfl rfl rfl, rfl, ⟨hjN, h7.below, Nat.le_trans hX6 h7.size, ?_⟩, by simp only; omega⟩)
        exact hO'.at h7 (by intro b hb; simp at hb; subst hb; exact hX2)
      · have hij : ¬ i = j := by have := of_decide_eq_false z3; simp only at this; omega
        rw [if_neg hij] at hget
        refine NewI.mk fun b5 hb5 => ?_
        refine GenN.app (α := Int) elB ((Dbm.topL N).take (i * N + j)) [(9223372036854775807 : Int)] X (fun w5 h5 => hO2.below h5.go) (fun w5 h5 => src_own h5 2 rfl rfl rfl rfl) (by rw [hlt]; unfold maxLen; simp; omega) (by rw [hlt]; simp; omega) (fun w5 h5 => Nat.le_trans hXU h5.size)
          (fun w5 w6 h5 hg => keep_grown h5 hg (hr b5 hb5)) fun sv' w5 w6 h5 hg hO' => ?_
        rw [← take_succ_get hget] at hO'
        obtain ⟨a', c', rfl⟩ := hO'.form
        have hX6 : X ≤ w6.heap.size := Nat.le_trans hXU (Nat.le_trans h5.size hg.size)
        refine Need.mk (by simp only [inK]; omega) (EndI.mk fun w7 h7 => ⟨(j + 1, w7, .slice a' _ c'), Cov.mk (by repeat' (first | exact trivial | refine And.intro rfl ?_)) rfl rfl rfl rfl rfl, rfl, ⟨hjN, h7.below, Nat.le_trans hX6 h7.size, ?_⟩, by simp only; omega⟩)
        exact hO'.at h7 (by intro b hb; simp at hb; subst hb; exact hX2)
    · have hge : j = N := by have := of_decide_eq_false z2; simp only at this; omega
      subst hge
      have hnx : i * j + j = (i + 1) * j := by rw [Nat.add_mul, Nat.one_mul]
      refine Need.mk (by simp only [inK]; omega) (EndI.mk fun w9 h9 => ⟨(i + 1, w9, tv), Cov.mk (by repeat' (first | exact trivial | refine And.intro rfl ?_)) rfl rfl rfl rfl rfl, rfl, ⟨hiN, h9.below, Nat.le_trans hXU h9.size, ?_⟩, by simp only; omega⟩)
      simp only; rw [← hnx]; exact hO2.at h9 (by simp)
  · have hge : i = N := by have := of_decide_eq_false z1; simp only at this; omega
    subst hge
    rw [List.take_of_length_le (by rw [Dbm.topL_len]; exact Nat.le_refl _)] at hO
    obtain ⟨a', c', rfl⟩ := hO.form
    exact EndI.mk fun w9 h9 => ⟨_, _, rfl, (hO.at h9 (by intro b hb; simp at hb; subst hb; exact hX1)).lower hXw⟩
theorem rwithout07_any (N k : Nat) (hN : 1 ≤ N ∧ N ≤ 4) (hk : 1 ≤ k ∧ k < N) (a : Option Addr) (cap : Nat) (L : List Int) (hL : L.length = N * N) (w : World) (hS : Sl w.heap.size w (.slice a L.length cap) L) :
    Calls Try.prog 19 #[.agg #[.int .i64 N, .slice a L.length cap], .int .i64 k] w (Ret w fun v w' => ∃ a' c', v = .agg #[.int .i64 ((N : Int) - 1), .slice a' (Proj.dropL N k L).length c'] ∧ Own TB w.heap.size w' (.slice a' (Proj.dropL N k L).length c') (Proj.dropL N k L)) := by
  have hNN : N * N ≤ 16 := Nat.mul_le_mul hN.2 hN.2
  refine fun_ret 0 w Try.func19 (args := [.agg [.val (.int .i64 N), .val (.slice a L.length cap)], .val (.int .i64 k)]) rfl rfl ?_
  refine NewI.mk fun b1 hb1 => ?_
  refine NewI.mk fun b2 hb2 => ?_
  refine Need.mk (by simp only [inK]; omega) ?_
  refine NewI.mk fun b3 hb3 => ?_
  obtain ⟨X, hX1, hX2, hX3, hXw, hXm⟩ : ∃ X, b1 < X ∧ b2 < X ∧ b3 < X ∧ w.heap.size ≤ X ∧ ∀ n, b1 < n → b2 < n → b3 < n → w.heap.size ≤ n → X ≤ n := ⟨max (max (max b1 b2) b3 + 1) w.heap.size, by omega, by omega, by omega, by omega, fun n h1 h2 h3 h4 => by omega⟩
  refine LoopI.inv (α := Nat × World × Value) (fun y => [(6, .val (.int .i64 y.1))]) (fun y => [⟨[.val (.int .i64 N), .val (.slice a L.length cap)], 24⟩, ⟨[.val (.int .i64 0), .val (.slice none 0 0)], 24⟩, ⟨[.val (.int .i64 ((N : Int) - 1)), .val y.2.2], 24⟩]) (fun y => y.2.1)
    (fun y => y.1 ≤ N ∧ Below w.heap.size w y.2.1 ∧ X ≤ y.2.1.heap.size ∧ Own TB X y.2.1 y.2.2 (Proj.wl N k L (y.1 * N))) (fun y => N - y.1) ?_ ?_
  · intro w1 h1
    exact ⟨(0, w1, .slice none 0 0), Cov.mk (by repeat' (first | exact trivial | refine And.intro rfl ?_)) rfl rfl rfl rfl rfl, rfl, Nat.zero_le _, h1.below, hXm _ (h1.lt b1 (by simp)) (h1.lt b2 (by simp)) (h1.lt b3 (by simp)) h1.below.size, by simp only [Nat.zero_mul]; exact Own.nil⟩
  rintro ⟨i, V, sv⟩ ⟨hi, hV, hXV, hO⟩
  simp only at hi hV hXV hO
  refine Branch.mk (fun z1 => ?_) (fun z1 => ?_)
  · have hiN : i < N := by have := of_decide_eq_true z1; simp only at this; omega
    refine LoopI.inv (α := Nat × World × Value) (fun y => [(7, .val (.int .i64 y.1))]) (fun y => [⟨[.val (.int .i64 N), .val (.slice a L.length cap)], 24⟩, ⟨[.val (.int .i64 0), .val (.slice none 0 0)], 24⟩, ⟨[.val (.int .i64 ((N : Int) - 1)), .val y.2.2], 24⟩]) (fun y => y.2.1)
      (fun y => y.1 ≤ N ∧ Below w.heap.size w y.2.1 ∧ X ≤ y.2.1.heap.size ∧ Own TB X y.2.1 y.2.2 (Proj.wl N k L (i * N + y.1))) (fun y => N - y.1) ?_ ?_
    · intro w1 h1
      exact ⟨(0, w1, sv), Cov.mk (by repeat' (first | exact trivial | refine And.intro rfl ?_)) rfl rfl rfl rfl rfl, rfl, Nat.zero_le _, h1.below, Nat.le_trans hXV h1.size, hO.at h1 (by simp)⟩
    rintro ⟨j, U, tv⟩ ⟨hj, hU, hXU, hO2⟩
    simp only at hj hU hXU hO2
    refine Branch.mk (fun z2 => ?_) (fun z2 => ?_)
    · have hjN : j < N := by have := of_decide_eq_true z2; simp only at this; omega
      have hpl : i * N + j < N * N := Dbm.place_lt hiN hjN
      have hq1 : (i * N + j) / N = i := Dbm.place_div hjN
      have hq2 : (i * N + j) % N = j := Dbm.place_mod hjN
      have hws := Proj.wl_succ N k L (i * N + j)
      rw [hq1, hq2] at hws
      have hwl := Proj.wl_len N k L (i * N + j)
      have hr : ∀ (b : Nat), U.heap.size ≤ b → ∀ g, tv.ownBlock = some g → w.heap.size ≤ g ∧ g ∉ [b1, b2, b3, b] := fun b hb g hg => by
        have := hO2.lt g hg
        refine ⟨Nat.le_trans hXw this.1, fun hm => ?_⟩
        simp only [List.mem_cons, List.not_mem_nil, or_false] at hm
        omega
      have skip : ¬ (i ≠ k ∧ j ≠ k) → Proj.wl N k L (i * N + (j + 1)) = Proj.wl N k L (i * N + j) := fun h => by
        rw [← Nat.add_assoc, hws, if_neg h, List.append_nil]
      refine Branch.mk (fun z3 => ?_) (fun z3 => ?_)
      · have hik : i ≠ k := by have := of_decide_eq_true z3; simp only at this; omega
        refine Branch.mk (fun z4 => ?_) (fun z4 => ?_)
        · have hjk : j ≠ k := by have := of_decide_eq_true z4; simp only at this; omega
          have hy := List.getElem?_eq_getElem (l := L) (i := i * N + j) (by omega)
          rw [if_pos ⟨hik, hjk⟩, hy] at hws
          simp only [Option.getD_some] at hws
          generalize L[i * N + j]'(by omega) = x at hy hws
          have hiN2 : i * N ≤ 16 := Nat.le_trans (Nat.mul_le_mul (Nat.le_of_lt hiN) (Nat.le_refl N)) hNN
          have eiN : (i : Int) * N = ((i * N : Nat) : Int) := rfl
          rcases hrow : tv.ownBlock with _ | g
          · skip
            refine DrawI.wr (.tk 0 (.tk 2 (.tk 3 (.tk 4 (.tk 5 (.tk 6 (.tk 7 (.tk 8 (.tk 9 (.tk 10 (.tk 11 (.two 1 (.ev 12 (.ev 13 (.tk 14 (.ev 15 .done)))) 12 (.ev 1 (.ev 13 (.tk 14 (.ev 15 .done)))))))))))))))) [2] [] (by kernel_rfl) rfl (by simp) fun w2 h2 => ?_
            have hO3 := hO2.below (h2.go)
            refine Need.mk (by simp only; rw [eiN]; simp only [inK]; omega) ?_
            refine Need.mk (by simp only; rw [eiN]; simp only [inK]; omega) ?_
            refine hS.idx hy fun ad had => ?_
            refine hS.ld1 hy had h2.below (by intro b hb; have hb3' : w.heap.size ≤ b3 := hb3; simp at hb; omega) ?_
            refine Both.mk ?_ ?_
            all_goals
              refine NewI.mk fun b5 hb5 => ?_
              have hb5' : w2.heap.size ≤ b5 := hb5
              refine GenN.app (α := Int) elB (Proj.wl N k L (i * N + j)) [x] X (fun w5 h5 => hO3.at h5 (by intro b hb; simp at hb <;> (subst hb; exact hX3))) (fun w5 h5 => src_own h5 3 rfl rfl rfl rfl) (by unfold maxLen; simp; omega) (by simp; omega) (fun w5 h5 => Nat.le_trans hXU (Nat.le_trans h2.size h5.size))
                (fun w5 w6 h5 hg => kpD_grown h5 hg fun q hq => ⟨(hr b5 (Nat.le_trans h2.size hb5') q hq).1, (hr b5 (Nat.le_trans h2.size hb5') q hq).2, by rw [hrow] at hq; cases hq⟩) fun sv' w5 w6 h5 hg hO' => ?_
              rw [← hws] at hO'
              obtain ⟨a', c', rfl⟩ := hO'.form
              have hX6 : X ≤ w6.heap.size := Nat.le_trans hXU (Nat.le_trans h2.size (Nat.le_trans h5.size hg.size))
              refine Need.mk (by simp only [inK]; omega) (EndI.mk fun w7 h7 => ⟨(j + 1, w7, .slice a' _ c'), Cov.mk (by repeat' (first | exact trivial | refine And.intro rfl ?_)) rfl rfl rfl rfl rfl, rfl, ⟨hjN, h7.below, Nat.le_trans hX6 h7.size, ?_⟩, by simp only; omega⟩)
              exact hO'.at h7 (by intro b hb; simp at hb; subst hb; exact hX3)
          · have hgl := hO2.lt g hrow
            refine DrawI.wr (.tk 0 (.tk 2 (.tk 3 (.tk 4 (.tk 5 (.tk 6 (.tk 7 (.tk 8 (.tk 9 (.tk 10 (.tk 11 (.two 1 (.ev 12 (.ev 13 (.tk 14 (.ev 15 .done)))) 12 (.ev 1 (.ev 13 (.tk 14 (.ev 15 .done)))))))))))))))) [2] [g] (by kernel_rfl) rfl (by intro b hb hm; simp at hb hm; omega) fun w2 h2 => ?_
            have hO3 := hO2.below (h2.go)
            refine Need.mk (by simp only; rw [eiN]; simp only [inK]; omega) ?_
            refine Need.mk (by simp only; rw [eiN]; simp only [inK]; omega) ?_
            refine hS.idx hy fun ad had => ?_
            refine hS.ld1 hy had h2.below (by intro b hb; have hb3' : w.heap.size ≤ b3 := hb3; simp at hb; omega) ?_
            refine Both.mk ?_ ?_
            all_goals
              refine NewI.mk fun b5 hb5 => ?_
              have hb5' : w2.heap.size ≤ b5 := hb5
              refine GenN.app (α := Int) elB (Proj.wl N k L (i * N + j)) [x] X (fun w5 h5 => hO3.at h5 (by intro b hb; simp at hb <;> (subst hb; exact hX3))) (fun w5 h5 => src_own h5 3 rfl rfl rfl rfl) (by unfold maxLen; simp; omega) (by simp; omega) (fun w5 h5 => Nat.le_trans hXU (Nat.le_trans h2.size h5.size))
                (fun w5 w6 h5 hg => kpD_grown h5 hg fun q hq => ⟨(hr b5 (Nat.le_trans h2.size hb5') q hq).1, (hr b5 (Nat.le_trans h2.size hb5') q hq).2, .inl (by rw [hrow] at hq; injection hq with hq; subst hq; simp)⟩) fun sv' w5 w6 h5 hg hO' => ?_
              rw [← hws] at hO'
              obtain ⟨a', c', rfl⟩ := hO'.form
              have hX6 : X ≤ w6.heap.size := Nat.le_trans hXU (Nat.le_trans h2.size (Nat.le_trans h5.size hg.size))
              refine Need.mk (by simp only [inK]; omega) (EndI.mk fun w7 h7 => ⟨(j + 1, w7, .slice a' _ c'), Cov.mk (by repeat' (first | exact trivial | refine And.intro rfl ?_)) rfl rfl rfl rfl rfl, rfl, ⟨hjN, h7.below, Nat.le_trans hX6 h7.size, ?_⟩, by simp only; omega⟩)
              exact hO'.at h7 (by intro b hb; simp at hb; subst hb; exact hX3)
        · have hjk : j = k := by have := of_decide_eq_false z4; simp only at this; omega
          refine Need.mk (by simp only [inK]; omega) (EndI.mk fun w7 h7 => ⟨(j + 1, w7, tv), Cov.mk (by repeat' (first | exact trivial | refine And.intro rfl ?_)) rfl rfl rfl rfl rfl, rfl, ⟨hjN, h7.below, Nat.le_trans hXU h7.size, ?_⟩, by simp only; omega⟩)
          simp only
          rw [skip (fun h => h.2 hjk)]; exact hO2.at h7 (by simp)
      · have hik : i = k := by have := of_decide_eq_false z3; simp only at this; omega
        refine Need.mk (by simp only [inK]; omega) (EndI.mk fun w7 h7 => ⟨(j + 1, w7, tv), Cov.mk (by repeat' (first | exact trivial | refine And.intro rfl ?_)) rfl rfl rfl rfl rfl, rfl, ⟨hjN, h7.below, Nat.le_trans hXU h7.size, ?_⟩, by simp only; omega⟩)
        simp only
        rw [skip (fun h => h.1 hik)]; exact hO2.at h7 (by simp)
    · have hge : j = N := by have := of_decide_eq_false z2; simp only at this; omega
      subst hge
      have hnx : i * j + j = (i + 1) * j := by rw [Nat.add_mul, Nat.one_mul]
      refine Need.mk (by simp only [inK]; omega) (EndI.mk fun w9 h9 => ⟨(i + 1, w9, tv), Cov.mk (by repeat' (first | exact trivial | refine And.intro rfl ?_)) rfl rfl rfl rfl rfl, rfl, ⟨hiN, h9.below, Nat.le_trans hXU h9.size, ?_⟩, by simp only; omega⟩)
      simp only; rw [← hnx]; exact hO2.at h9 (by simp)
  · have hge : i = N := by have := of_decide_eq_false z1; simp only at this; omega
    subst hge
    rw [Proj.wl_drop hN hk] at hO
    obtain ⟨a', c', rfl⟩ := hO.form
    exact EndI.mk fun w9 h9 => ⟨_, _, rfl, (hO.at h9 (by intro b hb; simp at hb; subst hb; exact hX2)).lower hXw⟩
end Go.Proofs.Ytodpgcdandechaa

/-
  The document's answer of layer 7: a matrix in another order, by the engine.
-/
namespace Go.Proofs.Ytodpgcdandechaa
set_option linter.unusedVariables false
set_option linter.unusedSimpArgs false
set_option maxRecDepth 100000
open Go.RowKit Go.Proofs.Ytodpgcdandechaa.Eng Enc

theorem rmoved07_any (N : Nat) (hN : 1 ≤ N ∧ N ≤ 4) (a : Option Addr) (cap : Nat) (L : List Int) (hL : L.length = N * N) (ao : Option Addr) (co : Nat) (O : List Int) (hO : O.length = N) (hlt : ∀ i, i < N → 0 ≤ Proj.og O i ∧ Proj.og O i < N) (w : World) (hS : Sl w.heap.size w (.slice a L.length cap) L) (hT : Sl w.heap.size w (.slice ao O.length co) O) :
    Calls Try.prog 26 #[.agg #[.int .i64 N, .slice a L.length cap], .slice ao O.length co] w (Ret w fun v w' => ∃ a' c', v = .agg #[.int .i64 N, .slice a' (Proj.moveL N L O).length c'] ∧ Own TB w.heap.size w' (.slice a' (Proj.moveL N L O).length c') (Proj.moveL N L O)) := by
  have hNN : N * N ≤ 16 := Nat.mul_le_mul hN.2 hN.2
  refine fun_ret 0 w Try.func26 (args := [.agg [.val (.int .i64 N), .val (.slice a L.length cap)], .val (.slice ao O.length co)]) rfl rfl ?_
  refine NewI.mk fun b1 hb1 => ?_
  refine NewI.mk fun b2 hb2 => ?_
  refine NewI.mk fun b3 hb3 => ?_
  have hb3' : w.heap.size ≤ b3 := hb3
  obtain ⟨X, hX1, hX2, hX3, hXw, hXm⟩ : ∃ X, b1 < X ∧ b2 < X ∧ b3 < X ∧ w.heap.size ≤ X ∧ ∀ n, b1 < n → b2 < n → b3 < n → w.heap.size ≤ n → X ≤ n := ⟨max (max (max b1 b2) b3 + 1) w.heap.size, by omega, by omega, by omega, by omega, fun n h1 h2 h3 h4 => by omega⟩
  refine LoopI.inv (α := Nat × World × Value) (fun y => [(6, .val (.int .i64 y.1))]) (fun y => [⟨[.val (.int .i64 N), .val (.slice a L.length cap)], 24⟩, ⟨[.val (.int .i64 0), .val (.slice none 0 0)], 24⟩, ⟨[.val (.int .i64 N), .val y.2.2], 24⟩]) (fun y => y.2.1)
    (fun y => y.1 ≤ N ∧ Below w.heap.size w y.2.1 ∧ X ≤ y.2.1.heap.size ∧ Own TB X y.2.1 y.2.2 ((Proj.moveL N L O).take (y.1 * N))) (fun y => N - y.1) ?_ ?_
  · intro w1 h1
    exact ⟨(0, w1, .slice none 0 0), Cov.mk (by repeat' (first | exact trivial | refine And.intro rfl ?_)) rfl rfl rfl rfl rfl, rfl, Nat.zero_le _, h1.below, hXm _ (h1.lt b1 (by simp)) (h1.lt b2 (by simp)) (h1.lt b3 (by simp)) h1.below.size, by simp only [Nat.zero_mul]; exact Own.nil⟩
  rintro ⟨i, V, sv⟩ ⟨hi, hV, hXV, hO0⟩
  simp only at hi hV hXV hO0
  refine Branch.mk (fun z1 => ?_) (fun z1 => ?_)
  · have hiN : i < N := by have := of_decide_eq_true z1; simp only at this; omega
    refine LoopI.inv (α := Nat × World × Value) (fun y => [(7, .val (.int .i64 y.1))]) (fun y => [⟨[.val (.int .i64 N), .val (.slice a L.length cap)], 24⟩, ⟨[.val (.int .i64 0), .val (.slice none 0 0)], 24⟩, ⟨[.val (.int .i64 N), .val y.2.2], 24⟩]) (fun y => y.2.1)
      (fun y => y.1 ≤ N ∧ Below w.heap.size w y.2.1 ∧ X ≤ y.2.1.heap.size ∧ Own TB X y.2.1 y.2.2 ((Proj.moveL N L O).take (i * N + y.1))) (fun y => N - y.1) ?_ ?_
    · intro w1 h1
      exact ⟨(0, w1, sv), Cov.mk (by repeat' (first | exact trivial | refine And.intro rfl ?_)) rfl rfl rfl rfl rfl, rfl, Nat.zero_le _, h1.below, Nat.le_trans hXV h1.size, hO0.at h1 (by simp)⟩
    rintro ⟨j, U, tv⟩ ⟨hj, hU, hXU, hO2⟩
    simp only at hj hU hXU hO2
    refine Branch.mk (fun z2 => ?_) (fun z2 => ?_)
    · have hjN : j < N := by have := of_decide_eq_true z2; simp only at this; omega
      have hpl : i * N + j < N * N := Dbm.place_lt hiN hjN
      have hq1 : (i * N + j) / N = i := Dbm.place_div hjN
      have hq2 : (i * N + j) % N = j := Dbm.place_mod hjN
      obtain ⟨oi0, oi1⟩ := hlt i hiN
      obtain ⟨oj0, oj1⟩ := hlt j hjN
      have hoi := Proj.og_get (O := O) (i := i) (by omega)
      have hoj := Proj.og_get (O := O) (i := j) (by omega)
      have hmf : Proj.moveF N O (i * N + j) = Proj.og O i * N + Proj.og O j := by unfold Proj.moveF; rw [hq1, hq2]
      obtain ⟨p, hp⟩ := Int.eq_ofNat_of_zero_le oi0
      obtain ⟨q, hq⟩ := Int.eq_ofNat_of_zero_le oj0
      rw [hp] at oi1 hoi hmf
      rw [hq] at oj1 hoj hmf
      have hpN : p < N := by omega
      have hqN : q < N := by omega
      have hpq : p * N + q < N * N := Dbm.place_lt hpN hqN
      have hy := List.getElem?_eq_getElem (l := L) (i := p * N + q) (by omega)
      generalize L[p * N + q]'(by omega) = x at hy
      have hget : (Proj.moveL N L O)[i * N + j]? = some x := by
        have e0 : ((p : Int)) * N + q = ((p * N + q : Nat) : Int) := rfl
        unfold Proj.moveL madeL
        rw [List.getElem?_map, List.getElem?_range hpl]
        simp only [Option.map_some]
        rw [hmf, e0, if_pos (by omega), Int.toNat_natCast, hy]
        rfl
      have hlen : ((Proj.moveL N L O).take (i * N + j)).length = i * N + j := by rw [List.length_take, Proj.moveL_len]; omega
      have hr : ∀ (b : Nat), U.heap.size ≤ b → ∀ g, tv.ownBlock = some g → w.heap.size ≤ g ∧ g ∉ [b1, b2, b3, b] := fun b hb g hg => by
        have := hO2.lt g hg
        refine ⟨Nat.le_trans hXw this.1, fun hm => ?_⟩
        simp only [List.mem_cons, List.not_mem_nil, or_false] at hm
        omega
      have hpN2 : p * N ≤ 16 := Nat.le_trans (Nat.mul_le_mul (Nat.le_of_lt hpN) (Nat.le_refl N)) hNN
      have epN : (p : Int) * N = ((p * N : Nat) : Int) := rfl
      rcases hrow : tv.ownBlock with _ | g
      · skip
        refine DrawI.wr (.tk 0 (.tk 2 (.tk 3 (.tk 4 (.tk 5 (.tk 6 (.tk 7 (.tk 8 (.tk 9 (.tk 10 (.tk 11 (.tk 12 (.tk 13 (.tk 14 (.tk 15 (.tk 16 (.tk 17 (.two 1 (.ev 18 (.ev 19 (.tk 20 (.ev 21 .done)))) 18 (.ev 1 (.ev 19 (.tk 20 (.ev 21 .done)))))))))))))))))))))) [2] [] (by kernel_rfl) rfl (by simp) fun w2 h2 => ?_
        have hO3 := hO2.below (h2.go)
        refine hT.idx hoi fun ad had => ?_
        refine hT.ld1 hoi had h2.below (by intro b hb; simp at hb; omega) ?_
        refine Need.mk (by rw [epN]; simp only [inK]; omega) ?_
        refine hT.idx hoj fun ad had => ?_
        refine hT.ld1 hoj had h2.below (by intro b hb; simp at hb; omega) ?_
        refine Need.mk (by rw [epN]; simp only [inK]; omega) ?_
        refine hS.idx hy fun ad had => ?_
        refine hS.ld1 hy had h2.below (by intro b hb; simp at hb; omega) ?_
        refine Both.mk ?_ ?_
        all_goals
          refine NewI.mk fun b5 hb5 => ?_
          have hb5' : w2.heap.size ≤ b5 := hb5
          refine GenN.app (α := Int) elB ((Proj.moveL N L O).take (i * N + j)) [x] X (fun w5 h5 => hO3.at h5 (by intro b hb; simp at hb <;> (subst hb; exact hX3))) (fun w5 h5 => src_own h5 3 rfl rfl rfl rfl) (by rw [hlen]; unfold maxLen; simp; omega) (by rw [hlen]; simp; omega) (fun w5 h5 => Nat.le_trans hXU (Nat.le_trans h2.size h5.size))
            (fun w5 w6 h5 hg => kpD_grown h5 hg fun q hq => ⟨(hr b5 (Nat.le_trans h2.size hb5') q hq).1, (hr b5 (Nat.le_trans h2.size hb5') q hq).2, by rw [hrow] at hq; cases hq⟩) fun sv' w5 w6 h5 hg hO' => ?_
          rw [← take_succ_get hget] at hO'
          obtain ⟨a', c', rfl⟩ := hO'.form
          have hX6 : X ≤ w6.heap.size := Nat.le_trans hXU (Nat.le_trans h2.size (Nat.le_trans h5.size hg.size))
          refine Need.mk (by simp only [inK]; omega) (EndI.mk fun w7 h7 => ⟨(j + 1, w7, .slice a' _ c'), Cov.mk (by repeat' (first | exact trivial | refine And.intro rfl ?_)) rfl rfl rfl rfl rfl, rfl, ⟨hjN, h7.below, Nat.le_trans hX6 h7.size, ?_⟩, by simp only; omega⟩)
          exact hO'.at h7 (by intro b hb; simp at hb; subst hb; exact hX3)
      · have hgl := hO2.lt g hrow
        refine DrawI.wr (.tk 0 (.tk 2 (.tk 3 (.tk 4 (.tk 5 (.tk 6 (.tk 7 (.tk 8 (.tk 9 (.tk 10 (.tk 11 (.tk 12 (.tk 13 (.tk 14 (.tk 15 (.tk 16 (.tk 17 (.two 1 (.ev 18 (.ev 19 (.tk 20 (.ev 21 .done)))) 18 (.ev 1 (.ev 19 (.tk 20 (.ev 21 .done)))))))))))))))))))))) [2] [g] (by kernel_rfl) rfl (by intro b hb hm; simp at hb hm; omega) fun w2 h2 => ?_
        have hO3 := hO2.below (h2.go)
        refine hT.idx hoi fun ad had => ?_
        refine hT.ld1 hoi had h2.below (by intro b hb; simp at hb; omega) ?_
        refine Need.mk (by rw [epN]; simp only [inK]; omega) ?_
        refine hT.idx hoj fun ad had => ?_
        refine hT.ld1 hoj had h2.below (by intro b hb; simp at hb; omega) ?_
        refine Need.mk (by rw [epN]; simp only [inK]; omega) ?_
        refine hS.idx hy fun ad had => ?_
        refine hS.ld1 hy had h2.below (by intro b hb; simp at hb; omega) ?_
        refine Both.mk ?_ ?_
        all_goals
          refine NewI.mk fun b5 hb5 => ?_
          have hb5' : w2.heap.size ≤ b5 := hb5
          refine GenN.app (α := Int) elB ((Proj.moveL N L O).take (i * N + j)) [x] X (fun w5 h5 => hO3.at h5 (by intro b hb; simp at hb <;> (subst hb; exact hX3))) (fun w5 h5 => src_own h5 3 rfl rfl rfl rfl) (by rw [hlen]; unfold maxLen; simp; omega) (by rw [hlen]; simp; omega) (fun w5 h5 => Nat.le_trans hXU (Nat.le_trans h2.size h5.size))
            (fun w5 w6 h5 hg => kpD_grown h5 hg fun q hq => ⟨(hr b5 (Nat.le_trans h2.size hb5') q hq).1, (hr b5 (Nat.le_trans h2.size hb5') q hq).2, .inl (by rw [hrow] at hq; injection hq with hq; subst hq; simp)⟩) fun sv' w5 w6 h5 hg hO' => ?_
          rw [← take_succ_get hget] at hO'
          obtain ⟨a', c', rfl⟩ := hO'.form
          have hX6 : X ≤ w6.heap.size := Nat.le_trans hXU (Nat.le_trans h2.size (Nat.le_trans h5.size hg.size))
          refine Need.mk (by simp only [inK]; omega) (EndI.mk fun w7 h7 => ⟨(j + 1, w7, .slice a' _ c'), Cov.mk (by repeat' (first | exact trivial | refine And.intro rfl ?_)) rfl rfl rfl rfl rfl, rfl, ⟨hjN, h7.below, Nat.le_trans hX6 h7.size, ?_⟩, by simp only; omega⟩)
          exact hO'.at h7 (by intro b hb; simp at hb; subst hb; exact hX3)
    · have hge : j = N := by have := of_decide_eq_false z2; simp only at this; omega
      subst hge
      have hnx : i * j + j = (i + 1) * j := by rw [Nat.add_mul, Nat.one_mul]
      refine Need.mk (by simp only [inK]; omega) (EndI.mk fun w9 h9 => ⟨(i + 1, w9, tv), Cov.mk (by repeat' (first | exact trivial | refine And.intro rfl ?_)) rfl rfl rfl rfl rfl, rfl, ⟨hiN, h9.below, Nat.le_trans hXU h9.size, ?_⟩, by simp only; omega⟩)
      simp only; rw [← hnx]; exact hO2.at h9 (by simp)
  · have hge : i = N := by have := of_decide_eq_false z1; simp only at this; omega
    subst hge
    rw [List.take_of_length_le (by rw [Proj.moveL_len]; exact Nat.le_refl _)] at hO0
    obtain ⟨a', c', rfl⟩ := hO0.form
    exact EndI.mk fun w9 h9 => ⟨_, _, rfl, (hO0.at h9 (by intro b hb; simp at hb; subst hb; exact hX2)).lower hXw⟩
end Go.Proofs.Ytodpgcdandechaa

/-
  The document's answer of layer 7: a matrix with a clock more; orders; by the engine.
-/
namespace Go.Proofs.Ytodpgcdandechaa
set_option linter.unusedVariables false
set_option linter.unusedSimpArgs false
set_option maxRecDepth 100000
open Go.RowKit Go.Proofs.Ytodpgcdandechaa.Eng Enc

theorem kpD_set7 {w0 : Base} {wr w1 : World} {M r : List Nat} {g o : Nat} {v : Value} (hg : w0.B ≤ g) (hr : ∀ b, b ∈ r → b ≠ g) (hM : g ∈ M) : kpD w0 wr M r w1 (w1.setCell ⟨g, o, none⟩ v) := fun hs =>
  ⟨keep_set hg hr, fun k hk hm => Below.heap_setCell _ _ _ _ (by simp only; intro e; subst e; exact hm hM)⟩
theorem rmore07_any (N : Nat) (hN : 1 ≤ N ∧ N ≤ 3) (a : Option Addr) (cap : Nat) (L : List Int) (hL : L.length = N * N) (w : World) (hS : Sl w.heap.size w (.slice a L.length cap) L) :
    Calls Try.prog 21 #[.agg #[.int .i64 N, .slice a L.length cap]] w (Ret w fun v w' => ∃ a' c', v = .agg #[.int .i64 ((N : Int) + 1), .slice a' (Proj.growL N L).length c'] ∧ Fresh TB w.heap.size w' (.slice a' (Proj.growL N L).length c') (Proj.growL N L)) := by
  have hNN : N * N ≤ 9 := Nat.mul_le_mul hN.2 hN.2
  have hMM : (N + 1) * (N + 1) ≤ 16 := by
    have := Nat.mul_le_mul (show N + 1 ≤ 4 by omega) (show N + 1 ≤ 4 by omega); omega
  refine fun_ret 0 w Try.func21 (args := [.agg [.val (.int .i64 N), .val (.slice a L.length cap)]]) rfl rfl ?_
  refine NewI.mk fun b1 hb1 => ?_
  refine NewI.mk fun b2 hb2 => ?_
  refine Need.mk (by simp only [inK]; omega) ?_
  have hall := fun w => rall04_any (N + 1) (by omega) w
  rw [show (((N + 1 : Nat) : Int)) = (N : Int) + 1 from rfl] at hall
  apply CallI.use
  focus (exact fun w3 h3 => hall w3)
  rintro v w3 v3 h3 hB3 ⟨a3, c3, rfl, hO3⟩
  have hwb : w.heap.size ≤ w3.heap.size := h3.below.size
  have l1 : b1 < w3.heap.size := h3.lt b1 (by simp)
  have l2 : b2 < w3.heap.size := h3.lt b2 (by simp)
  refine NewI.mk fun b3 hb3 => ?_
  have hb3' : v3.heap.size ≤ b3 := hb3
  obtain ⟨g, rfl, hg, hr⟩ := hO3.row (by rw [Dbm.topL_len]; exact Nat.mul_pos (by omega) (by omega))
  obtain ⟨_, ⟨h0, _⟩ | ⟨g', c', cur', e0, _, hgc, hlc, hm, hs, _⟩⟩ := id hO3
  · cases h0
  injection e0 with e0 e1 e2
  injection e0 with e0; injection e0 with e0; subst e0; subst e2
  have hglt := hr.lt
  have hgw : w.heap.size ≤ g := Nat.le_trans hwb hg
  have hgr : ∀ b, b ∈ [b1, b2, b3] → b ≠ g := fun b hb e => by
    simp only [List.mem_cons, List.not_mem_nil, or_false] at hb
    omega
  have hgl0 : Proj.gl N L 0 = Dbm.topL (N + 1) := rfl
  refine LoopI.invC (α := Nat × World) (fun y => [(4, .val (.int .i64 y.1))]) (fun y => y.2) (fun y => y.1 ≤ N ∧ Below w.heap.size w y.2 ∧ RowAt TB y.2 g (Proj.gl N L (y.1 * N))) (fun y => N - y.1) ?_ ?_
  · intro w5 h5
    exact ⟨(0, w5), Cov.mk (by repeat' (first | exact trivial | refine And.intro rfl ?_)) rfl rfl rfl rfl rfl, rfl, Nat.zero_le _, h5.below, by simp only [Nat.zero_mul, hgl0]; exact hr.at h5 (fun hm => by simp at hm; omega)⟩
  rintro ⟨i, V⟩ ⟨hi, hV, hR⟩
  simp only at hi hV hR
  refine Branch.mk (fun z1 => ?_) (fun z1 => ?_)
  · have hiN : i < N := by have := of_decide_eq_true z1; simp only at this; omega
    refine LoopI.invC (α := Nat × World) (fun y => [(5, .val (.int .i64 y.1))]) (fun y => y.2) (fun y => y.1 ≤ N ∧ Below w.heap.size w y.2 ∧ RowAt TB y.2 g (Proj.gl N L (i * N + y.1))) (fun y => N - y.1) ?_ ?_
    · intro w5 h5
      exact ⟨(0, w5), Cov.mk (by repeat' (first | exact trivial | refine And.intro rfl ?_)) rfl rfl rfl rfl rfl, rfl, Nat.zero_le _, h5.below, hR.at h5 (by simp)⟩
    rintro ⟨j, U⟩ ⟨hj, hU, hR2⟩
    simp only at hj hU hR2
    refine Branch.mk (fun z2 => ?_) (fun z2 => ?_)
    · have hjN : j < N := by have := of_decide_eq_true z2; simp only at this; omega
      have hpl : i * N + j < N * N := Dbm.place_lt hiN hjN
      have hq1 : (i * N + j) / N = i := Dbm.place_div hjN
      have hq2 : (i * N + j) % N = j := Dbm.place_mod hjN
      have hpm : i * (N + 1) + j < (N + 1) * (N + 1) := Dbm.place_lt (N := N + 1) (by omega) (by omega)
      have hgs := Proj.gl_succ N L (i * N + j)
      have hgn := Proj.gl_len N L (i * N + j)
      rw [hq1, hq2] at hgs
      have hy := List.getElem?_eq_getElem (l := L) (i := i * N + j) (by omega)
      rw [hy] at hgs
      simp only [Option.getD_some] at hgs
      generalize L[i * N + j]'(by omega) = x at hy hgs
      have iN2 : i * N ≤ 9 := Nat.le_trans (Nat.mul_le_mul (Nat.le_of_lt hiN) (Nat.le_refl N)) hNN
      have iM2 : i * (N + 1) ≤ 16 := Nat.le_trans (Nat.mul_le_mul (by omega) (Nat.le_refl (N + 1))) hMM
      have eN : (i : Int) * N = ((i * N : Nat) : Int) := rfl
      have eM : (i : Int) * ((N : Int) + 1) = ((i * (N + 1) : Nat) : Int) := rfl
      refine DrawI.wr (.tk 0 (.tk 1 (.tk 2 (.tk 3 (.tk 4 (.tk 5 (.tk 6 (.tk 7 (.tk 8 (.tk 9 (.tk 10 (.tk 11 (.tk 12 (.tk 13 (.tk 14 (.tk 15 (.tk 16 (.tk 17 (.tk 18 (.ev 19 .done)))))))))))))))))))) [] [g] (by kernel_rfl) rfl (fun b hb h => hgr b hb (by simpa using h)) fun w6 h6 => ?_
      have r6 := hR2.at h6 (by simp)
      have L1 : ∀ b, b ∈ [g] → w.heap.size ≤ b := fun b hb => by rw [List.mem_singleton.1 hb]; exact hgw
      refine Need.mk (by simp only; rw [eM]; simp only [inK]; omega) ?_
      refine Need.mk (by simp only; rw [eM]; simp only [inK]; omega) ?_
      refine Need.mk (by simp only; rw [eN]; simp only [inK]; omega) ?_
      refine Need.mk (by simp only; rw [eN]; simp only [inK]; omega) ?_
      refine hS.idx hy fun ad had => ?_
      refine hS.ld1 hy had h6.below (by simpa using hgw) ?_
      have ead : (⟨g, 0, none⟩ : Addr).add (((i : Int) * ((N : Int) + 1) + (j : Int)).toNat * 1) = ⟨g, i * (N + 1) + j, none⟩ := by
        have : ((i : Int) * ((N : Int) + 1) + (j : Int)).toNat = i * (N + 1) + j := rfl
        rw [this]; simp [addr_addL]
      refine IdxI.mk ⟨_, ⟨rfl, by simp only; rw [eM]; omega, by simp only; rw [eM, Dbm.topL_len]; omega⟩, ?_⟩
      refine StoreI.mk fun w7 h7 => ?_
      have r7 := r6.at h7 (by simp)
      rw [show ((⟨g, 0, none⟩ : Addr).add ((((i, V).1 : Int) * ((N : Int) + 1) + ((j, U).1 : Int)).toNat * 1)) = ⟨g, i * (N + 1) + j, none⟩ from ead]
      refine ⟨⟨⟨_, r7.cell (j := i * (N + 1) + j) (by omega)⟩, r7.frozen _⟩, kpD_set7 hgw hgr (by simp [locs]), ?_⟩
      refine Need.mk (by simp only [inK]; omega) (EndI.mk fun w9 h9 => ⟨(j + 1, w9), Cov.mk (by repeat' (first | exact trivial | refine And.intro rfl ?_)) rfl rfl rfl rfl rfl, rfl, ⟨hjN, h9.below, ?_⟩, by simp only; omega⟩)
      simp only
      rw [← Nat.add_assoc, hgs]
      exact (r7.set (by omega) _).at h9 (by simp)
    · have hge : j = N := by have := of_decide_eq_false z2; simp only at this; omega
      subst hge
      have hnx : i * j + j = (i + 1) * j := by rw [Nat.add_mul, Nat.one_mul]
      refine Need.mk (by simp only [inK]; omega) (EndI.mk fun w9 h9 => ⟨(i + 1, w9), Cov.mk (by repeat' (first | exact trivial | refine And.intro rfl ?_)) rfl rfl rfl rfl rfl, rfl, ⟨hiN, h9.below, ?_⟩, by simp only; omega⟩)
      simp only; rw [← hnx]; exact hR2.at h9 (by simp)
  · have hge : i = N := by have := of_decide_eq_false z1; simp only at this; omega
    subst hge
    rw [Proj.gl_grow hN] at hR
    have hfl : (Dbm.topL (i + 1)).length = (Proj.growL i L).length := by rw [← Proj.gl_grow hN, Proj.gl_len, Dbm.topL_len]
    rw [hfl]
    exact EndI.mk fun w9 h9 => ⟨_, _, rfl, .inr ⟨g, c3, rfl, by rw [← hfl]; exact hlc, hm, hgw, hR.at h9 (fun hm => by simp at hm; omega)⟩⟩
theorem rmayorder_any (N : Nat) (hN : 1 ≤ N ∧ N ≤ 4) (ao : Option Addr) (co : Nat) (O : List Int) (w : World) (hT : Sl w.heap.size w (.slice ao O.length co) O) :
    Calls Try.prog 25 #[.slice ao O.length co, .int .i64 N] w fun e w' => e = .returned (.bool (Proj.moveOk N O)) ∧ Below w.heap.size w w' := by
  refine fun_eq 0 w Try.func25 (args := [.val (.slice ao O.length co), .val (.int .i64 N)]) rfl rfl ?_
  refine Branch.mk (fun z1 => ?_) (fun z1 => ?_)
  · have hne : (O.length : Int) ≠ N := of_decide_eq_true z1
    refine EndI.mk fun w9 h9 => ?_
    unfold Proj.moveOk
    rw [decide_eq_false hne]; rfl
  have hl : O.length = N := by have := of_decide_eq_false z1; simp at this; omega
  have h0 := List.getElem?_eq_getElem (l := O) (i := 0) (by omega)
  have h0d : O[0]?.getD 1 = O[0]'(by omega) := by rw [h0]; rfl
  generalize O[0]'(by omega) = x0 at h0 h0d
  refine hT.idx (k := 0) h0 fun ad had => ?_
  refine hT.ld1 (k := 0) h0 had (Below.refl _ _) (by simp) ?_
  refine Branch.mk (fun z2 => ?_) (fun z2 => ?_)
  · have hne : x0 ≠ 0 := of_decide_eq_true z2
    refine EndI.mk fun w9 h9 => ?_
    unfold Proj.moveOk
    rw [h0d, decide_eq_false hne]; simp
  have hx0 : x0 = 0 := by have := of_decide_eq_false z2; simpa using this
  rw [Proj.moveOk_doc hl (by rw [h0d, hx0])]
  refine LoopI.invC (α := Nat × World) (fun y => [(5, .val (.int .i64 y.1))]) (fun y => y.2) (fun y => y.1 ≤ N ∧ Below w.heap.size w y.2 ∧ ∀ q, q < y.1 → ((q : Nat) : Int) ∈ O) (fun y => N - y.1) ?_ ?_
  · intro w5 h5
    exact ⟨(0, w5), Cov.mk (by repeat' (first | exact trivial | refine And.intro rfl ?_)) rfl rfl rfl rfl rfl, rfl, Nat.zero_le _, h5.below, by simp⟩
  rintro ⟨n, V⟩ ⟨hn, hV, hq⟩
  simp only at hn hV hq
  refine Branch.mk (fun z3 => ?_) (fun z3 => ?_)
  · have hnN : n < N := by have := of_decide_eq_true z3; simp only at this; omega
    refine LoopI.invC (α := Nat × Bool × World) (fun y => [(7, .val (.int .i64 y.1)), (6, .val (.bool y.2.1))]) (fun y => y.2.2) (fun y => y.1 ≤ N ∧ Below w.heap.size w y.2.2 ∧ (y.2.1 = true ↔ (n : Int) ∈ O.take y.1)) (fun y => N - y.1) ?_ ?_
    · intro w5 h5
      exact ⟨(0, false, w5), Cov.mk (by repeat' (first | exact trivial | refine And.intro rfl ?_)) rfl rfl rfl rfl rfl, rfl, Nat.zero_le _, h5.below, by simp⟩
    rintro ⟨i, th, U⟩ ⟨hi, hU, hth⟩
    simp only at hi hU hth
    refine Branch.mk (fun z4 => ?_) (fun z4 => ?_)
    · have hiN : i < N := by have := of_decide_eq_true z4; simp only at this; omega
      have hy := List.getElem?_eq_getElem (l := O) (i := i) (by omega)
      have hts : O.take (i + 1) = O.take i ++ [O[i]'(by omega)] := take_succ_get hy
      generalize O[i]'(by omega) = x at hy hts
      refine Branch.mk (fun z5 => ?_) (fun z5 => ?_)
      · refine Need.mk (by simp only [inK]; omega) (EndI.mk fun w9 h9 => ⟨(i + 1, true, w9), Cov.mk (by repeat' (first | exact trivial | refine And.intro rfl ?_)) rfl rfl rfl rfl rfl, rfl, ⟨hiN, h9.below, ?_⟩, by simp only; omega⟩)
        rw [hts]
        simp [hth.1 z5]
      · have hf : ¬ (n : Int) ∈ O.take i := fun h => by rw [hth.2 h] at z5; cases z5
        refine hT.idx hy fun ad2 had2 => ?_
        refine hT.ld1 hy had2 hU (by simp) ?_
        refine Need.mk (by simp only [inK]; omega) (EndI.mk fun w9 h9 => ⟨(i + 1, decide (x = (n : Int)), w9), Cov.mk (by repeat' (first | exact trivial | refine And.intro rfl ?_)) rfl rfl rfl rfl rfl, rfl, ⟨hiN, h9.below, ?_⟩, by simp only; omega⟩)
        simp only
        rw [hts, List.mem_append, List.mem_singleton]
        simp [hf, eq_comm]
    · have hge : i = N := by have := of_decide_eq_false z4; simp only at this; omega
      subst hge
      rw [List.take_of_length_le (by omega)] at hth
      refine Branch.mk (fun z5 => ?_) (fun z5 => ?_)
      · have hf : th = false := by simpa using z5
        refine EndI.mk fun w9 h9 => ?_
        have : ((List.range i).all fun n => decide ((n : Int) ∈ O)) = false := by
          rw [Bool.eq_false_iff]
          intro h
          have := List.all_eq_true.1 h n (List.mem_range.2 hnN)
          have := hth.2 (by simpa using this)
          rw [hf] at this; cases this
        rw [this]
      · have ht : th = true := by simpa using z5
        refine Need.mk (by simp only [inK]; omega) (EndI.mk fun w9 h9 => ⟨(n + 1, w9), Cov.mk (by repeat' (first | exact trivial | refine And.intro rfl ?_)) rfl rfl rfl rfl rfl, rfl, ⟨hnN, h9.below, fun q hq2 => ?_⟩, by simp only; omega⟩)
        by_cases e : q = n
        · subst e; exact hth.1 ht
        · exact hq q (by simp only at hq2; omega)
  · have hge : n = N := by have := of_decide_eq_false z3; simp only at this; omega
    subst hge
    refine EndI.mk fun w9 h9 => ?_
    have : ((List.range n).all fun n => decide ((n : Int) ∈ O)) = true := List.all_eq_true.2 fun q hq2 => by simpa using hq q (List.mem_range.1 hq2)
    rw [this]
end Go.Proofs.Ytodpgcdandechaa

/-
  slices.Values at []int: its contract (turned from the kit's worked text on iterators over slices).
-/
namespace Go.Proofs.Ytodpgcdandechaa
set_option linter.unusedVariables false
open Go.RowKit Go.Shelf
attribute [local go_sem] Oper.semAt_some

def firstN {α : Type} (f : Nat → α) (k : Nat) : List α := (List.range k).map f
theorem firstN_succ {α : Type} (f : Nat → α) (k : Nat) : firstN f (k + 1) = firstN f k ++ [f k] := by simp [firstN, List.range_succ]
theorem firstN_len {α : Type} (f : Nat → α) (k : Nat) : (firstN f k).length = k := by simp [firstN]
theorem firstN_take (zs : List Int) {k : Nat} (hk : k ≤ zs.length) : firstN (fun j => zs[j]?.getD 0) k = zs.take k := by
  apply List.ext_getElem
  · simp [firstN, hk]
  · intro i h1 h2
    have : i < zs.length := by simp [firstN] at h1; omega
    simp [firstN, this]

set_option maxRecDepth 100000 in
set_option maxHeartbeats 2000000 in
theorem values1_in (n : Nat) (hn : 1 ≤ n) (l Bs n₀ b off len cap : Nat) (zs : List Int) (hreach : len * 8 ≤ 140737488351232) (hb : b < n₀) (J Jx : List Int → World → Prop)
    (hY : ∀ pre x W, J pre W → pre.length < len → YieldAt Fence.wide (n - 1) Try.prog l #[.int .i64 x] W fun e W' =>
      (e = .returned (.bool true) ∧ J (pre ++ [x]) W' ∧ Below n₀ W W') ∨ (e = .returned (.bool false) ∧ Jx (pre ++ [x]) W'))
    (W : World) (hBs : W.cell? ⟨Bs, 0, none⟩ = some (.slice (some ⟨b, off, none⟩) len cap)) (hc : ∀ j, j < len → W.cell? ⟨b, off + j, none⟩ = some (.int .i64 (zs[j]?.getD 0))) (h0 : J [] W) :
    CallsIn Fence.wide n Try.prog 38 #[.func (.yield l) #[] #[], .pointer (some ⟨Bs, 0, none⟩)] W fun e W' => (∃ v, e = .returned v) ∧
      ((∃ ys, ys = firstN (fun j => zs[j]?.getD 0) len ∧ J ys W') ∨ (∃ pre, (∃ k, k ≤ len ∧ pre = firstN (fun j => zs[j]?.getD 0) k) ∧ Jx pre W')) := by
  refine callsIn_of_wp Try.func38 rfl trivial ?_ rfl
  simp only [Try.ntmps38, List.size_toArray, List.length_cons, List.length_nil, Nat.reduceAdd, Nat.reduceSub, Array.replicate_succ, Array.replicate_zero, List.push_toArray, List.append_toArray, List.nil_append, List.cons_append]
  gi_wp2
  gi_loopw [7] (fun i wr => ∃ k : Nat, k ≤ len ∧ i = .int .i64 k ∧ J (firstN (fun j => zs[j]?.getD 0) k) wr ∧ Below n₀ W wr)
    (fun i _ => len - (intOf i).toNat)
  case atStart => exact ⟨0, Nat.zero_le _, rfl, h0, Below.refl _ _⟩
  case round =>
    obtain ⟨k, hk, rfl, hJs, hnx⟩ := hrel
    have hcx : k < len → wr.cell? ⟨b, off + k, none⟩ = some (.int .i64 (zs[k]?.getD 0)) := fun h => (hnx.cell (p := ⟨b, off + k, none⟩) hb).trans (hc k h)
    by_cases hlt : k < len
    · obtain ⟨fn, tmps, assign, body, hy, hR⟩ := hY _ (zs[k]?.getD 0) wr hJs (by rw [firstN_len]; exact hlt)
      have hcx' := hcx hlt
      gi_wp2
      refine hR.mono ?_
      rintro e W3 (⟨rfl, hJ3, hk3⟩ | ⟨rfl, hJx3⟩)
      · gi_wp2
        go_roundw
        case rel => exact ⟨k + 1, by omega, by simp, by rw [firstN_succ]; exact hJ3, hnx.trans hk3⟩
        case measure => simp [intOf]; omega
      · gi_wp2
        refine bodyPost_ret (results_none rfl _ _ _) rfl ?_
        exact ⟨⟨_, rfl⟩, .inr ⟨_, ⟨k + 1, by omega, (firstN_succ _ _).symm⟩, hJx3⟩⟩
    · obtain rfl : k = len := by omega
      gi_wp2
      go_end0
      exact ⟨⟨_, rfl⟩, .inl ⟨_, rfl, hJs⟩⟩

set_option maxRecDepth 100000 in
set_option maxHeartbeats 1000000 in
theorem values1_nil_in (n : Nat) (l Bs : Nat) (a : Option Addr) (cap : Nat) (J : List Int → World → Prop) (W : World) (hBs : W.cell? ⟨Bs, 0, none⟩ = some (.slice a 0 cap)) (h0 : J [] W) :
    CallsIn Fence.wide n Try.prog 38 #[.func (.yield l) #[] #[], .pointer (some ⟨Bs, 0, none⟩)] W fun e W' => (∃ v, e = .returned v) ∧ J [] W' := by
  refine callsIn_of_wp Try.func38 rfl trivial ?_ rfl
  simp only [Try.ntmps38, List.size_toArray, List.length_cons, List.length_nil, Nat.reduceAdd, Nat.reduceSub, Array.replicate_succ, Array.replicate_zero, List.push_toArray, List.append_toArray, List.nil_append, List.cons_append]
  gi_wp2
  gi_loopw [7] (fun i wr => i = .int .i64 0 ∧ J [] wr) (fun _ _ => 0)
  case atStart => exact ⟨rfl, h0⟩
  case round =>
    obtain ⟨rfl, hJs⟩ := hrel
    gi_wp2
    go_end0
    exact ⟨⟨_, rfl⟩, hJs⟩

set_option maxHeartbeats 1000000 in
theorem values_in (n : Nat) (a : Option Addr) (len cap : Nat) (w : World) :
    CallsIn Fence.wide n Try.prog 23 #[.slice a len cap] w fun e w' => e = .returned (.func (.func 38) #[] #[.pointer (some ⟨w.heap.size, 0, none⟩)]) ∧ w' = w.alloc (.cells #[.slice a len cap] 25) := by
  refine callsIn_of_wp Try.func23 rfl trivial ?_ rfl
  simp only [Try.ntmps23, List.size_toArray, List.length_cons, List.length_nil, Nat.reduceAdd, Nat.reduceSub, Array.replicate_succ, Array.replicate_zero, List.push_toArray, List.append_toArray, List.nil_append, List.cons_append]
  gi_wp2
  go_ret
  exact ⟨rfl, rfl⟩

theorem values_stops (n : Nat) (hn : 1 ≤ n) (Bs n₀ : Nat) (a : Option Addr) (cap : Nat) (zs : List Int) (hreach : zs.length * 8 ≤ 140737488351232) (w : World) (hBs : Bs < w.heap.size) (hn₀ : n₀ ≤ w.heap.size)
    (hc : w.cell? ⟨Bs, 0, none⟩ = some (.slice a zs.length cap)) (hI : Sl n₀ w (.slice a zs.length cap) zs) :
    SeqStopsK Fence.wide n Try.prog 38 #[.pointer (some ⟨Bs, 0, none⟩)] (fun x : Int => #[Value.int .i64 x]) (Below n₀) (fun ys => ys = zs) (fun pre => pre <+: zs) zs.length w := fun l J Jx W hW _ _ hY h0 => by
  have hc' := (hW.cell (p := ⟨Bs, 0, none⟩) hBs).trans hc
  have hI' := hI.below (hW.mono hn₀)
  by_cases hz : zs = []
  · subst hz
    exact (values1_nil_in n l Bs a cap J W hc' h0).mono fun e W' ⟨he, hj⟩ => ⟨he, .inl ⟨_, rfl, hj⟩⟩
  · have hp : 0 < zs.length := List.length_pos_iff.2 hz
    obtain ⟨a', cap', e0, _, _, _, h4⟩ := hI'
    injection e0 with e1 e2 e3
    subst e1; subst e3
    obtain ⟨b, off, rfl, hb, _⟩ := h4 0 _ (List.getElem?_eq_getElem hp)
    have hcs : ∀ j, j < zs.length → W.cell? ⟨b, off + j, none⟩ = some (.int .i64 (zs[j]?.getD 0)) := fun j hj => by
      obtain ⟨b', o', e, _, hcell⟩ := h4 j _ (List.getElem?_eq_getElem hj)
      injection e with e; injection e with e1 e2
      subst e1; subst e2
      have := hcell 0 (.int .i64 zs[j]) rfl
      rw [List.getElem?_eq_getElem hj]
      simpa [Enc.size] using this
    refine (values1_in n hn l Bs n₀ b off zs.length cap zs hreach hb J Jx hY W hc' hcs h0).mono ?_
    rintro e W' ⟨he, ⟨ys, rfl, hj⟩ | ⟨pre, ⟨k, hk, rfl⟩, hj⟩⟩
    · exact ⟨he, .inl ⟨_, by rw [firstN_take zs (Nat.le_refl _), List.take_length], hj⟩⟩
    · exact ⟨he, .inr ⟨_, by rw [firstN_take zs hk]; exact List.take_prefix _ _, hj⟩⟩
end Go.Proofs.Ytodpgcdandechaa

/-
  slices.AppendSeq, Collect, Sorted over slices.Values, at int, by the engine.
-/
namespace Go.Proofs.Ytodpgcdandechaa
set_option linter.unusedVariables false
set_option linter.unusedSimpArgs false
set_option maxRecDepth 100000
open Go.RowKit Go.Proofs.Ytodpgcdandechaa.Eng Enc

theorem appendSeq_any (Bs : Nat) (a : Option Addr) (cap : Nat) (zs : List Int) (hlen : zs.length ≤ 1000000) (w : World) (hc : w.cell? ⟨Bs, 0, none⟩ = some (.slice a zs.length cap)) (hS : Sl w.heap.size w (.slice a zs.length cap) zs) :
    Calls Try.prog 45 #[.slice none 0 0, .func (.func 38) #[] #[.pointer (some ⟨Bs, 0, none⟩)]] w (Ret w fun v w' => Own 3 w.heap.size w' v zs) := by
  have hBs : Bs < w.heap.size := World.block_lt_of_cell? _ _ hc
  refine fun_at 9 w.heap.size w (Nat.le_refl _) Try.func45 (args := [.val (.slice none 0 0), .val (.func (.func 38) #[] #[.pointer (some ⟨Bs, 0, none⟩)])]) rfl rfl ?_
  refine NewI.mk fun b1 hb1 => ?_
  refine RawI.mk fun ac w1 hR => ?_
  have h1 := hR.at_
  have hl1 := h1.lt b1 (by simp)
  have hc1 : w1.cell? ⟨Bs, 0, none⟩ = some (.slice a zs.length cap) := (h1.below.cell (p := ⟨Bs, 0, none⟩) hBs).trans hc
  refine rangeE cxOk (by decide) hR rfl Try.call38 (values_stops 8 (by omega) Bs w.heap.size a cap zs (by omega) w1 (Nat.lt_of_lt_of_le hBs h1.below.size) h1.below.size hc1 (hS.below h1.below)) (encs := fun x : Int => [Value.int .i64 x]) (fun h k => h.trans k) (fun W l o o' hl ho h2 h3 => ?_)
    (fun W W' hs hg => ?_) (fun x => rfl) (γ := Value) (fun v => [⟨[.val v], 25⟩]) (fun pre v W => Own 3 w1.heap.size W v pre) ?_ (.slice none 0 0) rfl Own.nil (fun _ _ _ _ => False) (fun _ _ => []) (fun _ _ _ _ _ _ h _ _ => h) _
    (fun l z hp W => And.intro rfl rfl) ?_ ?_ (fun _ _ _ _ _ _ _ _ h => h.elim)
  · exact ⟨rfl, rfl, rfl, by simp [World.putObj], fun k hk => World.putObj_heap_other (by have h0 : w.heap.size ≤ w1.heap.size := h1.below.size; omega)⟩
  · exact ⟨hg.os, hg.tape, hg.output, hg.size, fun k hk => hg.block k (Nat.lt_of_lt_of_le hk (Nat.le_trans h1.below.size hs)) (by simp)⟩
  · intro v pre W W' row hO hg hr
    refine Own.kept hO hg ?_
    obtain ⟨_, ⟨rfl, _⟩ | ⟨g, c, cur, rfl, _, hgb, _⟩⟩ := id hO
    · exact .inl rfl
    · refine .inr (fun e => ?_)
      obtain ⟨_, o, ho, hcl⟩ := hr g e.symm
      rw [hgb] at ho; cases ho; cases hcl
  · intro l pre x v W hO hBW hsW hlt
    refine NewI.mk fun b2 hb2 => ?_
    have hO1 : Own 3 w1.heap.size W v pre := hO
    have hr : ∀ k, v.ownBlock = some k → w.heap.size ≤ k ∧ k ∉ [b1, b2] := fun k hk => by
      have := hO1.lt k hk
      refine ⟨Nat.le_trans h1.below.size this.1, fun hm => ?_⟩
      have hb2' : W.heap.size ≤ b2 := hb2
      simp only [List.mem_cons, List.not_mem_nil, or_false] at hm
      omega
    refine GenN.app (α := Int) elDI pre [x] w1.heap.size (fun w5 h5 => hO1.below h5.go) (fun w5 h5 => src_own h5 1 rfl rfl rfl rfl) (by unfold maxLen; simp; omega) (by simp; omega) (fun w5 h5 => Nat.le_trans hsW h5.size)
      (fun w5 w6 h5 hg => keep_grown h5 hg hr) fun sv' w5 w6 h5 hg hO' => ?_
    obtain ⟨a', c', rfl⟩ := hO'.form
    refine ⟨.slice a' (pre ++ [x]).length c', ?_⟩
    refine Need.mk (CovH.mk rfl rfl rfl) (EndI.mk fun w7 h7 => ?_)
    have hW7 : W.heap.size ≤ w7.heap.size := Nat.le_trans h5.size (Nat.le_trans hg.size h7.size)
    refine ⟨⟨hW7, fun k o _ hk hcl => ?_⟩, ?_, hO'.at h7 (by intro b hb; simp at hb; subst hb; exact hl1)⟩
    · have hkW : k < W.heap.size := (Array.getElem?_eq_some_iff.1 hk).1
      have e5 : w5.heap[k]? = some o := (h5.go.block k hkW).trans hk
      have e6 : w6.heap[k]? = some o := by
        refine (hg.block k (Nat.lt_of_lt_of_le hkW h5.size) (fun e => ?_)).trans e5
        obtain ⟨_, ⟨rfl, _⟩ | ⟨g, c, cur, rfl, _, hgb, _⟩⟩ := id hO1
        · cases e
        · injection e with e
          subst e
          rw [hgb] at hk; cases hk; cases hcl
      refine (h7.step k (Nat.lt_of_lt_of_le hkW (Nat.le_trans h5.size hg.size)) (fun hm => ?_)).trans e6
      simp at hm
      subst hm
      have := h5.blk 0 _ ⟨_, _⟩ (by rfl) (by rfl)
      rw [e5] at this; cases this; cases hcl
    · have hb7 := h7.below
      exact ⟨hb7.os.trans hBW.os.symm, hb7.tape.trans hBW.tape.symm, hb7.output.trans hBW.output.symm, hW7, fun k hk => (hb7.block k hk).trans (hBW.block k hk).symm⟩
  · rintro D xs v W hD rfl hO hmark
    have hDW : D < W.heap.size := (Array.getElem?_eq_some_iff.1 hmark).1
    have hO1 : Own 3 w1.heap.size W v xs := hO
    obtain ⟨a', c', rfl⟩ := hO1.form
    refine EndM.mk fun w10 h10 => ⟨⟨Nat.le_trans h1.below.size hD, (h10.step D hDW (by simp)).trans hmark⟩, fun w11 hu => ?_⟩
    have hO10 := hO1.at h10 (by simp)
    refine (Own.kept (row := some D) hO10 ⟨hu.2.1, hu.2.2.1, hu.2.2.2.1, by rw [hu.1]; exact Nat.le_refl _, fun k _ hk => hu.2.2.2.2 k (fun e => hk (by rw [e]))⟩ ?_).lower h1.below.size
    obtain ⟨_, ⟨e, _⟩ | ⟨g, c, cur, e, _, hgb, _⟩⟩ := id hO10
    · rw [e]; exact .inl rfl
    · rw [e]
      refine .inr (fun e' => ?_)
      injection e' with e'
      subst e'
      have := (h10.step _ hDW (by simp)).trans hmark
      rw [hgb] at this; cases this

theorem collect_any (Bs : Nat) (a : Option Addr) (cap : Nat) (zs : List Int) (hlen : zs.length ≤ 1000000) (w : World) (hc : w.cell? ⟨Bs, 0, none⟩ = some (.slice a zs.length cap)) (hS : Sl w.heap.size w (.slice a zs.length cap) zs) :
    Calls Try.prog 36 #[.func (.func 38) #[] #[.pointer (some ⟨Bs, 0, none⟩)]] w (Ret w fun v w' => Own 3 w.heap.size w' v zs) := by
  have hBs : Bs < w.heap.size := World.block_lt_of_cell? _ _ hc
  refine fun_ret 0 w Try.func36 (args := [.val (.func (.func 38) #[] #[.pointer (some ⟨Bs, 0, none⟩)])]) rfl rfl ?_
  apply CallI.use
  · exact fun w1 h1 => appendSeq_any Bs a cap zs hlen w1 ((h1.below.cell (p := ⟨Bs, 0, none⟩) hBs).trans hc) (Sl.at h1 hS)
  intro v w1 w2 h1 hB hO
  obtain ⟨a', c', rfl⟩ := hO.form
  exact EndI.mk fun w3 h3 => (hO.at h3 (by simp)).lower h1.below.size
end Go.Proofs.Ytodpgcdandechaa

/-
  DERIVED: THE SHELF's CONTRACTS AT THIS DUMP, IN PLAIN WORDS (tools/lay-plain.mjs out of 'YtodpgcdandechaaShelf0.lean', which tools/lay-shelf.mjs wrote): THE SAME DECLARATIONS UNDER THE SAME NAMES: 'import', 'namespace', 'open', 'def', 'theorem' AND NOTHING ELSE: no command of the shelf's: FOR A HAND-IN. Each laying: the table of numbers ('.._ren') and one theorem, a field a fact of the dump's own or the kernel's comparison; each contract: ONE APPLICATION.
-/
namespace Go.Proofs
open Go.Shelf
def Try.sort5_ren : Go.Shelf.Ren := ⟨fun | 5 => 37 | 8 => 47 | 7 => 46 | 19 => 64 | 20 => 65 | 10 => 55 | 11 => 56 | 12 => 57 | 13 => 58 | 14 => 59 | 15 => 60 | 16 => 61 | 17 => 62 | 18 => 63 | 30 => 68 | 31 => 69 | 32 => 70 | 33 => 71 | 34 => 72 | 35 => 73 | 40 => 74 | n => n, fun | 23 => 25 | 25 => 3 | 3 => 3 | 32 => 79 | 22 => 25 | 0 => 0 | 44 => 96 | 46 => 98 | 4 => 4 | 36 => 89 | 35 => 88 | 41 => 93 | 5 => 5 | 9 => 9 | 53 => 101 | 57 => 105 | 63 => 107 | 64 => 108 | n => n, fun | n => n⟩
theorem Try.sort5 : Go.Proofs.SlLaysM.n5 Try.prog Try.sort5_ren := {
  mixed := by kernel_rfl
  f5 := ⟨Try.f37.name, by decide, Try.func37.trans (congrArg some (by kernel_rfl))⟩
  f7 := ⟨Try.f46.name, by decide, Try.func46.trans (congrArg some (by kernel_rfl))⟩
  f8 := Try.func47.trans (congrArg some (by kernel_rfl))
  f10 := ⟨Try.f55.name, by decide, Try.func55.trans (congrArg some (by kernel_rfl))⟩
  f11 := ⟨Try.f56.name, by decide, Try.func56.trans (congrArg some (by kernel_rfl))⟩
  f12 := ⟨Try.f57.name, by decide, Try.func57.trans (congrArg some (by kernel_rfl))⟩
  f13 := ⟨Try.f58.name, by decide, Try.func58.trans (congrArg some (by kernel_rfl))⟩
  f14 := ⟨Try.f59.name, by decide, Try.func59.trans (congrArg some (by kernel_rfl))⟩
  f15 := ⟨Try.f60.name, by decide, Try.func60.trans (congrArg some (by kernel_rfl))⟩
  f16 := ⟨Try.f61.name, by decide, Try.func61.trans (congrArg some (by kernel_rfl))⟩
  f17 := ⟨Try.f62.name, by decide, Try.func62.trans (congrArg some (by kernel_rfl))⟩
  f18 := ⟨Try.f63.name, by decide, Try.func63.trans (congrArg some (by kernel_rfl))⟩
  f19 := Try.func64.trans (congrArg some (by kernel_rfl))
  f20 := Try.func65.trans (congrArg some (by kernel_rfl))
  f30 := ⟨Try.f68.name, by decide, Try.func68.trans (congrArg some (by kernel_rfl))⟩
  f31 := Try.func69.trans (congrArg some (by kernel_rfl))
  f32 := Try.func70.trans (congrArg some (by kernel_rfl))
  f33 := ⟨Try.f71.name, by decide, Try.func71.trans (congrArg some (by kernel_rfl))⟩
  f34 := ⟨Try.f72.name, by decide, Try.func72.trans (congrArg some (by kernel_rfl))⟩
  f35 := ⟨Try.f73.name, by decide, Try.func73.trans (congrArg some (by kernel_rfl))⟩
  f40 := ⟨Try.f74.name, by decide, Try.func74.trans (congrArg some (by kernel_rfl))⟩
  t0 := Try.underlying0
  a0 := Try.isAgg0
  z0 := Try.sizeOf0
  v0 := Try.zeroValue0
  t3 := Try.underlying3
  a3 := Try.isAgg3
  z3 := Try.sizeOf3
  v3 := Try.zeroValue3
  t4 := Try.underlying4
  a4 := Try.isAgg4
  z4 := Try.sizeOf4
  v4 := Try.zeroValue4
  t5 := Try.underlying5
  a5 := Try.isAgg5
  z5 := Try.sizeOf5
  v5 := Try.zeroValue5
  t9 := Try.underlying9
  a9 := Try.isAgg9
  z9 := Try.sizeOf9
  v9 := Try.zeroValue9
  t22 := Try.underlying25
  a22 := Try.isAgg25
  z22 := Try.sizeOf25
  v22 := Try.zeroValue25
  t23 := Try.underlying25
  a23 := Try.isAgg25
  z23 := Try.sizeOf25
  v23 := Try.zeroValue25
  t25 := Try.underlying3
  a25 := Try.isAgg3
  z25 := Try.sizeOf3
  v25 := Try.zeroValue3
  t32 := Try.underlying79
  a32 := Try.isAgg79
  z32 := Try.sizeOf79
  v32 := Try.zeroValue79
  t35 := Try.underlying88
  a35 := Try.isAgg88
  z35 := Try.sizeOf88
  v35 := Try.zeroValue88
  t36 := Try.underlying89
  a36 := Try.isAgg89
  z36 := Try.sizeOf89
  v36 := Try.zeroValue89
  t41 := Try.underlying93
  a41 := Try.isAgg93
  z41 := Try.sizeOf93
  v41 := Try.zeroValue93
  t44 := Try.underlying96
  a44 := Try.isAgg96
  z44 := Try.sizeOf96
  v44 := Try.zeroValue96
  t46 := Try.underlying98
  a46 := Try.isAgg98
  z46 := Try.sizeOf98
  v46 := Try.zeroValue98
  t53 := Try.underlying101
  a53 := Try.isAgg101
  z53 := Try.sizeOf101
  v53 := Try.zeroValue101
  t57 := Try.underlying105
  a57 := Try.isAgg105
  z57 := Try.sizeOf105
  v57 := Try.zeroValue105
  t63 := Try.underlying107
  a63 := Try.isAgg107
  z63 := Try.sizeOf107
  v63 := Try.zeroValue107
  t64 := Try.underlying108
  a64 := Try.isAgg108
  z64 := Try.sizeOf108
  v64 := Try.zeroValue108 }
end Go.Proofs

/-
  slices.Sorted over slices.Values, at int; proj.Move: their contracts.
-/
namespace Go.Proofs.Ytodpgcdandechaa
set_option linter.unusedVariables false
set_option linter.unusedSimpArgs false
set_option maxRecDepth 100000
open Go.RowKit Go.Proofs.Ytodpgcdandechaa.Eng Enc

theorem cellsInt (l : List Int) : cellsL l = l.map (Value.int .i64) := by
  induction l with
  | nil => rfl
  | cons x l ih => simp only [cellsL, ih, List.map_cons]; rfl

/-- slices.Sort, at a row of the run's own. -/
theorem sort_own (base : Nat) (v : Value) (l : List Int) (hl : l.length ≤ 1000000) (w : World) (hO : Own 3 base w v l) :
    Calls Try.prog 37 #[v] w fun e w' => e = .returned (.tuple #[]) ∧ Own 3 base w' v (Proj.sortI l) ∧ w.grownBy w' v.ownBlock := by
  obtain ⟨hc, ⟨rfl, h0⟩ | ⟨g, cap, cur, rfl, hb, hg, hn, hm, hs, ht⟩⟩ := id hO
  · obtain rfl := List.eq_nil_of_length_eq_zero h0
    refine (AnyM.slices_Sort_int_none Try.sort5 none 0 w).mono ?_
    rintro e w' ⟨rfl, rfl⟩
    exact ⟨rfl, by rw [show Proj.sortI [] = [] by simp [Proj.sortI]]; exact hO, rfl, rfl, rfl, Nat.le_refl _, fun _ _ _ => rfl⟩
  · rw [cellsInt] at ht
    have ht' : cur.toList.take l.length = l.map (Value.int .i64) := by simpa [Enc.size] using ht
    refine (AnyM.slices_Sort_int Try.sort5 g 0 cap l w (holds_of_blockI hg ht') (Array.getElem?_eq_some_iff.1 hg).1 (by omega)).mono ?_
    rintro e w' ⟨rfl, n, os, rfl⟩
    refine ⟨rfl, ?_, grownBy_sortedI _⟩
    have hlen : (l.mergeSort fun x y => decide (x ≤ y)).length = l.length := List.length_mergeSort _
    have := ownsRow_sortedI (w := w) (n := n) (os := os) hlen hb hg hn hm hs
    unfold Own
    rw [cellsInt]
    unfold Proj.sortI
    rw [hlen]
    exact this

theorem sorted_any (Bs : Nat) (a : Option Addr) (cap : Nat) (zs : List Int) (hlen : zs.length ≤ 1000000) (w : World) (hc : w.cell? ⟨Bs, 0, none⟩ = some (.slice a zs.length cap)) (hS : Sl w.heap.size w (.slice a zs.length cap) zs) :
    Calls Try.prog 22 #[.func (.func 38) #[] #[.pointer (some ⟨Bs, 0, none⟩)]] w (Ret w fun v w' => Own 3 w.heap.size w' v (Proj.sortI zs)) := by
  have hBs : Bs < w.heap.size := World.block_lt_of_cell? _ _ hc
  refine fun_ret 0 w Try.func22 (args := [.val (.func (.func 38) #[] #[.pointer (some ⟨Bs, 0, none⟩)])]) rfl rfl ?_
  apply CallI.use
  · exact fun w1 h1 => collect_any Bs a cap zs hlen w1 ((h1.below.cell (p := ⟨Bs, 0, none⟩) hBs).trans hc) (Sl.at h1 hS)
  intro v w1 w2 h1 hB hO
  obtain ⟨a', c', rfl⟩ := hO.form
  refine CallI.mk fun w3 h3 => (sort_own w1.heap.size _ zs hlen w3 (hO.at h3 (by simp))).mono ?_
  rintro e w4 ⟨rfl, hO4, hg⟩
  have hlen2 : (Proj.sortI zs).length = zs.length := (Proj.sortI_perm zs).length_eq
  refine ⟨keep_grown h3 hg fun k hk => ⟨Nat.le_trans h1.below.size (hO.lt k hk).1, by simp⟩, _, rfl, ?_⟩
  exact EndI.mk fun w5 h5 => (hO4.at h5 (by simp)).lower h1.below.size
end Go.Proofs.Ytodpgcdandechaa

/-
  The contract of proj.Move, by the engine.
-/
namespace Go.Proofs.Ytodpgcdandechaa
set_option linter.unusedVariables false
set_option linter.unusedSimpArgs false
set_option maxRecDepth 100000
open Go.RowKit Go.Proofs.Ytodpgcdandechaa.Eng Enc

theorem move1_any (i j : Nat) (p q : Nat) (a : Option Addr) (cap : Nat) (l : List Int) (n x y : Int) (hx : l[i]? = some x) (hy : l[j]? = some y) (hr : inK .i64 (x * n) ∧ inK .i64 (x * n + y)) (w : World) (hp : w.cell? ⟨p, 0, none⟩ = some (.slice a l.length cap)) (hS : Sl w.heap.size w (.slice a l.length cap) l) (hq : w.cell? ⟨q, 0, none⟩ = some (.int .i64 n)) :
    Calls Try.prog 24 #[.int .i64 i, .int .i64 j, .pointer (some ⟨p, 0, none⟩), .pointer (some ⟨q, 0, none⟩)] w fun e w' => e = .returned (.int .i64 (x * n + y)) ∧ Below w.heap.size w w' := by
  refine fun_eq 0 w Try.func24 (args := [.val (.int .i64 i), .val (.int .i64 j), .val (.pointer (some ⟨p, 0, none⟩)), .val (.pointer (some ⟨q, 0, none⟩))]) rfl rfl ?_
  refine DrawI.go (.tk 0 (.tk 1 (.tk 2 (.tk 3 (.tk 4 (.tk 5 (.tk 6 (.tk 7 (.tk 8 (.tk 9 (.tk 10 (.tk 11 (.tk 12 .done))))))))))))) (by kernel_rfl) fun w1 k1 => ?_
  have hb := k1.go
  refine LoadI.mk ⟨_, ⟨(hb.cell (p := ⟨p, 0, none⟩) (World.block_lt_of_cell? _ _ hp)).trans hp, by simp⟩, ?_⟩
  refine hS.idx hx fun ad had => ?_
  refine hS.ld1 hx had hb (by simp) ?_
  refine LoadI.mk ⟨_, ⟨(hb.cell (p := ⟨q, 0, none⟩) (World.block_lt_of_cell? _ _ hq)).trans hq, by simp⟩, ?_⟩
  refine Need.mk hr.1 ?_
  refine LoadI.mk ⟨_, ⟨(hb.cell (p := ⟨p, 0, none⟩) (World.block_lt_of_cell? _ _ hp)).trans hp, by simp⟩, ?_⟩
  refine hS.idx hy fun ad had => ?_
  refine hS.ld1 hy had hb (by simp) ?_
  refine Need.mk hr.2 ?_
  exact EndI.mk fun w2 h2 => rfl

theorem move_any (n : Int) (a : Option Addr) (cap : Nat) (L : List Int) (ao : Option Addr) (co : Nat) (O : List Int) (hlen : O.length ≤ 1000000) (w : World) (hS : Sl w.heap.size w (.slice a L.length cap) L) (hSO : Sl w.heap.size w (.slice ao O.length co) O) :
    Calls Try.prog 9 #[.agg #[.int .i64 n, .slice a L.length cap], .slice ao O.length co] w (Ret w fun v w' => ∃ a' cap', v = .tuple #[.agg #[.int .i64 (Proj.move n L O).1, .slice a' (Proj.move n L O).2.1.length cap'], .int .i64 (Proj.move n L O).2.2] ∧ Fresh TB w.heap.size w' (.slice a' (Proj.move n L O).2.1.length cap') (Proj.move n L O).2.1) := by
  refine fun_ret 9 w Try.func9 (args := [.agg [.val (.int .i64 n), .val (.slice a L.length cap)], .val (.slice ao O.length co)]) rfl rfl ?_
  refine NewI.mk fun b1 hb1 => ?_
  refine NewI.mk fun b2 hb2 => ?_
  refine NewI.mk fun b3 hb3 => ?_
  apply CallI.use1
  · exact fun w1 h1 => dcheck_any n a cap L w1 (Sl.at h1 hS)
  intro w1 w2 h1 hB2
  have err : ∀ (e : Int) (w' : World), Proj.move n L O = (0, [], e) → ∃ a' cap', Value.tuple #[.agg #[.int .i64 0, .slice none 0 0], .int .i64 e] = .tuple #[.agg #[.int .i64 (Proj.move n L O).1, .slice a' (Proj.move n L O).2.1.length cap'], .int .i64 (Proj.move n L O).2.2] ∧ Fresh TB w.heap.size w' (.slice a' (Proj.move n L O).2.1.length cap') (Proj.move n L O).2.1 := fun e w' he => by
    rw [he]; exact ⟨_, _, rfl, .inl ⟨rfl, rfl⟩⟩
  refine Branch.mk (fun hc => ?_) (fun hc => ?_)
  · have hc' : ¬ Dbm.chk n L = 0 := by simpa using hc
    have h8 : Dbm.chk n L = 8 := (Dbm.chk_cases n L).resolve_left hc'
    rw [h8]
    exact EndI.mk fun w3 h3 => err 8 w3 (by rw [Proj.move, if_neg hc'])
  have hc0 : Dbm.chk n L = 0 := by simpa using hc
  obtain ⟨c1, c2, c3, c4⟩ := Dbm.chk_iff.1 hc0
  apply CallI.mk
  intro w3 h3
  refine (callsIn_wide.1 (values_in 9 ao O.length co w3)).mono ?_
  rintro e w4 ⟨rfl, rfl⟩
  have hB1 : Below w3.heap.size w3 (w3.alloc (.cells #[.slice ao O.length co] 25)) := below_al (Below.refl _ _)
  refine ⟨h3.keep hB1, _, rfl, ?_⟩
  have hBs : (w3.alloc (.cells #[.slice ao O.length co] 25)).cell? ⟨w3.heap.size, 0, none⟩ = some (.slice ao O.length co) := by simp
  have hsz : w3.heap.size < (w3.alloc (.cells #[.slice ao O.length co] 25)).heap.size := by simp
  generalize w3.alloc (.cells #[.slice ao O.length co] 25) = w4 at hBs hsz hB1
  generalize w3.heap.size = Bs at hBs hsz
  apply CallI.use
  · exact fun w5 h5 => sorted_any Bs ao co O hlen w5 ((h5.go.cell (p := ⟨Bs, 0, none⟩) hsz).trans hBs) (Sl.at h5 hSO)
  intro v w5 w6 h5 hB6 hOw
  obtain ⟨aS, cS, rfl⟩ := hOw.form
  have hsl : (Proj.sortI O).length = O.length := (Proj.sortI_perm O).length_eq
  have hSS : Sl w6.heap.size w6 (.slice aS (Proj.sortI O).length cS) (Proj.sortI O) := hOw.sl
  have e2 : ∀ (w' : World), ¬ Proj.moveOk n O = true → ∃ a' cap', Value.tuple #[.agg #[.int .i64 0, .slice none 0 0], .int .i64 2] = .tuple #[.agg #[.int .i64 (Proj.move n L O).1, .slice a' (Proj.move n L O).2.1.length cap'], .int .i64 (Proj.move n L O).2.2] ∧ Fresh TB w.heap.size w' (.slice a' (Proj.move n L O).2.1.length cap') (Proj.move n L O).2.1 := fun w' hno =>
    err 2 w' (by rw [Proj.move, if_pos hc0, if_neg hno])
  refine Branch.mk (fun hc1 => ?_) (fun hc1 => ?_)
  · have hl : ¬ (O.length : Int) = n := by simpa using hc1
    exact EndI.mk fun w7 h7 => e2 w7 fun h => by simp [Proj.moveOk, hl] at h
  have hl : (O.length : Int) = n := by simpa using hc1
  obtain ⟨N, rfl⟩ : ∃ N : Nat, n = N := ⟨n.toNat, by omega⟩
  have hlen' : L.length = N * N := by exact_mod_cast c3
  have hg0 := Proj.og_get (O := O) (i := 0) (by omega)
  have hw6 : Below w.heap.size w w6 := h5.below.trans (hB6.mono h5.below.size)
  have hSO6 := hSO.go hw6 hw6.size
  refine hSO6.idx (k := 0) hg0 fun ad had => ?_
  refine hSO6.ld1 (k := 0) hg0 had (Below.refl _ _) (by simp) ?_
  refine Branch.mk (fun hc2 => ?_) (fun hc2 => ?_)
  · have hz : ¬ Proj.og O 0 = 0 := by simpa using hc2
    exact EndI.mk fun w7 h7 => e2 w7 fun h => by
      obtain ⟨M, hM, hO'⟩ := (Proj.moveOk_iff c1).1 h
      exact hz hO'.zero
  have hz : Proj.og O 0 = 0 := by simpa using hc2
  have hsN : (Proj.sortI O).length = N := by omega
  refine LoopI.invC (α := Nat × World) (fun y => [(33, .val (.int .i64 y.1))]) (fun y => y.2) (fun y => y.1 ≤ N ∧ Below w6.heap.size w6 y.2 ∧ Below w.heap.size w y.2 ∧ ∀ j, j < y.1 → Proj.og (Proj.sortI O) j = j) (fun y => N - y.1) ?_ ?_
  · intro w7 h7
    exact ⟨(0, w7), Cov.mk (by repeat' (first | exact trivial | refine And.intro rfl ?_)) rfl rfl rfl rfl rfl, rfl, Nat.zero_le _, h7.go, h7.below, fun j hj => by omega⟩
  rintro ⟨k, W⟩ ⟨hk, hW6, hW, hall⟩
  refine Branch.mk (fun hb => ?_) (fun hb => ?_)
  · have hlt : k < N := by have : (k : Int) < (Proj.sortI O).length := by simpa using hb
                           omega
    have hgk := Proj.og_get (O := Proj.sortI O) (i := k) (by omega)
    have hSW := hSS.go hW6 hW6.size
    refine hSW.idx hgk fun ad' had' => ?_
    refine hSW.ld1 hgk had' (Below.refl _ _) (by simp) ?_
    refine Branch.mk (fun hc3 => ?_) (fun hc3 => ?_)
    · have hne : ¬ (k : Int) = Proj.og (Proj.sortI O) k := by simpa using hc3
      exact EndI.mk fun w7 h7 => e2 w7 fun h => by
        obtain ⟨M, hM, hO'⟩ := (Proj.moveOk_iff c1).1 h
        have hM' : N = M := by exact_mod_cast hM
        subst hM'
        have := Proj.sortI_upto.2 hO'.perm
        apply hne
        rw [this]
        unfold Proj.og upto
        rw [List.getElem?_map, List.getElem?_range hlt]; rfl
    · have heq : (k : Int) = Proj.og (Proj.sortI O) k := by simpa using hc3
      refine Need.mk (by show _ ∧ _; omega) (EndI.mk fun w7 h7 => ⟨(k + 1, w7), Cov.mk (by repeat' (first | exact trivial | refine And.intro rfl ?_)) rfl rfl rfl rfl rfl, rfl, ⟨hlt, hW6.trans (h7.go.mono hW6.size), h7.below, fun j hj => ?_⟩, by simp only; omega⟩)
      rcases Nat.lt_succ_iff_lt_or_eq.1 hj with h | h
      · exact hall j h
      · rw [h]; exact heq.symm
  have hge : k = N := by have : ¬ (k : Int) < (Proj.sortI O).length := by simpa using hb
                         omega
  subst hge
  have hsu : Proj.sortI O = upto k := by
    refine Proj.ext_get hsN (upto_len k) fun q hq => ?_
    have := hall q hq
    unfold Proj.og at this
    rw [this]
    unfold upto
    rw [List.getElem?_map, List.getElem?_range hq]; rfl
  have hO : Proj.Ord k O := Proj.ord_perm (by omega) hz (Proj.sortI_upto.1 hsu)
  apply CallI.use
  · intro w7 h7
    have hF : ∀ q, q < k * k → Proj.moveF k O q < L.length := fun q hq => by
      have := (Proj.moveF_lt hO hq).2
      rw [hlen']; exact this
    refine pmade_any k L a cap k (by omega) (by omega) 24 #[.pointer (some ⟨b2, 0, none⟩), .pointer (some ⟨b1, 0, none⟩)] Try.call24 (Proj.moveF k O) w7 (Sl.at h7 hS) hF (fun q W' hq hW' => ?_)
    have e1 : q / k < O.length := by have := Dbm.div_lt hq; omega
    have e2 : q % k < O.length := by have := Dbm.mod_lt hq; omega
    have r1 := hO.lt _ (Dbm.div_lt hq)
    have r2 := hO.lt _ (Dbm.mod_lt hq)
    have r3 := Proj.moveF_lt hO hq
    have hk4 : k * k ≤ 4 * 4 := Nat.mul_le_mul (by omega) (by omega)
    have r4 : 0 ≤ Proj.og O (q / k) * (k : Int) := Int.mul_nonneg r1.1 (by omega)
    have hr3 : Proj.og O (q / k) * (k : Int) + Proj.og O (q % k) < 16 := by have := r3.2; unfold Proj.moveF at this; omega
    have hW7 := hSO.go (h7.below.trans (hW'.mono h7.below.size)) (Nat.le_trans h7.below.size hW'.size)
    exact move1_any (q / k) (q % k) b2 b1 ao co O k (Proj.og O (q / k)) (Proj.og O (q % k)) (Proj.og_get e1) (Proj.og_get e2) ⟨by show _ ∧ _; omega, by show _ ∧ _; omega⟩ W'
      ((hW'.cell (p := ⟨b2, 0, none⟩) (h7.lt b2 (by simp))).trans (h7.own (i := 1) (o := 0) rfl rfl rfl)) hW7 ((hW'.cell (p := ⟨b1, 0, none⟩) (h7.lt b1 (by simp))).trans (h7.own (i := 0) (o := 0) rfl rfl rfl))
  rintro v w7 w8 h7 hB8 ⟨am, cm, rfl, hF⟩
  refine EndI.mk fun w9 h9 => ?_
  rw [Proj.move_of hc0 hO]
  refine ⟨_, _, rfl, ?_⟩
  exact (hF.at h9 (fun x hx => by rw [List.mem_singleton.1 hx]; exact h7.lt b3 (by simp))).lower h7.below.size
end Go.Proofs.Ytodpgcdandechaa

/-
  The document's answer of layer 7, by the engine: Drop, Grow, Move.
-/
namespace Go.Proofs.Ytodpgcdandechaa
set_option linter.unusedVariables false
set_option linter.unusedSimpArgs false
set_option maxRecDepth 100000
open Go.RowKit Go.Proofs.Ytodpgcdandechaa.Eng Enc

theorem rdrop07_any (n : Int) (a : Option Addr) (cap : Nat) (L : List Int) (k : Int) (hn : Dbm.int64 n) (hL : ∀ b, b ∈ L → Dbm.int64 b) (w : World) (hS : Sl w.heap.size w (.slice a L.length cap) L) :
    Calls Try.prog 6 #[.agg #[.int .i64 n, .slice a L.length cap], .int .i64 k] w (Ret w fun v w' => ∃ a' cap', v = .tuple #[.agg #[.int .i64 (Proj.drop n L k).1, .slice a' (Proj.drop n L k).2.1.length cap'], .int .i64 (Proj.drop n L k).2.2] ∧ Sl w'.heap.size w' (.slice a' (Proj.drop n L k).2.1.length cap') (Proj.drop n L k).2.1) := by
  refine fun_ret 0 w Try.func6 (args := [.agg [.val (.int .i64 n), .val (.slice a L.length cap)], .val (.int .i64 k)]) rfl rfl ?_
  have st := Stay.first (w := w)
  refine NewI.mk fun b1 hb1 => ?_
  refine NewI.mk fun b2 hb2 => ?_
  apply CallI.use1
  focus (exact fun w3 h3 => rmay04_any n L hn hL a cap w3 (hS.st (st.at h3 (fun x hx => by simp at hx <;> omega))))
  intro w3 v3 h3 hB3
  have st := st.next h3 (fun x hx => by simp at hx <;> omega) hB3
  unfold Proj.drop
  refine Branch.mk (fun z1 => ?_) (fun z1 => ?_)
  · rw [if_neg (fun h => by rw [decide_eq_true h] at z1; cases z1)]
    exact EndI.mk fun w9 h9 => ⟨_, _, rfl, Sl.nil⟩
  have h0 : Dbm.chk n L = 0 := by simpa using z1
  obtain ⟨c1, c2, c3, c4⟩ := Dbm.chk_iff.1 h0
  rw [if_pos h0]
  refine Branch.mk (fun z2 => ?_) (fun z2 => ?_)
  · have : k < 1 := of_decide_eq_true z2
    rw [if_pos (.inl this)]
    exact EndI.mk fun w9 h9 => ⟨_, _, rfl, Sl.nil⟩
  have hk1 : ¬ k < 1 := of_decide_eq_false z2
  refine Branch.mk (fun z3 => ?_) (fun z3 => ?_)
  · have : n ≤ k := of_decide_eq_true z3
    rw [if_pos (.inr this)]
    exact EndI.mk fun w9 h9 => ⟨_, _, rfl, Sl.nil⟩
  have hk2 : ¬ n ≤ k := of_decide_eq_false z3
  rw [if_neg (by omega)]
  obtain ⟨N, rfl⟩ := Int.eq_ofNat_of_zero_le (a := n) (by omega)
  obtain ⟨K, rfl⟩ := Int.eq_ofNat_of_zero_le (a := k) (by omega)
  rw [Int.toNat_natCast, Int.toNat_natCast]
  apply CallI.use
  focus (exact fun w4 h4 => rclosed_any h0 a cap w4 (hS.st (st.at h4 (fun x hx => by simp at hx <;> omega))))
  rintro v w4 v4 h4 hB4 ⟨a4, c4', rfl, hO4⟩
  have st := st.next h4 (fun x hx => by simp at hx <;> omega) hB4
  refine NewI.mk fun b3 hb3 => ?_
  unfold Dbm.rc at hO4 ⊢
  cases hC : Dbm.closeL N L with
  | none =>
    rw [hC] at hO4
    simp only at hO4 ⊢
    refine Branch.yes rfl ?_
    exact EndI.mk fun w9 h9 => ⟨_, _, rfl, Sl.nil⟩
  | some C =>
    rw [hC] at hO4
    simp only at hO4 ⊢
    refine Branch.no rfl ?_
    have hcl := (Dbm.close_clo h0 hC).len
    have hwo := fun w h => rwithout07_any N K ⟨by omega, by omega⟩ ⟨by omega, by omega⟩ a4 c4' C hcl w h
    apply CallI.use
    focus (exact fun w5 h5 => hwo w5 ((hO4.st (st.at h5 (fun x hx => by simp at hx <;> omega))).sl))
    rintro v w5 v5 h5 hB5 ⟨a5, c5, rfl, hO5⟩
    have st := st.next h5 (fun x hx => by simp at hx <;> omega) hB5
    exact EndI.mk fun w9 h9 => ⟨_, _, rfl, (hO5.at h9 (by intro b hb; simp at hb; rw [hb]; exact h5.lt b2 (by simp))).sl⟩
theorem rgrow07_any (n : Int) (a : Option Addr) (cap : Nat) (L : List Int) (hn : Dbm.int64 n) (hL : ∀ b, b ∈ L → Dbm.int64 b) (w : World) (hS : Sl w.heap.size w (.slice a L.length cap) L) :
    Calls Try.prog 8 #[.agg #[.int .i64 n, .slice a L.length cap]] w (Ret w fun v w' => ∃ a' cap', v = .tuple #[.agg #[.int .i64 (Proj.grow n L).1, .slice a' (Proj.grow n L).2.1.length cap'], .int .i64 (Proj.grow n L).2.2] ∧ Sl w'.heap.size w' (.slice a' (Proj.grow n L).2.1.length cap') (Proj.grow n L).2.1) := by
  refine fun_ret 0 w Try.func8 (args := [.agg [.val (.int .i64 n), .val (.slice a L.length cap)]]) rfl rfl ?_
  have st := Stay.first (w := w)
  refine NewI.mk fun b1 hb1 => ?_
  refine NewI.mk fun b2 hb2 => ?_
  apply CallI.use1
  focus (exact fun w3 h3 => rmay04_any n L hn hL a cap w3 (hS.st (st.at h3 (fun x hx => by simp at hx <;> omega))))
  intro w3 v3 h3 hB3
  have st := st.next h3 (fun x hx => by simp at hx <;> omega) hB3
  unfold Proj.grow
  refine Branch.mk (fun z1 => ?_) (fun z1 => ?_)
  · rw [if_neg (fun h => by rw [decide_eq_true h] at z1; cases z1)]
    exact EndI.mk fun w9 h9 => ⟨_, _, rfl, Sl.nil⟩
  have h0 : Dbm.chk n L = 0 := by simpa using z1
  obtain ⟨c1, c2, c3, c4⟩ := Dbm.chk_iff.1 h0
  rw [if_pos h0]
  refine Branch.mk (fun z2 => ?_) (fun z2 => ?_)
  · have : n = 4 := by have : 4 ≤ n := of_decide_eq_true z2
                       omega
    rw [if_pos this]
    exact EndI.mk fun w9 h9 => ⟨_, _, rfl, Sl.nil⟩
  have hn4 : ¬ 4 ≤ n := of_decide_eq_false z2
  rw [if_neg (by omega)]
  obtain ⟨N, rfl⟩ := Int.eq_ofNat_of_zero_le (a := n) (by omega)
  rw [Int.toNat_natCast]
  have hLN : L.length = N * N := by exact_mod_cast c3
  apply CallI.use
  focus (exact fun w5 h5 => rmore07_any N ⟨by omega, by omega⟩ a cap L hLN w5 (hS.st (st.at h5 (fun x hx => by simp at hx <;> omega))))
  rintro v w5 v5 h5 hB5 ⟨a5, c5, rfl, hF5⟩
  have st := st.next h5 (fun x hx => by simp at hx <;> omega) hB5
  exact EndI.mk fun w9 h9 => ⟨_, _, rfl, (hF5.at h9 (by intro b hb; simp at hb; rw [hb]; exact h5.lt b2 (by simp))).sl⟩
theorem rmove07_any (n : Int) (a : Option Addr) (cap : Nat) (L : List Int) (ao : Option Addr) (co : Nat) (O : List Int) (hn : Dbm.int64 n) (hL : ∀ b, b ∈ L → Dbm.int64 b) (w : World) (hS : Sl w.heap.size w (.slice a L.length cap) L) (hT : Sl w.heap.size w (.slice ao O.length co) O) :
    Calls Try.prog 10 #[.agg #[.int .i64 n, .slice a L.length cap], .slice ao O.length co] w (Ret w fun v w' => ∃ a' cap', v = .tuple #[.agg #[.int .i64 (Proj.move n L O).1, .slice a' (Proj.move n L O).2.1.length cap'], .int .i64 (Proj.move n L O).2.2] ∧ Sl w'.heap.size w' (.slice a' (Proj.move n L O).2.1.length cap') (Proj.move n L O).2.1) := by
  refine fun_ret 0 w Try.func10 (args := [.agg [.val (.int .i64 n), .val (.slice a L.length cap)], .val (.slice ao O.length co)]) rfl rfl ?_
  have st := Stay.first (w := w)
  refine NewI.mk fun b1 hb1 => ?_
  refine NewI.mk fun b2 hb2 => ?_
  apply CallI.use1
  focus (exact fun w3 h3 => rmay04_any n L hn hL a cap w3 (hS.st (st.at h3 (fun x hx => by simp at hx <;> omega))))
  intro w3 v3 h3 hB3
  have st := st.next h3 (fun x hx => by simp at hx <;> omega) hB3
  unfold Proj.move
  refine Branch.mk (fun z1 => ?_) (fun z1 => ?_)
  · rw [if_neg (fun h => by rw [decide_eq_true h] at z1; cases z1)]
    exact EndI.mk fun w9 h9 => ⟨_, _, rfl, Sl.nil⟩
  have h0 : Dbm.chk n L = 0 := by simpa using z1
  obtain ⟨c1, c2, c3, c4⟩ := Dbm.chk_iff.1 h0
  rw [if_pos h0]
  obtain ⟨N, rfl⟩ := Int.eq_ofNat_of_zero_le (a := n) (by omega)
  have hLN : L.length = N * N := by exact_mod_cast c3
  apply CallI.use1
  focus (exact fun w4 h4 => rmayorder_any N ⟨by omega, by omega⟩ ao co O w4 (hT.st (st.at h4 (fun x hx => by simp at hx <;> omega))))
  intro w4 v4 h4 hB4
  have st := st.next h4 (fun x hx => by simp at hx <;> omega) hB4
  refine Branch.mk (fun z2 => ?_) (fun z2 => ?_)
  · have : Proj.moveOk N O = false := by simpa using z2
    rw [if_neg (by rw [this]; simp)]
    exact EndI.mk fun w9 h9 => ⟨_, _, rfl, Sl.nil⟩
  have hok : Proj.moveOk N O = true := by simpa using z2
  rw [if_pos hok, Int.toNat_natCast]
  have hmv : (Proj.move N L O).2.2 = 0 := by unfold Proj.move; rw [if_pos h0, if_pos hok]
  obtain ⟨N', eN, _, hO, _⟩ := Proj.move_ok hmv
  have : N' = N := by omega
  subst this
  apply CallI.use
  focus (exact fun w5 h5 => rmoved07_any N' ⟨by omega, by omega⟩ a cap L hLN ao co O hO.len hO.lt w5 (hS.st (st.at h5 (fun x hx => by simp at hx <;> omega))) (hT.st (st.at h5 (fun x hx => by simp at hx <;> omega))))
  rintro v w5 v5 h5 hB5 ⟨a5, c5, rfl, hO5⟩
  have st := st.next h5 (fun x hx => by simp at hx <;> omega) hB5
  exact EndI.mk fun w9 h9 => ⟨_, _, rfl, (hO5.at h9 (by intro b hb; simp at hb; rw [hb]; exact h5.lt b2 (by simp))).sl⟩
end Go.Proofs.Ytodpgcdandechaa

/-
  Small laws of worlds that grow; a row of zones whose cells are numbers, whatever they are.
-/
namespace Go.Proofs.Ytodpgcdandechaa
set_option linter.unusedVariables false
set_option linter.unusedSimpArgs false
open Go.RowKit Go.Proofs.Ytodpgcdandechaa.Eng Enc

theorem setCell_neM {W : World} {B o k : Nat} {u : Value} (h : k ≠ B) : (W.setCell ⟨B, o, none⟩ u).heap[k]? = W.heap[k]? := Below.heap_setCell _ _ _ _ (by simpa using h)
theorem below_setCellM {n : Nat} {W X : World} {B o : Nat} {u : Value} (h : Below n W X) (hB : n ≤ B) : Below n W (X.setCell ⟨B, o, none⟩ u) :=
  ⟨h.os, h.tape, h.output, by simpa [World.setCell] using h.size, fun k hk => (setCell_neM (by omega)).trans (h.block k hk)⟩
theorem Own.setCellM {α : Type} [Enc α] {e : TypeId} {base : Nat} {W : World} {sv : Value} {l : List α} {B o : Nat} {u : Value} (h : Own e base W sv l) (hne : ∀ g, sv.ownBlock = some g → g ≠ B) : Own e base (W.setCell ⟨B, o, none⟩ u) sv l :=
  Own.kept (row := some B) h ⟨rfl, rfl, rfl, by simp [World.setCell], fun j hj hn => setCell_neM (fun e => hn (by rw [e]))⟩ (by
    cases ho : sv.ownBlock with
    | none => exact .inl rfl
    | some g => exact .inr (fun e => hne g ho (by injection e)))
theorem at_belowM {w0 : Base} {hp : List LB} {r L : List Nat} {w w1 : World} (h : At w0 hp r L w w1) (hL : ∀ b, b ∈ L → w.heap.size ≤ b) : Below w.heap.size w w1 :=
  ⟨h.below.os.trans h.base.os.symm, h.below.tape.trans h.base.tape.symm, h.below.output.trans h.base.output.symm, h.size, fun k hk => h.step k hk fun hm => by have := hL k hm; omega⟩
end Go.Proofs.Ytodpgcdandechaa

