/-
  The engine, gone on: a range over a function, and functions that hold one.
-/
import Derived.Test.YtdecibfnhceloaaGreatEng
import Derived.Test.YtdecibfnhceloaaGreatRegion
import Derived.RangeFuncNested
import Derived.RangeFuncWrites
import Derived.RangeFuncBound
namespace Go.Proofs.YtdecibfnhceloaaGreat.Eng
set_option linter.unusedVariables false
set_option linter.unusedSimpArgs false
open Go Go.RowKit Go.Shelf Go.Proofs

section
variable {cx : Cx} {w0 : Base}

theorem below_grown {X Y : World} (h : Below X.heap.size X Y) (row : Option Nat) : X.grownBy Y row := ⟨h.os, h.tape, h.output, h.size, fun k hk _ => h.block k hk⟩
theorem grown_from {X Y Z : World} {row : Option Nat} (h : X.grownBy Y row) (k : Below Y.heap.size Y Z) : X.grownBy Z row :=
  ⟨k.os.trans h.os, k.tape.trans h.tape, k.output.trans h.output, Nat.le_trans h.size k.size, fun i hi hne => (k.block i (Nat.lt_of_lt_of_le hi h.size)).trans (h.block i hi hne)⟩
theorem below_keepsFrom {X Y : World} (h : Below X.heap.size X Y) (B : Nat) : KeepsFrom B X Y := ⟨h.size, fun k o _ hk _ => (h.block k (Array.getElem?_eq_some_iff.1 hk).1).trans hk⟩

/-- codes within a round of a range over a function. -/
theorem codeD_round (hcx : CxOk cx) (l n : Nat) (c : Code) (K : Exit → St → Prop) (s : St) (a : Act) (w : World) (Q : Exit → Act → World → Prop)
    (h : codeD (Fence.wide.inRound l) n cx w0 c K s) (hR : Rel w0 s a w) (hQ : ∀ e s' a' w', K e s' → Rel w0 s' a' w' → Q e a' w') : c.wpIn (Fence.wide.inRound l) n cx.P Q a w :=
  codeD_sound hcx (fun _ => trivial) rfl (fun _ _ _ _ _ h => CallsIn.inRound l (callsIn_wide.2 h))
    (fun id ops a w Q hnd h => wpIn_region_any hcx.mix (wpAnyIn_of_wpAny (fun i o ho => (Array.all_eq_true'.1 hnd) o (Array.mem_of_getElem? ho)) (fun ⟨_, _, h⟩ => nomatch h.1) _ _ _ _ h)) c K s a w Q h hR hQ

def setP (fr : Fr) : List Nat → List Value → Fr
  | p :: ps, v :: vs => setP (fset fr p (.val v)) ps vs
  | _, _ => fr
def sets (t : Array Value) : List Nat → List Value → Array Value
  | p :: ps, v :: vs => sets (t.setIfInBounds p v) ps vs
  | _, _ => t
theorem sets_eq (ps : List Nat) (vs : List Value) (t : Array Value) : ((ps.toArray.zip vs.toArray).foldl (fun (t : Array Value) (x : Nat × Value) => t.setIfInBounds x.1 x.2) t) = sets t ps vs := by
  rw [List.zip_toArray, List.foldl_toArray]
  induction ps generalizing vs t with
  | nil => simp [sets]
  | cons p ps ih => cases vs with
    | nil => simp [sets]
    | cons v vs => simp only [List.zip_cons_cons, List.foldl_cons, sets]; exact ih _ _
theorem rel_sets {s : St} {a : Act} {w : World} (hR : Rel w0 s a w) (ps : List Nat) (vs : List Value) : Rel w0 { s with fr := setP s.fr ps vs } { a with tmps := sets a.tmps ps vs } w := by
  induction ps generalizing vs s a with
  | nil => cases vs <;> exact hR
  | cons p ps ih => cases vs with
    | nil => exact hR
    | cons v vs => exact ih (hR.put (some p) (v := v) (sv := .val v) fun _ => .inr rfl) vs

theorem grown_keep {s : St} {a : Act} {W W' : World} {B : Nat} {row : Option Nat} (hR : Rel w0 s a W) (hB : w0.B ≤ B) (hg : W.grownBy W' row)
    (hr : ∀ r, row = some r → B ≤ r ∧ ∃ o : Obj, W.heap[r]? = some o ∧ o.isCells = false) : Keep w0 s.r W W' := by
  refine ⟨⟨hg.os, hg.tape, hg.output, hg.size, fun k hk => hg.block k ?_ fun e => ?_⟩, fun b hb => hg.block b (hR.at_.lt b hb) fun e => ?_⟩
  · exact Nat.lt_of_lt_of_le hk (Nat.le_trans w0.le hR.at_.below.size)
  · have := (hr k e.symm).1; omega
  · obtain ⟨_, o, ho, hc⟩ := hr b e.symm
    obtain ⟨i, hi, hib⟩ := List.getElem_of_mem hb
    have hil : i < s.hp.length := by rw [← hR.len]; exact hi
    have h1 := hR.blk [] i b (s.hp[i]) (by rw [List.getElem?_eq_getElem hi, hib]) (by rw [hget_eq, List.getElem?_eq_getElem hil])
    rw [h1] at ho; injection ho with ho; subst ho; cases hc
theorem grown_of_at {s : St} {a a2 : Act} {W w1 : World} {s2 : St} (hR : Rel w0 s a W) (h : AtW w0 s2 w1) (hw : s2.w = W) (hL : s2.L = []) : W.grownBy w1 none :=
  ⟨h.below.os.trans hR.at_.below.os.symm, h.below.tape.trans hR.at_.below.tape.symm, h.below.output.trans hR.at_.below.output.symm, by rw [← hw]; exact h.size, fun k hk _ => by rw [← hw]; exact h.step k (by rw [hw]; exact hk) (by rw [hL]; simp)⟩

structure CovH (hp : List LB) (r : List Nat) (s : St) : Prop where
  chp : nfH s.r (s.hp.take r.length) = nfH s.r hp
  cr : s.r.take r.length = r
  wfh : wfH r.length hp = true

theorem covH_rel {s s2 : St} {a a2 : Act} {W w1 : World} {hp : List LB} (hR : Rel w0 s a W) (h2 : Rel w0 s2 a2 w1) (hc : CovH hp s.r s2) : Rel w0 ⟨s.fr, hp, s.r, [], w1, s.df⟩ a w1 := by
  obtain ⟨c2, c3, c5⟩ := hc
  have e : Rel w0 ⟨s2.fr.map fun _ => .junk, hp, s.r, [], w1, s2.df⟩ a2 w1 := by
    refine cov_rel h2 ⟨?_, c2, c3, ?_, c5, rfl⟩
    · generalize s2.fr = fr
      induction fr with
      | nil => trivial
      | cons b l ih => exact ih
    · generalize s2.fr = fr
      induction fr with
      | nil => rfl
      | cons b l ih => exact ih
  exact ⟨hR.df, hR.fits, ⟨e.at_.below, e.at_.size, e.at_.step, e.at_.blk, e.at_.fresh, e.at_.lt, e.at_.base⟩, e.blk, hR.nod, e.len⟩

def exitOf : Code → Option Exit
  | .ret => some .ret
  | .exit id => some (.exit id)
  | _ => none

/-- A RANGE OVER A FUNCTION, in the run. -/
theorem rangeD (hcx : CxOk cx) {n : Nat} (h1 : 1 ≤ n) {s : St} {a : Act} {w : World} (hR : Rel w0 s a w) {g : Operand} {ps : Array Tmp} {x y : Code} {K : Exit → St → Prop} {gf : Nat} {lb : Array Value}
    (hg : ev s.fr g = .val (.func (.func gf) #[] lb)) (eg : Enters cx.P gf)
    {α : Type} {encs : α → List Value} {Kp : World → World → Prop} {S Sp : List α → Prop} {N : Nat} (hseq : SeqStopsK Fence.wide (n - 1) cx.P gf lb (fun x => (encs x).toArray) Kp S Sp N w)
    (hKt : ∀ {A B C : World}, Kp A B → Kp B C → Kp A C) (hKb : ∀ (W : World) (l : Nat) (o o' : Obj), w.heap.size ≤ l → W.heap[l]? = some o → o.isCells = false → o.isWalk = false → Kp W (W.putObj l o'))
    (hKg : ∀ W W', w.heap.size ≤ W.heap.size → W.grownBy W' none → Kp W W') (hps : ∀ x, (encs x).length = ps.size)
    (hpf : List α → List LB) (Φ : List α → World → Prop) (hΦ : OwnFrom w.heap.size Φ) (hp0 : hpf [] = s.hp) (hΦ0 : Φ [] w)
    (Ix : Code → List α → World → Prop) (hpx : Code → List α → List LB) (hIx : ∀ c, OwnFrom w.heap.size (Ix c))
    (frx : α → Fr)
    (hassign : ∀ l z hp W, codeD (Fence.wide.inRound l) (n - 1 - 1) cx w0 x (fun e s' => e = .normal ∧ s' = ⟨frx z, hp, s.r, [], W, []⟩) ⟨setP s.fr ps.toList (encs z), hp, s.r, [], W, []⟩)
    (hbody : ∀ l pre x W, Φ pre W → Below w0.B w0.W W → w.heap.size ≤ W.heap.size → pre.length < N → codeD (Fence.wide.inRound l) (n - 1 - 1) cx w0 y
      (fun e s' => match e with
        | .normal => s'.on fun fr2 hp2 r2 L2 w2 df2 => Need (CovH (hpf (pre ++ [x])) s.r ⟨fr2, hp2, r2, L2, w2, df2⟩) (EndI w0 hp2 r2 L2 w2 undef fun _ w1 => KeepsFrom w.heap.size W w1 ∧ Kp W w1 ∧ Φ (pre ++ [x]) w1)
        | .ret => s'.on fun fr2 hp2 r2 L2 w2 df2 => Need (CovH (hpx .ret (pre ++ [x])) s.r ⟨fr2, hp2, r2, L2, w2, df2⟩) (EndI w0 hp2 r2 L2 w2 undef fun _ w1 => KeepsFrom w.heap.size W w1 ∧ Ix .ret (pre ++ [x]) w1)
        | .exit id => s'.on fun fr2 hp2 r2 L2 w2 df2 => Need (CovH (hpx (.exit id) (pre ++ [x])) s.r ⟨fr2, hp2, r2, L2, w2, df2⟩) (EndI w0 hp2 r2 L2 w2 undef fun _ w1 => KeepsFrom w.heap.size W w1 ∧ Ix (.exit id) (pre ++ [x]) w1)
        | _ => False) ⟨frx x, hpf pre, s.r, [], W, []⟩)
    (hdone : ∀ D xs W, w.heap.size ≤ D → S xs → Φ xs W → W.heap[D]? = some (.deferred (some [])) → K .normal ⟨s.fr, hpf xs, s.r, [], W, { target := .collected D, args := #[] } :: s.df⟩)
    (hstop : ∀ D c e pre W, w.heap.size ≤ D → Sp pre → Ix c pre W → exitOf c = some e → W.heap[D]? = some (.deferred (some [])) → K e ⟨s.fr, hpx c pre, s.r, [], W, { target := .collected D, args := #[] } :: s.df⟩) :

    (Code.rangeFunc g ps x y).wpIn Fence.wide n cx.P (fun e a' w' => ∃ s', Rel w0 s' a' w' ∧ K e s') a w := by

  have hev := hR.ev1 hg (by simp) []
  simp only [SV.den] at hev
  have hB : w0.B ≤ w.heap.size := Nat.le_trans w0.le hR.at_.below.size
  have ownR : ∀ (hpg : List α → List LB), OwnFrom w.heap.size (fun pre W => Rel w0 ⟨s.fr, hpg pre, s.r, [], W, s.df⟩ a W) := fun hpg pre W W' row h hgr hr =>
    h.keep (grown_keep h hB hgr hr)
  have withD : ∀ {hp : List LB} {W : World} (D : Nat), Rel w0 ⟨s.fr, hp, s.r, [], W, s.df⟩ a W → Rel w0 ⟨s.fr, hp, s.r, [], W, { target := .collected D, args := #[] } :: s.df⟩ { a with defers := { target := .collected D, args := #[] } :: a.defers } W := fun {hp} {W} D h =>
    ⟨congrArg (_ :: ·) h.df, h.fits, ⟨h.at_.below, h.at_.size, h.at_.step, h.at_.blk, h.at_.fresh, h.at_.lt, h.at_.base⟩, h.blk, h.nod, h.len⟩
  have inner : ∀ {hp : List LB} {W : World} {a' : Act} {fr : Fr}, Rel w0 ⟨s.fr, hp, s.r, [], W, s.df⟩ a W → a'.defers = [] → (∀ t, Fits (s.r ++ t) fr a'.tmps) → Rel w0 ⟨fr, hp, s.r, [], W, []⟩ a' W := fun {hp} {W} {a'} {fr} h hd hf =>
    ⟨hd, hf, ⟨h.at_.below, h.at_.size, h.at_.step, h.at_.blk, h.at_.fresh, h.at_.lt, h.at_.base⟩, h.blk, h.nod, h.len⟩
  refine wpIn_rangeFunc_ownH rfl h1 hev trivial eg hseq hKt hKb (Below.refl _ _) (fun x => by simp [hps]) (fun pre W => Rel w0 ⟨s.fr, hpf pre, s.r, [], W, s.df⟩ a W ∧ w.heap.size ≤ W.heap.size ∧ Φ pre W)
    (fun c pre W => (∃ e, exitOf c = some e) ∧ Rel w0 ⟨s.fr, hpx c pre, s.r, [], W, s.df⟩ a W ∧ Ix c pre W)
    ?_ ?_ ?_ (fun x a' _ => a'.defers = [] ∧ ∀ t, Fits (s.r ++ t) (frx x) a'.tmps) (fun _ _ _ _ _ _ h _ _ => h) ?_ ?_ ?_ ?_
  · exact fun pre W W' row h hgr hr => ⟨ownR hpf pre W W' row h.1 hgr hr, Nat.le_trans h.2.1 hgr.size, hΦ pre W W' row h.2.2 hgr hr⟩
  · exact fun c pre W W' row h hgr hr => ⟨h.1, ownR (hpx c) pre W W' row h.2.1 hgr hr, hIx c pre W W' row h.2.2 hgr hr⟩
  · have h0 := hR.keep keep_refl
    refine ⟨?_, Nat.le_refl _, hΦ0⟩
    rw [hp0]; exact h0
  · intro l pre z W K' hI hK
    have hr1 := rel_sets (w0 := w0) (s := ⟨s.fr, hpf pre, s.r, [], W, []⟩) (a := ⟨a.tmps, []⟩) (inner hI.1 rfl hI.1.fits) ps.toList (encs z)
    have e1 : (ps.zip (encs z).toArray).foldl (fun (t : Array Value) (x : Nat × Value) => t.setIfInBounds x.1 x.2) a.tmps = sets a.tmps ps.toList (encs z) := by
      rw [← sets_eq]
    show x.wpIn _ _ _ _ ({ tmps := (ps.zip (encs z).toArray).foldl (fun (t : Array Value) (x : Nat × Value) => t.setIfInBounds x.1 x.2) a.tmps, defers := [] } : Act) W
    rw [e1]
    refine codeD_round hcx l _ _ _ _ _ W _ (hassign l z (hpf pre) W) hr1 ?_
    rintro e s' a' W' ⟨rfl, rfl⟩ hR'
    have hgr := grown_of_at (a2 := a) hI.1 hR'.at_ rfl rfl
    refine hK a' W' ⟨hgr.size, fun k o _ hk _ => (hgr.block k (Array.getElem?_eq_some_iff.1 hk).1 (by simp)).trans hk⟩ (hKg W W' hI.2.1 hgr) ⟨ownR hpf pre W W' none hI.1 hgr (by simp), Nat.le_trans hI.2.1 hgr.size, hΦ pre W W' none hI.2.2 hgr (by simp)⟩ ⟨hR'.df, hR'.fits⟩
  · intro l pre x a' W _ _ hI hA hN
    refine codeD_round hcx l _ y _ _ _ W _ (hbody l pre x W hI.2.2 hI.1.at_.below hI.2.1 hN) (inner hI.1 hA.1 hA.2) ?_
    intro e s' a2 w1 hK hR'
    cases e with
    | normal =>
      simp only [St.on_eq] at hK
      obtain ⟨h1, h2⟩ := hK
      obtain ⟨h3, h4, h5⟩ := h2.h w1 hR'.at_
      exact ⟨h3, h4, covH_rel (s := ⟨s.fr, hpf pre, s.r, [], W, s.df⟩) hI.1 hR' h1, Nat.le_trans hI.2.1 h3.size, h5⟩
    | ret =>
      simp only [St.on_eq] at hK
      obtain ⟨h1, h2⟩ := hK
      obtain ⟨h3, h5⟩ := h2.h w1 hR'.at_
      exact ⟨h3, ⟨_, rfl⟩, covH_rel (s := ⟨s.fr, hpf pre, s.r, [], W, s.df⟩) hI.1 hR' h1, h5⟩
    | exit id =>
      simp only [St.on_eq] at hK
      obtain ⟨h1, h2⟩ := hK
      obtain ⟨h3, h5⟩ := h2.h w1 hR'.at_
      exact ⟨h3, ⟨_, rfl⟩, covH_rel (s := ⟨s.fr, hpf pre, s.r, [], W, s.df⟩) hI.1 hR' h1, h5⟩
    | goto l => exact hK.elim
    | panic ch => exact hK.elim
    | outgrown => exact hK.elim
  · intro D xs W hD hS hI hd
    exact ⟨_, withD D hI.1, hdone D xs W hD hS hI.2.2 hd⟩
  · intro D c pre W hD hS hI hd
    obtain ⟨⟨e, he⟩, hRx, hix⟩ := hI
    have hk := hstop D c e pre W hD hS hix he hd
    cases c <;> simp only [exitOf] at he <;> try (cases he; done)
    · injection he with he; subst he; exact wpIn_exit ⟨_, withD D hRx, hk⟩
    · injection he with he; subst he; exact wpIn_ret ⟨_, withD D hRx, hk⟩
/-! ### functions -/
def unmark (w : World) (D : Nat) (w2 : World) : Prop := w2.heap.size = w.heap.size ∧ w2.os = w.os ∧ w2.tape = w.tape ∧ w2.output = w.output ∧ ∀ k, k ≠ D → w2.heap[k]? = w.heap[k]?
structure EndM (w0 : Base) (hp : List LB) (r L : List Nat) (w : World) (D : Nat) (v : Value) (R : Value → World → Prop) : Prop where
  h : ∀ w1, At w0 hp r L w w1 → (w0.B ≤ D ∧ w1.heap[D]? = some (.deferred (some []))) ∧ ∀ w2, unmark w1 D w2 → R v w2
/-- a function's end: its results; one mark of a range over a function may be left. -/
def finM (cx : Cx) (w0 : Base) (res : List ResultVar) (R : Value → World → Prop) (s : St) : Prop :=
  s.on fun fr hp r L w df => match df, resD cx ⟨fr, hp, r, L, w, df⟩ res with
    | [], some [v] => denK r v fun v => EndI w0 hp r L w v R
    | [], some l => denLK r l fun vs => EndI w0 hp r L w (.tuple vs.toArray) R
    | [⟨.collected D, _⟩], some [v] => denK r v fun v => EndM w0 hp r L w D v R
    | [⟨.collected D, _⟩], some l => denLK r l fun vs => EndM w0 hp r L w D (.tuple vs.toArray) R
    | _, _ => False
def endM (cx : Cx) (w0 : Base) (fn : Func) (R : Value → World → Prop) : Exit → St → Prop
  | .normal, s => finM cx w0 fn.results.toList R s
  | .ret, s => finM cx w0 fn.results.toList R s
  | _, _ => False
/-- a function's run; n: how deep a range over a function may go. -/
def funM (n : Nat) (cx : Cx) (w0 : Base) (fn : Func) (args : List SV) (R : Value → World → Prop) : Prop :=
  match fn.body with
  | some c => force (args ++ List.replicate (fn.ntmps - args.length) (.val undef)) fun fr => codeD Fence.wide n cx w0 c (endM cx w0 fn R) ⟨fr, [], [], [], w0.W, []⟩
  | none => False

theorem finM_sound {n : Nat} (hcx : CxOk cx) {fn : Func} {R : Value → World → Prop} {s : St} {a : Act} {w : World} (h : finM cx w0 fn.results.toList R s) (hR : Rel w0 s a w) :
    LeavesInM Fence.wide n cx.P fn a.tmps (fun e w' => ∃ v, e = .returned v ∧ Below w0.B w0.W w' ∧ R v w') a.defers .returning w := by
  unfold finM at h
  rw [St.on_eq] at h
  have key : ∀ {w2 : World} {s2 : St}, Rel w0 s2 a w2 → s2.fr = s.fr → s2.hp = s.hp → s2.r = s.r → ∀ r, resD cx s fn.results.toList = some r → (results fn a.tmps).run cx.P w2 = .ok (if h : (denL s.r r).toArray.size = 1 then (denL s.r r).toArray[0] else .tuple (denL s.r r).toArray) w2 := fun {w2} {s2} hR2 e1 e2 e3 r hr => by
    have hr2 : resD cx s2 fn.results.toList = some r := by
      rw [← hr]
      generalize fn.results.toList = l
      have one : ∀ x, resV cx s2 x = resV cx s x := fun x => by cases x <;> simp [resV, e1, e2]
      induction l with
      | nil => rfl
      | cons x l ih => simp only [resD, one, ih]
    have h1 := resD_sound hcx hR2 hr2
    rw [results_eq, ← Array.toArray_toList (xs := fn.results), List.mapM_toArray]
    simp only [Sem.run_bind, map_eq_pure_bind, h1, Result.andThen, Sem.run_pure, e3]
  have two : ∀ l, (∀ v, l ≠ [v]) → ¬ (denL s.r l).toArray.size = 1 := fun l hne e => by
    match l, hne with
    | [], hne => simp [denL] at e
    | [v], hne => exact hne v rfl
    | a :: b :: l, hne => simp [denL] at e
  have leaves0 : ∀ {w2 : World} {v : Value}, (results fn a.tmps).run cx.P w2 = .ok v w2 → Below w0.B w0.W w2 → R v w2 → LeavesInM Fence.wide n cx.P fn a.tmps (fun e w' => ∃ v, e = .returned v ∧ Below w0.B w0.W w' ∧ R v w') [] .returning w2 := fun {w2} {v} h1 h2 h3 =>
    ⟨v, h1, v, rfl, h2, h3⟩
  have leaves1 : ∀ {D : Nat} {ar : Array Value} {v : Value} {l : List SV}, s.df = [⟨.collected D, ar⟩] → resD cx s fn.results.toList = some l → (if h : (denL s.r l).toArray.size = 1 then (denL s.r l).toArray[0] else .tuple (denL s.r l).toArray) = v →
      ((w0.B ≤ D ∧ w.heap[D]? = some (.deferred (some []))) ∧ ∀ w2, unmark w D w2 → R v w2) →
      LeavesInM Fence.wide n cx.P fn a.tmps (fun e w' => ∃ v, e = .returned v ∧ Below w0.B w0.W w' ∧ R v w') a.defers .returning w := fun {D} {ar} {v} {l} hdf hr hv hD => by
    rw [hR.df, hdf]
    obtain ⟨⟨hw0, hcell⟩, hR2⟩ := hD
    refine ⟨by simp, .inl ⟨_, _, rfl, run_takeDeferred hcell, ?_⟩⟩
    have hoth : ∀ (o : Obj) k, k ≠ D → (w.putObj D o).heap[k]? = w.heap[k]? := fun o k hk => World.putObj_heap_other hk
    have hun : ∀ o : Obj, unmark w D (w.putObj D o) := fun o => ⟨by simp [World.putObj], rfl, rfl, rfl, hoth o⟩
    have hbl : ∀ o : Obj, Keep w0 s.r w (w.putObj D o) := fun o => ⟨⟨rfl, rfl, rfl, by simp [World.putObj], fun k hk => hoth o k (by omega)⟩, fun b hb => hoth o b (by
      rintro rfl
      obtain ⟨i, hi, hib⟩ := List.getElem_of_mem hb
      have hil : i < s.hp.length := by rw [← hR.len]; exact hi
      have h1 := hR.blk [] i b (s.hp[i]) (by rw [List.getElem?_eq_getElem hi, hib]) (by rw [hget_eq, List.getElem?_eq_getElem hil])
      rw [h1] at hcell; cases hcell)⟩
    have hRk := hR.keep (hbl (.deferred none))
    refine leaves0 (v := v) ?_ hRk.at_.below (hR2 _ (hun _))
    rw [key hRk rfl rfl rfl l hr, hv]
  split at h
  · rename_i v hdf hr
    rw [denK_eq] at h
    rw [hR.df.trans hdf]
    refine leaves0 (v := v.den s.r) ?_ hR.at_.below (h.h w hR.at_)
    rw [key hR rfl rfl rfl _ hr]; rfl
  · rename_i l hne hdf hr
    rw [denLK_eq] at h
    rw [hR.df.trans hdf]
    refine leaves0 (v := .tuple (denL s.r l).toArray) ?_ hR.at_.below (h.h w hR.at_)
    rw [key hR rfl rfl rfl _ hr, dif_neg (two l hne)]
  · rename_i D ar v hdf hr
    rw [denK_eq] at h
    exact leaves1 hdf hr rfl (h.h w hR.at_)
  · rename_i D ar l hne hdf hr
    rw [denLK_eq] at h
    exact leaves1 hdf hr (dif_neg (two l hne)) (h.h w hR.at_)
  · exact h.elim

/-- A FUNCTION's CONTRACT OUT OF ITS RUN, from a world behind w0. -/
theorem funM_sound (n : Nat) (hcx : CxOk cx) (w0 : Base) {f : FuncId} {fn : Func} {args : List SV} {R : Value → World → Prop} (hf : cx.P.funcs[f]? = some fn)
    (hj : junkyL args = false) (hwf : wfL 0 args = true) (h : funM n cx w0 fn args R) :
    Calls cx.P f (denL [] args).toArray w0.W fun e w' => ∃ v, e = .returned v ∧ Below w0.B w0.W w' ∧ R v w' := by
  unfold funM at h
  split at h
  · rename_i c hb
    rw [force_eq] at h
    refine (callsIn_wide (n := n)).1 (callsIn_of_wp_marks hf hb trivial ?_ rfl)
    have hwide : ∀ (n : Nat) g args w (R : Ending → World → Prop), Calls cx.P g args w R → CallsIn Fence.wide n cx.P g args w R := fun n g args w R h => callsIn_wide.2 h
    have hlen : (denL [] args).toArray.size = args.length := by simp [denL_len]
    have hrel : Rel w0 ⟨args ++ List.replicate (fn.ntmps - args.length) (.val undef), [], [], [], w0.W, []⟩ { tmps := (denL [] args).toArray ++ Array.replicate (fn.ntmps - (denL [] args).toArray.size) undef, defers := [] } w0.W := by
      refine ⟨rfl, fun t => ⟨by simp [denL_len], fun i => ?_⟩, ⟨Below.refl _ _, Nat.le_refl _, fun _ _ _ => rfl, fun i b c hi _ => (by simp at hi), fun b hb => (by cases hb), fun b hb => (by cases hb), Below.refl _ _⟩, fun t i b c hi _ => (by simp at hi), List.nodup_nil, rfl⟩
      right
      rw [hlen]
      have hg : ∀ (l : List SV) i, fget l i = (l[i]?).getD (.val undef) := fun l i => by
        induction l generalizing i with
        | nil => simp [fget]
        | cons a l ih => cases i <;> simp [fget, ih]
      show _ = (fget (args ++ List.replicate (fn.ntmps - args.length) (.val undef)) i).den ([] ++ t)
      rw [hg, Array.getD_eq_getD_getElem?]
      rcases Nat.lt_or_ge i args.length with hi | hi
      · rw [Array.getElem?_append_left (by simpa [denL_len] using hi), List.getElem?_append_left hi]
        have h1 := wfL_get hwf i
        rw [hg, List.getElem?_eq_getElem hi] at h1
        simp only [Option.getD_some] at h1
        simp only [List.getElem?_toArray, denL_eq, List.getElem?_map, List.getElem?_eq_getElem hi, Option.map_some, Option.getD_some]
        exact SV.den_wf (fun j hj => absurd hj (Nat.not_lt_zero j)) _ h1
      · rw [Array.getElem?_append_right (by simpa [denL_len] using hi), List.getElem?_append_right hi]
        simp only [List.size_toArray, denL_len, List.getElem?_replicate, Array.getElem?_replicate]
        split <;> rfl
    refine codeD_sound hcx (fun _ => trivial) rfl hwide (fun id ops a w Q _ h => wpIn_wide.2 (wp_region_any hcx.mix h)) c _ _ _ _ _ h hrel fun e s' a' w' hK hR' => ?_
    cases e with
    | normal => exact finM_sound hcx hK hR'
    | ret => exact finM_sound hcx hK hR'
    | exit id => exact hK.elim
    | goto l => exact hK.elim
    | panic ch => exact hK.elim
    | outgrown => exact hK.elim
  · exact h.elim
end
end Go.Proofs.YtdecibfnhceloaaGreat.Eng
