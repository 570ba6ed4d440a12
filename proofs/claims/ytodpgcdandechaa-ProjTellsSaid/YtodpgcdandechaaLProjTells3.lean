/-
  Merged texts of this law (each with its own head below).
-/
import Derived.Test.YtodpgcdandechaaLProjTells2
import Derived.Laws.AppendOwnNone
import Derived.Laws.OwnMore
import Derived.Test.YtodpgcdandechaaLProjTells1
import Derived.Deep.Slices
import Derived.OpenShut
import Derived.Laws.BitsLemmas
import Derived.Deep.QuietTactic
import Derived.BigQuiet
import Derived.WalkSmall
import Derived.Lib.SliceRun
import Derived.Below
import Derived.RangeFuncNested
import Derived.RangeFuncBound
import Derived.RangeFuncCalls
import Derived.RangeFuncLeaves
import Derived.RangeFuncWrites
import Derived.RangeFuncBox
import Derived.Shelf.Abstract
import Derived.Shelf.RegionOpen
import Derived.OwnWalkIn
import Derived.TacticsInMore
import Derived.LoopNIn
import Derived.LoopIn
import Derived.IntWalk
/-
  How the engine is used: the ways out of each of its stops, and a function's contract.
-/
namespace Go.Proofs.Ytodpgcdandechaa.Eng
set_option linter.unusedVariables false
set_option linter.unusedSimpArgs false
open Go Go.RowKit Go.Shelf Go.Proofs

/-- a call's end: it has returned, nothing that was there has turned, and R. -/
def Ret (W : World) (R : Value → World → Prop) (e : Ending) (w' : World) : Prop := ∃ v, e = .returned v ∧ Below W.heap.size W w' ∧ R v w'

section
variable {P : Program} {w0 : Base} {kp : List Nat → World → World → Prop} {g : FuncId} {args : Array Value} {hp : List LB} {r L : List Nat} {w : World} {K : Value → World → Prop}

/-- a call that answers x. -/
theorem CallI.to1 [hkp : KpOk w0 kp] {x : Value} (hc : ∀ w1, Calls P g args w1 fun e w2 => e = .returned x ∧ Below w1.heap.size w1 w2) (hk : ∀ w2, K x w2) : CallI P w0 kp g args hp r L w K :=
  ⟨fun w1 h1 => (hc w1).mono fun e w2 ⟨he, hB⟩ => ⟨hkp.ok h1 hB, x, he, hk w2⟩⟩
theorem CallI.use1 [hkp : KpOk w0 kp] {x : Value} (hc : ∀ w1, At w0 hp r L w w1 → Calls P g args w1 fun e w2 => e = .returned x ∧ Below w1.heap.size w1 w2) (hk : ∀ w1 w2, At w0 hp r L w w1 → Below w1.heap.size w1 w2 → K x w2) : CallI P w0 kp g args hp r L w K :=
  ⟨fun w1 h1 => (hc w1 h1).mono fun e w2 ⟨he, hB⟩ => ⟨hkp.ok h1 hB, x, he, hk w1 w2 h1 hB⟩⟩
/-- a call that answers x and leaves the world alone. -/
theorem CallI.to0 [hkp : KpOk w0 kp] {x : Value} (hc : ∀ w1, Calls P g args w1 fun e w2 => e = .returned x ∧ w1 = w2) (hk : ∀ w2, K x w2) : CallI P w0 kp g args hp r L w K :=
  ⟨fun w1 h1 => (hc w1).mono fun e w2 ⟨he, hB⟩ => ⟨hkp.ok h1 (hB ▸ Below.refl _ _), x, he, hk w2⟩⟩
/-- a call that answers some value. -/
theorem CallI.use [hkp : KpOk w0 kp] {R : World → Value → World → Prop} (hc : ∀ w1, At w0 hp r L w w1 → Calls P g args w1 (Ret w1 (R w1))) (hk : ∀ v w1 w2, At w0 hp r L w w1 → Below w1.heap.size w1 w2 → R w1 v w2 → K v w2) : CallI P w0 kp g args hp r L w K :=
  ⟨fun w1 h1 => (hc w1 h1).mono fun e w2 ⟨v, he, hB, hR⟩ => ⟨hkp.ok h1 hB, v, he, hk v w1 w2 h1 hB hR⟩⟩
theorem GenV.to [hkp : KpOk w0 kp] {m : Sem Value} {x : Value} (hc : ∀ w1, m.run P w1 = .ok x w1) (hk : ∀ w1, At w0 hp r L w w1 → K x w1) : GenV P w0 kp m hp r L w K :=
  ⟨fun w1 h1 => ⟨x, w1, hc w1, hkp.ok h1 (Below.refl _ _), hk w1 h1⟩⟩
theorem GenN.to [hkp : KpOk w0 kp] {m : Sem Next} {x : Value} (hc : ∀ w1, m.run P w1 = .ok (.value x) w1) (hk : ∀ w1, At w0 hp r L w w1 → K x w1) : GenN P w0 kp m hp r L w K :=
  ⟨fun w1 h1 => ⟨x, w1, hc w1, hkp.ok h1 (Below.refl _ _), hk w1 h1⟩⟩
end
theorem Branch.yes {b : Bool} {p q : Prop} (hb : b = true) (h : p) : Branch b p q := ⟨fun _ => h, fun e => by rw [hb] at e; cases e⟩
theorem Branch.no {b : Bool} {p q : Prop} (hb : b = false) (h : q) : Branch b p q := ⟨fun e => (by rw [hb] at e; cases e), fun _ => h⟩
theorem LoopI.inv {w0 : Base} {body : (Exit → St → Prop) → St → Prop} {cb : Code} {K : Exit → St → Prop} {fr : Fr} {hp : List LB} {r L : List Nat} {w : World} {df : List Deferred}
    {α : Type} (vals : α → List (Nat × SV)) (hpf : α → List LB) (wd : α → World) (Φ : α → Prop) (μ : α → Nat)
    (h0 : ∀ w1, At w0 hp r L w w1 → ∃ x, headK cb (vals x) fr (fun fr' => Cov fr' (hpf x) r df ⟨fr, hp, r, L, w, df⟩) ∧ wd x = w1 ∧ Φ x)
    (h1 : ∀ x, Φ x → headK cb (vals x) fr fun fr' => body
        (fun e s2 => match e with
          | .normal => s2.on fun fr2 hp2 r2 L2 w2 df2 => EndI w0 hp2 r2 L2 w2 undef fun _ w1 => ∃ y, headK cb (vals y) fr (fun fr' => Cov fr' (hpf y) r df ⟨fr2, hp2, r2, L2, w2, df2⟩) ∧ wd y = w1 ∧ Φ y ∧ μ y < μ x
          | e => K e s2) ⟨fr', hpf x, r, [], wd x, df⟩) : LoopI w0 body cb K ⟨fr, hp, r, L, w, df⟩ := ⟨0, α, vals, hpf, wd, Φ, μ, h0, h1⟩
/-- where the run's own blocks stay as they are. -/
theorem LoopI.invC {w0 : Base} {body : (Exit → St → Prop) → St → Prop} {cb : Code} {K : Exit → St → Prop} {fr : Fr} {hp : List LB} {r L : List Nat} {w : World} {df : List Deferred}
    {α : Type} (vals : α → List (Nat × SV)) (wd : α → World) (Φ : α → Prop) (μ : α → Nat)
    (h0 : ∀ w1, At w0 hp r L w w1 → ∃ x, headK cb (vals x) fr (fun fr' => Cov fr' hp r df ⟨fr, hp, r, L, w, df⟩) ∧ wd x = w1 ∧ Φ x)
    (h1 : ∀ x, Φ x → headK cb (vals x) fr fun fr' => body
        (fun e s2 => match e with
          | .normal => s2.on fun fr2 hp2 r2 L2 w2 df2 => EndI w0 hp2 r2 L2 w2 undef fun _ w1 => ∃ y, headK cb (vals y) fr (fun fr' => Cov fr' hp r df ⟨fr2, hp2, r2, L2, w2, df2⟩) ∧ wd y = w1 ∧ Φ y ∧ μ y < μ x
          | e => K e s2) ⟨fr', hp, r, [], wd x, df⟩) : LoopI w0 body cb K ⟨fr, hp, r, L, w, df⟩ := ⟨0, α, vals, fun _ => hp, wd, Φ, μ, h0, h1⟩
/-- a region that draws its order, and writes no block that there was. -/
theorem DrawI.go {cx : Cx} {w0 : Base} {ops : Array Oper} {K : St → Prop} {fr : Fr} {hp : List LB} {r L : List Nat} {w : World} {df : List Deferred} (sched : Sch) (hs : schedAll ops sched = true)
    (h : ∀ w1, At w0 hp r L w w1 → drawD cx w0 w1 [] [] r.length ops.toList K sched ⟨fr, hp, r, [], w1, df⟩) : DrawI cx w0 ops K fr hp r L w df :=
  ⟨sched, [], [], hs, rfl, fun w1 h1 => ⟨fun _ _ => by simp, h w1 h1⟩⟩
/-- and writes blocks of the run's own (by their numbers), and others. -/
theorem DrawI.wr {cx : Cx} {w0 : Base} {ops : Array Oper} {K : St → Prop} {fr : Fr} {hp : List LB} {r L : List Nat} {w : World} {df : List Deferred} (sched : Sch) (Ml Mf : List Nat) (hs : schedAll ops sched = true) (hl : ltAll r.length Ml = true)
    (hf : ∀ b, b ∈ r → b ∉ Mf) (h : ∀ w1, At w0 hp r L w w1 → force (locs r Ml ++ Mf) fun M => drawD cx w0 w1 M Ml r.length ops.toList K sched ⟨fr, hp, r, [], w1, df⟩) : DrawI cx w0 ops K fr hp r L w df :=
  ⟨sched, Ml, Mf, hs, hl, fun w1 h1 => ⟨hf, h w1 h1⟩⟩

/-- A FUNCTION's CONTRACT: out of its run. -/
theorem fun_ret (n : Nat) {f : FuncId} {fn : Func} {args : List SV} {R : Value → World → Prop} (w : World) (hf : Try.prog.funcs[f]? = some fn)
    (hj : junkyL args = false) (hwf : wfL 0 args = true) (h : funM n Ytodpgcdandechaa.cx ⟨w, w.heap.size, Nat.le_refl _⟩ fn args R) : Calls Try.prog f (denL [] args).toArray w (Ret w R) :=
  funM_sound n cxOk ⟨w, w.heap.size, Nat.le_refl _⟩ hf hj hwf h
/-- nothing below B has turned. -/
theorem fun_at (n : Nat) {f : FuncId} {fn : Func} {args : List SV} {R : Value → World → Prop} (B : Nat) (w : World) (hB : B ≤ w.heap.size) (hf : Try.prog.funcs[f]? = some fn)
    (hj : junkyL args = false) (hwf : wfL 0 args = true) (h : funM n Ytodpgcdandechaa.cx ⟨w, B, hB⟩ fn args R) : Calls Try.prog f (denL [] args).toArray w fun e w' => ∃ v, e = .returned v ∧ Below B w w' ∧ R v w' :=
  funM_sound n cxOk ⟨w, B, hB⟩ hf hj hwf h
theorem fun_eq (n : Nat) {f : FuncId} {fn : Func} {args : List SV} {x : Value} (w : World) (hf : Try.prog.funcs[f]? = some fn)
    (hj : junkyL args = false) (hwf : wfL 0 args = true) (h : funM n Ytodpgcdandechaa.cx ⟨w, w.heap.size, Nat.le_refl _⟩ fn args fun v _ => v = x) : Calls Try.prog f (denL [] args).toArray w fun e w' => e = .returned x ∧ Below w.heap.size w w' :=
  (fun_ret n w hf hj hwf h).mono fun e w' ⟨v, he, hB, hv⟩ => ⟨hv ▸ he, hB⟩
/-- yield, with what the caller's round does. -/
theorem YieldI.to {F : Fence} {n : Nat} {P : Program} {w0 : Base} {l : Nat} {args : List Value} {hp : List LB} {r L : List Nat} {w : World} {K : Value → World → Prop} (h : ∀ w1, At w0 hp r L w w1 → YieldAt F (n - 1) P l args.toArray w1 fun e w2 => ∃ v, e = .returned v ∧ Below w0.B w0.W w2 ∧ K v w2) : YieldI F n P w0 l args hp r L w K := ⟨h⟩
/-- the like where int's operations are taken as they are: wrapped. -/
noncomputable def cxW : Cx := { Ytodpgcdandechaa.cx with wr := true }
theorem cxWOk : CxOk cxW := ⟨cxOk.mix, cxOk.T, cxOk.fld, cxOk.el, cxOk.sl, cxOk.ik, cxOk.bo, cxOk.ar, cxOk.fv, cxOk.lay, cxOk.fn⟩
theorem fun_retW (n : Nat) {f : FuncId} {fn : Func} {args : List SV} {R : Value → World → Prop} (w : World) (hf : Try.prog.funcs[f]? = some fn)
    (hj : junkyL args = false) (hwf : wfL 0 args = true) (h : funM n cxW ⟨w, w.heap.size, Nat.le_refl _⟩ fn args R) : Calls Try.prog f (denL [] args).toArray w (Ret w R) :=
  funM_sound n cxWOk ⟨w, w.heap.size, Nat.le_refl _⟩ hf hj hwf h
theorem fun_eqW (n : Nat) {f : FuncId} {fn : Func} {args : List SV} {x : Value} (w : World) (hf : Try.prog.funcs[f]? = some fn)
    (hj : junkyL args = false) (hwf : wfL 0 args = true) (h : funM n cxW ⟨w, w.heap.size, Nat.le_refl _⟩ fn args fun v _ => v = x) : Calls Try.prog f (denL [] args).toArray w fun e w' => e = .returned x ∧ Below w.heap.size w w' :=
  (fun_retW n w hf hj hwf h).mono fun e w' ⟨v, he, hB, hv⟩ => ⟨hv ▸ he, hB⟩
end Go.Proofs.Ytodpgcdandechaa.Eng

/-
  Lists in memory: how a slice shows a list, rows of the run's own, and how the engine reads and lengthens them.
-/
namespace Go.Proofs.Ytodpgcdandechaa
set_option linter.unusedVariables false
set_option linter.unusedSimpArgs false
open Go.RowKit Go.Proofs.Ytodpgcdandechaa.Eng

/-- how an element lies in memory: its cells. -/
class Enc (α : Type) where
  enc : α → List Value
  size : Nat
  len : ∀ x, (enc x).length = size
  pos : 0 < size
  one : ∀ x, ∀ v ∈ enc x, v.oneCell' = true
  val : α → Value
open Enc
instance encInt : Enc Int := ⟨fun n => [.int .i64 n], 1, fun _ => rfl, by decide, fun _ v hv => by rw [List.mem_singleton.1 hv]; rfl, fun n => .int .i64 n⟩
/-- a fraction; a zone's six bounds. -/
structure Rt where
  num : Int
  den : Int
deriving DecidableEq
structure Zn where
  a : Int
  b : Int
  c : Int
  d : Int
  e : Int
  f : Int
deriving DecidableEq
instance encRt : Enc Rt := ⟨fun x => [.int .i64 x.num, .int .i64 x.den], 2, fun _ => rfl, by decide, fun _ v hv => by simp only [List.mem_cons, List.not_mem_nil, or_false] at hv; rcases hv with rfl | rfl <;> rfl, fun x => .agg #[.int .i64 x.num, .int .i64 x.den]⟩
instance encZn : Enc Zn := ⟨fun x => [.int .i64 x.a, .int .i64 x.b, .int .i64 x.c, .int .i64 x.d, .int .i64 x.e, .int .i64 x.f], 6, fun _ => rfl, by decide,
  fun _ v hv => by simp only [List.mem_cons, List.not_mem_nil, or_false] at hv; rcases hv with rfl | rfl | rfl | rfl | rfl | rfl <;> rfl, fun x => .agg #[.int .i64 x.a, .int .i64 x.b, .int .i64 x.c, .int .i64 x.d, .int .i64 x.e, .int .i64 x.f]⟩

section
variable {α : Type} [Enc α]
def cellsL : List α → List Value
  | [] => []
  | x :: l => enc x ++ cellsL l
theorem cellsL_append (l m : List α) : cellsL (l ++ m) = cellsL l ++ cellsL m := by
  induction l with
  | nil => rfl
  | cons x l ih => simp [cellsL, ih]
theorem cellsL_len (l : List α) : (cellsL l).length = l.length * size α := by
  induction l with
  | nil => simp [cellsL]
  | cons x l ih => simp only [cellsL, List.length_append, len, ih, List.length_cons, Nat.succ_mul]; omega
theorem cellsL_get (l : List α) {k i : Nat} {x : α} {c : Value} (hk : l[k]? = some x) (hi : (enc x)[i]? = some c) : (cellsL l)[k * size α + i]? = some c := by
  have hil : i < size α := by have := (List.getElem?_eq_some_iff.1 hi).1; rwa [len] at this
  induction l generalizing k with
  | nil => cases hk
  | cons y l ih =>
    cases k with
    | zero =>
      injection hk with hk; subst hk
      simp only [cellsL, Nat.zero_mul, Nat.zero_add]
      rw [List.getElem?_append_left (by rw [len]; exact hil)]; exact hi
    | succ k =>
      simp only [cellsL]
      rw [List.getElem?_append_right (by rw [len, Nat.succ_mul]; omega), len, show (k + 1) * size α + i - size α = k * size α + i by rw [Nat.succ_mul]; omega]
      exact ih hk
theorem cellsL_one (l : List α) : ∀ u ∈ cellsL l, u.oneCell' = true := by
  induction l with
  | nil => intro u hu; cases hu
  | cons x l ih =>
    intro u hu
    rcases List.mem_append.1 hu with h | h
    · exact Enc.one x u h
    · exact ih u h

/-- the slice sv shows the list l, in a block below n. -/
def Sl (n : Nat) (W : World) (sv : Value) (l : List α) : Prop :=
  ∃ (a : Option Addr) (cap : Nat), sv = .slice a l.length cap ∧ l.length ≤ cap ∧ cap ≤ maxLen ∧ (a = none → cap = 0) ∧
    ∀ k x, l[k]? = some x → ∃ b o, a = some ⟨b, o, none⟩ ∧ b < n ∧ ∀ i c, (enc x)[i]? = some c → W.cell? ⟨b, o + (k * size α + i), none⟩ = some c

theorem Sl.form {n : Nat} {W : World} {sv : Value} {l : List α} (h : Sl n W sv l) : ∃ a cap, sv = .slice a l.length cap ∧ l.length ≤ cap ∧ cap ≤ maxLen ∧ (a = none → cap = 0) := by
  obtain ⟨a, cap, e, h1, h2, h3, _⟩ := h; exact ⟨a, cap, e, h1, h2, h3⟩
theorem Sl.below {n : Nat} {A B : World} {sv : Value} {l : List α} (h : Sl n A sv l) (hB : Below n A B) : Sl n B sv l := by
  obtain ⟨a, cap, e, h1, h2, h3, h4⟩ := h
  refine ⟨a, cap, e, h1, h2, h3, fun k x hk => ?_⟩
  obtain ⟨b, o, ha, hb, hc⟩ := h4 k x hk
  exact ⟨b, o, ha, hb, fun i c hi => (hB.cell (p := ⟨b, _, none⟩) hb).trans (hc i c hi)⟩
theorem Sl.upto {n m : Nat} {A : World} {sv : Value} {l : List α} (h : Sl n A sv l) (hm : n ≤ m) : Sl m A sv l := by
  obtain ⟨a, cap, e, h1, h2, h3, h4⟩ := h
  refine ⟨a, cap, e, h1, h2, h3, fun k x hk => ?_⟩
  obtain ⟨b, o, ha, hb, hc⟩ := h4 k x hk
  exact ⟨b, o, ha, Nat.lt_of_lt_of_le hb hm, hc⟩
theorem Sl.go {n : Nat} {A B : World} {sv : Value} {l : List α} (h : Sl n A sv l) (hB : Below n A B) (hn : n ≤ B.heap.size) : Sl B.heap.size B sv l := (h.below hB).upto hn
/-- what showed a list at the start does so at any later time. -/
theorem Sl.at {w0 : Base} {hp : List LB} {r L : List Nat} {w w1 : World} (h1 : At w0 hp r L w w1) {sv : Value} {l : List α} (h : Sl w0.B w0.W sv l) : Sl w1.heap.size w1 sv l := h.go h1.below (Nat.le_trans w0.le h1.below.size)
theorem Sl.nil {n : Nat} {A : World} : Sl n A (.slice none 0 0) ([] : List α) := ⟨none, 0, rfl, Nat.le_refl _, by simp [maxLen], fun _ => rfl, fun k x hk => by simp at hk⟩
theorem addr_addL (b o j : Nat) : (⟨b, o, none⟩ : Addr).add j = ⟨b, o + j, none⟩ := Addr.add_lit ..

/-- an element's place. -/
theorem Sl.idx {n : Nat} {W : World} {a : Option Addr} {m cap : Nat} {l : List α} (h : Sl n W (.slice a m cap) l) {k : Nat} {x : α} (hk : l[k]? = some x) {K : Addr → Prop} (hK : ∀ ad, a = some ad → K ad) : IdxI a (k : Int) (m : Int) K := by
  obtain ⟨a', cap', e, h1, h2, h3, h4⟩ := h
  injection e with e1 e2 e3
  subst e1; subst e2; subst e3
  obtain ⟨b, o, ha, hb, hc⟩ := h4 k x hk
  have := (List.getElem?_eq_some_iff.1 hk).1
  exact ⟨⟨_, ⟨ha, by omega, by omega⟩, hK _ ha⟩⟩
theorem Sl.cell {n : Nat} {W W' : World} {ad : Addr} {m cap : Nat} {l : List α} (h : Sl n W (.slice (some ad) m cap) l) {k : Nat} {x : α} (hk : l[k]? = some x) (hB : Below n W W') : ad.block < n ∧ ∀ i c, (enc x)[i]? = some c → W'.cell? ((ad.add ((k : Int).toNat * size α)).add i) = some c := by
  obtain ⟨a', cap', e, h1, h2, h3, h4⟩ := h
  injection e with e1 e2 e3
  subst e1; subst e2; subst e3
  obtain ⟨b, o, ha, hb, hc⟩ := h4 k x hk
  injection ha with ha; subst ha
  refine ⟨hb, fun i c hi => ?_⟩
  rw [addr_addL, addr_addL, Int.toNat_natCast, Nat.add_assoc]
  exact (hB.cell (p := ⟨b, _, none⟩) hb).trans (hc i c hi)
end
theorem Sl.ld1 {n : Nat} {W w : World} {L : List Nat} {a : Option Addr} {ad : Addr} {m cap : Nat} {l : List Int} (h : Sl n W (.slice a m cap) l) {k : Nat} {x : Int} (hk : l[k]? = some x) (had : a = some ad) (hB : Below n W w) (hL : ∀ b, b ∈ L → n ≤ b) {K : Value → Prop} (hK : K (.int .i64 x)) :
    LoadI w L (ad.add ((k : Int).toNat * 1)) K := by
  subst had
  obtain ⟨h1, h2⟩ := h.cell hk hB
  have h3 := h2 0 (.int .i64 x) rfl
  have h0 : ∀ q : Addr, q.add 0 = q := fun q => by simp [Addr.add]
  rw [h0] at h3
  refine ⟨⟨_, ⟨h3, fun e => ?_⟩, hK⟩⟩
  have hb : (ad.add ((k : Int).toNat * 1)).block = ad.block := by unfold Addr.add; split <;> rfl
  rw [hb] at e
  have := hL _ e; omega

section
variable {α : Type} [Enc α]
/-- a part of a slice. -/
theorem Sl.sub {n : Nat} {W : World} {a : Option Addr} {m cap : Nat} {l : List α} (h : Sl n W (.slice a m cap) l) (lo hi : Nat) (h1 : lo ≤ hi) (h2 : hi ≤ l.length) :
    Sl n W (.slice (if cap = lo then a else a.map (·.add (lo * size α))) (hi - lo) (cap - lo)) ((l.drop lo).take (hi - lo)) := by
  obtain ⟨a', cap', e, c1, c2, c3, c4⟩ := h
  injection e with e1 e2 e3
  subst e1; subst e2; subst e3
  have hl : ((l.drop lo).take (hi - lo)).length = hi - lo := by simp; omega
  refine ⟨_, _, by rw [hl], by rw [hl]; omega, by omega, ?_, fun k x hk => ?_⟩
  · intro e
    split at e
    · have := c3 e; omega
    · cases a with
      | none => have := c3 rfl; omega
      | some ad => cases e
  · rw [List.getElem?_take] at hk
    split at hk
    case isFalse => cases hk
    rename_i hkl
    rw [List.getElem?_drop] at hk
    have hlt := (List.getElem?_eq_some_iff.1 hk).1
    obtain ⟨b, o, ha, hb, hc⟩ := c4 _ x hk
    subst ha
    rw [if_neg (by omega)]
    refine ⟨b, o + lo * size α, by simp [addr_addL], hb, fun i c hi => ?_⟩
    have := hc i c hi
    rw [Nat.add_mul] at this
    rw [show o + lo * size α + (k * size α + i) = o + (lo * size α + k * size α + i) by omega]
    exact this

/-- a row of the run's own that shows the list l. -/
def Own (e : TypeId) (base : Nat) (W : World) (sv : Value) (l : List α) : Prop := W.ownsRow base e (size α) sv l.length (cellsL l)
theorem Own.nil {e : TypeId} {base : Nat} {W : World} : Own e base W (.slice none 0 0) ([] : List α) := World.ownsRow_nil _ _ _ _
theorem Own.sl {e : TypeId} {base : Nat} {W : World} {sv : Value} {l : List α} (h : Own e base W sv l) : Sl W.heap.size W sv l := by
  obtain ⟨_, ⟨rfl, h0⟩ | ⟨g, cap, cur, rfl, _, hg, hc, hm, _, _⟩⟩ := id h
  · obtain rfl := List.eq_nil_of_length_eq_zero h0
    exact Sl.nil
  · refine ⟨_, _, rfl, hc, hm, (fun e => nomatch e), fun k x hk => ⟨g, 0, rfl, (Array.getElem?_eq_some_iff.1 hg).1, fun i c hi => ?_⟩⟩
    have := World.ownsRow.cells h (g := g) rfl _ c (cellsL_get l hk hi)
    rwa [addr_addL] at this
theorem Own.kept {e : TypeId} {base : Nat} {W W' : World} {row : Option Nat} {sv : Value} {l : List α} (h : Own e base W sv l) (hg : W.grownBy W' row) (hne : sv.ownBlock = none ∨ sv.ownBlock ≠ row) : Own e base W' sv l := World.ownsRow.kept h hg hne
theorem Own.below {e : TypeId} {base : Nat} {W W' : World} {sv : Value} {l : List α} (h : Own e base W sv l) (hB : Below W.heap.size W W') : Own e base W' sv l :=
  World.ownsRow.kept (row := none) h ⟨hB.os, hB.tape, hB.output, hB.size, fun k hk _ => hB.block k hk⟩ (by cases sv.ownBlock <;> simp)
theorem Own.lower {e : TypeId} {base base' : Nat} {W : World} {sv : Value} {l : List α} (h : Own e base W sv l) (hb : base' ≤ base) : Own e base' W sv l := by
  obtain ⟨hl, h0 | ⟨g, cap, cur, e1, e2, e3⟩⟩ := h
  · exact ⟨hl, .inl h0⟩
  · exact ⟨hl, .inr ⟨g, cap, cur, e1, Nat.le_trans hb e2, e3⟩⟩
theorem Own.at {w0 : Base} {hp : List LB} {r L : List Nat} {w w1 : World} {e : TypeId} {base : Nat} {sv : Value} {l : List α} (h1 : At w0 hp r L w w1) (h : Own e base w sv l) (hL : ∀ b, b ∈ L → b < base) : Own e base w1 sv l := by
  obtain ⟨hl, h0 | ⟨g, cap, cur, e1, e2, e3, e4⟩⟩ := h
  · exact ⟨hl, .inl h0⟩
  · exact ⟨hl, .inr ⟨g, cap, cur, e1, e2, (h1.step g (Array.getElem?_eq_some_iff.1 e3).1 (fun e => by have := hL g e; omega)).trans e3, e4⟩⟩
theorem Own.form {e : TypeId} {base : Nat} {W : World} {sv : Value} {l : List α} (h : Own e base W sv l) : ∃ a cap, sv = .slice a l.length cap := by
  obtain ⟨_, ⟨rfl, h0⟩ | ⟨g, cap, cur, rfl, _⟩⟩ := h
  · exact ⟨_, _, by rw [h0]⟩
  · exact ⟨_, _, rfl⟩
theorem Own.lt {e : TypeId} {base : Nat} {W : World} {sv : Value} {l : List α} (h : Own e base W sv l) : ∀ k, sv.ownBlock = some k → base ≤ k ∧ k < W.heap.size := World.ownsRow.lt h

/-- what an element type is, for an append. -/
structure ElOk (P : Program) (t e : TypeId) (sz bytes : Nat) : Prop where
  ht : P.underlying t = some (.slice e)
  hi : ∃ i z, P.info? e = some i ∧ i.zero = some z ∧ i.size = sz ∧ i.bytes = bytes ∧ z.cells.size = sz
  pos : 0 < sz
theorem elOk {P : Program} {t e : TypeId} {sz bytes : Nat} {z : Value} (ht : P.underlying t = some (.slice e)) (hi : (P.info? e).map (fun i => (i.zero, i.size, i.bytes)) = some (some z, sz, bytes)) (hz : z.cells.size = sz) (hp : 0 < sz) : ElOk P t e sz bytes := by
  refine ⟨ht, ?_, hp⟩
  cases h : P.info? e with
  | none => rw [h] at hi; cases hi
  | some i =>
    rw [h] at hi
    injection hi with hi
    injection hi with h1 h2
    injection h2 with h2 h3
    exact ⟨i, z, rfl, h1, h2, h3, hz⟩

/-- what is appended: m elements of so many cells each, which hold news. -/
def SrcC (w : World) (sv : Value) (sz m : Nat) (news : List Value) : Prop :=
  news.length = m * sz ∧ ((sv = .slice none 0 0 ∧ m = 0) ∨ ∃ ad c, sv = .slice (some ad) m c ∧ ∀ j u, news[j]? = some u → w.cell? (ad.add j) = some u)
theorem Sl.src {n : Nat} {W : World} {sv : Value} {l : List α} (h : Sl n W sv l) : SrcC W sv (size α) l.length (cellsL l) := by
  obtain ⟨a, cap, rfl, h1, h2, h3, h4⟩ := h
  refine ⟨cellsL_len l, ?_⟩
  cases a with
  | none =>
    have h5 := h3 rfl
    have h6 : l.length = 0 := by omega
    exact .inl ⟨by rw [h5, h6], h6⟩
  | some ad =>
    refine .inr ⟨ad, cap, rfl, fun j u hu => ?_⟩
    have hj := (List.getElem?_eq_some_iff.1 hu).1
    rw [cellsL_len] at hj
    have hp := pos (α := α)
    have hk : j / size α < l.length := (Nat.div_lt_iff_lt_mul hp).2 hj
    have hm : j % size α < size α := Nat.mod_lt _ hp
    obtain ⟨b, o, ha, hb, hc⟩ := h4 _ _ (List.getElem?_eq_getElem hk)
    injection ha with ha; subst ha
    have hx : (enc l[j / size α])[j % size α]? = some ((enc l[j / size α])[j % size α]'(by rw [len]; exact hm)) := List.getElem?_eq_getElem _
    have h6 := cellsL_get l (List.getElem?_eq_getElem hk) hx
    rw [Nat.div_add_mod' j (size α)] at h6
    rw [h6] at hu
    injection hu with hu
    have h7 := hc _ _ hx
    rw [Nat.div_add_mod' j (size α)] at h7
    rw [addr_addL, h7, hu]

theorem run_append_src {P : Program} {w : World} {t ty e : TypeId} {sz bytes : Nat} (hE : ElOk P t e sz bytes) (base : Nat) (v : Value) (n : Nat) (xs : List Value) (hown : w.ownsRow base e sz v n xs)
    (sv : Value) (m : Nat) (news : List Value) (hsrc : SrcC w sv sz m news) (h1 : ∀ u ∈ news, u.oneCell' = true) (h63 : n + m ≤ maxLen) (hbytes : (n + m) * bytes ≤ 140737488355328) (hbase : base ≤ w.heap.size) :
    ∃ v' w', (Builtin.append_ #[t, t] ty #[v, sv]).run P w = .ok v' w' ∧ w'.ownsRow base e sz v' (n + m) (xs ++ news) ∧ w.grownBy w' v.ownBlock := by
  obtain ⟨ht, ⟨i, z, hi, hz, hs, hb, hzs⟩, hp⟩ := hE
  obtain ⟨hl, ⟨rfl, rfl⟩ | ⟨ad, c, rfl, hc⟩⟩ := hsrc
  · have hn : news = [] := List.eq_nil_of_length_eq_zero (by simpa using hl)
    subst hn
    exact ⟨v, w, run_append_owned_none w base t ty e i sz ht hi v n xs hown, by simpa using hown, ⟨rfl, rfl, rfl, Nat.le_refl _, fun _ _ _ => rfl⟩⟩
  · obtain ⟨v', w', a1, a2, a3, _⟩ := run_append_own w base t ty e i z sz bytes ht hi hz hs hb hzs hp v n xs hown ad m c news hl hc h1 h63 hbytes hbase
    exact ⟨v', w', a1, a2, a3⟩
end

/-- what the memory keeps where a row of the run's own has been lengthened. -/
theorem keep_grown {w0 : Base} {hp : List LB} {r L : List Nat} {w w1 w2 : World} {row : Option Nat} (h : At w0 hp r L w w1) (hg : w1.grownBy w2 row) (hr : ∀ k, row = some k → w0.B ≤ k ∧ k ∉ r) : Keep w0 r w1 w2 :=
  ⟨⟨hg.os, hg.tape, hg.output, hg.size, fun k hk => hg.block k (Nat.lt_of_lt_of_le hk (Nat.le_trans w0.le h.below.size)) (fun e => by have := (hr k e.symm).1; omega)⟩,
   fun b hb => hg.block b (h.lt b hb) (fun e => (hr b e.symm).2 hb)⟩
theorem kpD_grown {w0 : Base} {wr : World} {M : List Nat} {hp : List LB} {r L : List Nat} {w w1 w2 : World} {row : Option Nat} (h : At w0 hp r L w w1) (hg : w1.grownBy w2 row) (hr : ∀ k, row = some k → w0.B ≤ k ∧ k ∉ r ∧ (k ∈ M ∨ wr.heap.size ≤ k)) : kpD w0 wr M r w1 w2 := fun hs =>
  ⟨keep_grown h hg fun k hk => ⟨(hr k hk).1, (hr k hk).2.1⟩, fun k hk hm => hg.block k (Nat.lt_of_lt_of_le hk hs) (fun e => by rcases (hr k e.symm).2.2 with h | h; exact hm h; omega)⟩

/-- an append to a row of the run's own. -/
theorem GenN.app {α : Type} [Enc α] {P : Program} {w0 : Base} {kp : List Nat → World → World → Prop} {hp : List LB} {r L : List Nat} {w : World} {K : Value → World → Prop} {t ty e : TypeId} {bytes : Nat} {consts : Array Bool} {v sv : Value}
    (hE : ElOk P t e (size α) bytes) (l m : List α) (base : Nat) (hown : ∀ w1, At w0 hp r L w w1 → Own e base w1 v l) (hsrc : ∀ w1, At w0 hp r L w w1 → SrcC w1 sv (size α) m.length (cellsL m))
    (h63 : l.length + m.length ≤ maxLen) (hbytes : (l.length + m.length) * bytes ≤ 140737488355328) (hbase : ∀ w1, At w0 hp r L w w1 → base ≤ w1.heap.size)
    (hkp : ∀ w1 w2, At w0 hp r L w w1 → w1.grownBy w2 v.ownBlock → kp r w1 w2) (hk : ∀ v' w1 w2, At w0 hp r L w w1 → w1.grownBy w2 v.ownBlock → Own e base w2 v' (l ++ m) → K v' w2) :
    GenN P w0 kp (builtin .append #[t, t] ty consts #[v, sv]) hp r L w K := ⟨fun w1 h1 => by
  obtain ⟨v', w2, hrun, ho, hg⟩ := run_append_src (ty := ty) hE base v _ _ (hown w1 h1) sv _ _ (hsrc w1 h1) (cellsL_one m) h63 hbytes (hbase w1 h1)
  refine ⟨v', w2, ?_, hkp w1 w2 h1 hg, hk v' w1 w2 h1 hg ?_⟩
  · simp only [builtin, Sem.run_bind, hrun, Result.andThen, Sem.run_pure]
  · unfold Own; rw [cellsL_append, List.length_append]; exact ho⟩
/-- cells of a block of the run's own, as what is appended. -/
theorem src_own {α : Type} [Enc α] {w0 : Base} {hp : List LB} {r L : List Nat} {w w1 : World} {m : List α} (h : At w0 hp r L w w1) (i : Nat) {b : Nat} {c : LB} {k : Nat} (hi : r[i]? = some b) (hc : hget hp i = some c) (hm : denL r c.cells = cellsL m) (hk : k = m.length) : SrcC w1 (.slice (some ⟨b, 0, none⟩) k k) (size α) m.length (cellsL m) := by
  subst hk
  refine ⟨cellsL_len m, .inr ⟨_, _, rfl, fun j u hu => ?_⟩⟩
  have h1 := h.blk i b c hi hc
  rw [addr_addL, Nat.zero_add]
  simp only [World.cell?, h1, hm]
  simpa using hu

/-- a slice of a block of the run's own. -/
theorem Sl.own {α : Type} [Enc α] {w0 : Base} {hp : List LB} {r L : List Nat} {w w1 : World} {l : List α} (h : At w0 hp r L w w1) (i : Nat) {b : Nat} {c : LB} (hi : r[i]? = some b) (hc : hget hp i = some c) (hm : denL r c.cells = cellsL l) {cap : Nat} (hcap : l.length ≤ cap) (hmax : cap ≤ maxLen) : Sl w1.heap.size w1 (.slice (some ⟨b, 0, none⟩) l.length cap) l := by
  refine ⟨_, _, rfl, hcap, hmax, (fun e => nomatch e), fun k x hk => ⟨b, 0, rfl, h.lt b (List.mem_of_getElem? hi), fun j u hu => ?_⟩⟩
  have h1 := h.blk i b c hi hc
  rw [Nat.zero_add]
  simp only [World.cell?, h1, hm]
  simpa using cellsL_get l hk hu
theorem run_append_full {P : Program} {w : World} {t ty e : TypeId} {sz bytes : Nat} (hE : ElOk P t e sz bytes) (base b n : Nat) (xs : List Value) (hown : w.ownsRow base e sz (.slice (some ⟨b, 0, none⟩) n n) n xs)
    (sv : Value) (m : Nat) (news : List Value) (hsrc : SrcC w sv sz m news) (h1 : ∀ u ∈ news, u.oneCell' = true) (h63 : n + m ≤ maxLen) (hbytes : (n + m) * bytes ≤ 140737488355328) (hbase : base ≤ w.heap.size) :
    ∃ v' w', (Builtin.append_ #[t, t] ty #[.slice (some ⟨b, 0, none⟩) n n, sv]).run P w = .ok v' w' ∧ w'.ownsRow base e sz v' (n + m) (xs ++ news) ∧ w.grownBy w' none := by
  obtain ⟨ht, ⟨i, z, hi, hz, hs, hb, hzs⟩, hp⟩ := hE
  obtain ⟨hl, ⟨rfl, rfl⟩ | ⟨ad, c, rfl, hc⟩⟩ := hsrc
  · have hn : news = [] := List.eq_nil_of_length_eq_zero (by simpa using hl)
    subst hn
    exact ⟨_, w, run_append_owned_none w base t ty e i sz ht hi _ n xs hown, by simpa using hown, ⟨rfl, rfl, rfl, Nat.le_refl _, fun _ _ _ => rfl⟩⟩
  · by_cases hm : m = 0
    · subst hm
      have hn : news = [] := List.eq_nil_of_length_eq_zero (by simpa using hl)
      subst hn
      refine ⟨.slice (some ⟨b, 0, none⟩) n n, w, ?_, by simpa using hown, ⟨rfl, rfl, rfl, Nat.le_refl _, fun _ _ _ => rfl⟩⟩
      simp [Builtin.append_, run_underlying ht, sizeOf, typeInfo, hi, Builtin.lenOf, Builtin.firstCells, loadCells, loadCellsFrom, storeCells]
    · subst hs; subst hb
      have hsmall : n + m ≤ 9223372036854775807 := by simp only [maxLen] at h63; omega
      have hlen : (xs ++ news).length = (n + m) * i.size := by rw [List.length_append, hown.1, hl, Nat.add_mul]
      have holds : ∀ j u, xs[j]? = some u → w.cell? ((⟨b, 0, none⟩ : Addr).add j) = some u := World.ownsRow.cells hown (g := b) rfl
      have hr := run_append_grow (P := P) w t ty e i z ht hi hz ⟨b, 0, none⟩ n n xs hown.1 holds ad m c news hl hc (by omega) (by omega) (growslice_fits (by omega) hbytes)
      have hge := grownCap_ge w (n + m) n e
      have hcm : grownCap w (n + m) n e ≤ maxLen := grownCap_le_maxLen w (n + m) n e h63
      refine ⟨_, _, hr, ⟨hlen, .inr ⟨w.heap.size, _, _, rfl, hbase, World.alloc_heap_new w.drew _, hge, hcm, ?_, ?_⟩⟩, ⟨rfl, rfl, rfl, by simp, fun k hk _ => Below.heap_alloc w.drew _ k hk⟩⟩
      · simp only [Array.size_append, List.size_toArray, size_zeroCells, hzs, hown.1, hl, ← Nat.add_mul]
        congr 1
        omega
      · simp only [Array.toList_append, List.append_assoc]
        rw [← List.append_assoc, ← hlen]
        exact List.take_left
/-- an append to a row of the run's own that is full. -/
theorem GenN.appF {α : Type} [Enc α] {P : Program} {w0 : Base} {kp : List Nat → World → World → Prop} [hkp : KpOk w0 kp] {hp : List LB} {r L : List Nat} {w : World} {K : Value → World → Prop} {t ty e : TypeId} {bytes : Nat} {consts : Array Bool} {b n : Nat} {sv : Value}
    (hE : ElOk P t e (size α) bytes) (l m : List α) (base : Nat) (hn : n = l.length) (hown : ∀ w1, At w0 hp r L w w1 → Own e base w1 (.slice (some ⟨b, 0, none⟩) n n) l) (hsrc : ∀ w1, At w0 hp r L w w1 → SrcC w1 sv (size α) m.length (cellsL m))
    (h63 : l.length + m.length ≤ maxLen) (hbytes : (l.length + m.length) * bytes ≤ 140737488355328) (hbase : ∀ w1, At w0 hp r L w w1 → base ≤ w1.heap.size)
    (hk : ∀ v' w1 w2, At w0 hp r L w w1 → Below w1.heap.size w1 w2 → Own e base w2 v' (l ++ m) → K v' w2) :
    GenN P w0 kp (builtin .append #[t, t] ty consts #[.slice (some ⟨b, 0, none⟩) n n, sv]) hp r L w K := ⟨fun w1 h1 => by
  subst hn
  obtain ⟨v', w2, hrun, ho, hg⟩ := run_append_full (ty := ty) hE base b _ _ (hown w1 h1) sv _ _ (hsrc w1 h1) (cellsL_one m) h63 hbytes (hbase w1 h1)
  have hB : Below w1.heap.size w1 w2 := ⟨hg.os, hg.tape, hg.output, hg.size, fun k hk => hg.block k hk (by simp)⟩
  refine ⟨v', w2, ?_, hkp.ok h1 hB, hk v' w1 w2 h1 hB ?_⟩
  · simp only [builtin, Sem.run_bind, hrun, Result.andThen, Sem.run_pure]
  · unfold Own; rw [cellsL_append, List.length_append]; exact ho⟩
end Go.Proofs.Ytodpgcdandechaa

/-
  How arguments are opened: lists of numbers, bounds, fractions and zones; differences.
-/
namespace Go.Proofs.Ytodpgcdandechaa
set_option linter.unusedVariables false
open Go.ChangeShapes Go.WideShapes Go.ChangeAt Go.RowKit Go.Deep Go.Proofs.Ytodpgcdandechaa.Eng

/-- a number of 64 bits. -/
theorem inK_wf {n : Int} (h : (Lit.int .i64 n).wf = true) : inK .i64 n := wf_i64 h

section
variable {H : Type} {en : TypeId × Value → H} {P : Program}

/-- the readings of the type e are α's. -/
def Opens (en : TypeId × Value → H) (P : Program) (e : TypeId) (α : Type) [Enc α] (G : α → Prop) : Prop :=
  P.cellsOf e = Enc.size α ∧ ∀ (W : World) (b : Nat) (sp : Nat → Bool) (hl : Bool) (fuel : Nat) (cs : List Value) (x : DataW H × List MemPlace), DataW.trod en P W b sp hl fuel e cs = some x → ∃ y : α, cs = Enc.enc y ∧ G y

theorem opens_int {e : TypeId} (he : P.underlying e = some (.int .i64)) (hc : P.cellsOf e = 1) : Opens en P e Int fun z => inK .i64 z := by
  refine ⟨hc, fun W b sp hl fuel cs x h => ?_⟩
  obtain ⟨n, rfl, rfl, hw⟩ := DataW.trod_int he h
  exact ⟨n, rfl, inK_wf hw⟩

/-- a list that came in. -/
theorem open_list {α : Type} [Enc α] {G : α → Prop} {t e : TypeId} (ht : P.underlying t = some (.slice e)) (ho : Opens en P e α G) {W : World} {sp : Nat → Bool} {hl : Bool} {fuel : Nat} {cs : List Value} {x : DataW H × List MemPlace}
    (h : DataW.trod en P W 0 sp hl fuel t cs = some x) :
    ∃ (a : Option Addr) (l : List α) (cap : Nat), cs = [.slice a l.length cap] ∧ Sl W.heap.size W (.slice a l.length cap) l ∧ ∀ y ∈ l, G y := by
  obtain ⟨hc, ho⟩ := ho
  rcases open_slice ht h with ⟨rfl, rfl⟩ | ⟨a, len, cap, m, n, D, Pl, rfl, hb, hl1, hm, hmm, rfl, hx⟩
  · exact ⟨none, [], 0, rfl, Sl.nil, by simp⟩
  have hle : len ≤ m := by rw [hmm]; split <;> omega
  have key : ∀ i, i < len → ∃ y : α, G y ∧ ∀ j c, (Enc.enc y)[j]? = some c → W.cell? ((a.add (i * Enc.size α)).add j) = some c := by
    intro i hi
    obtain ⟨cs', h1, h2⟩ := hx i (by omega)
    obtain ⟨y, rfl, hy⟩ := ho _ _ _ _ _ _ _ h2
    obtain ⟨_, hlen, hcell⟩ := World.cells?_some h1
    rw [hc] at hcell hlen
    exact ⟨y, hy, fun j c hj => by rw [hcell j (by rw [← Enc.len y]; exact (List.getElem?_eq_some_iff.1 hj).1), hj]⟩
  by_cases h0 : len = 0
  · subst h0
    refine ⟨some a, [], cap, rfl, ⟨some a, cap, rfl, by simp, hm, by simp, by simp⟩, by simp⟩
  obtain ⟨y0, _⟩ := key 0 (by omega)
  haveI : Inhabited α := ⟨y0⟩
  obtain ⟨f, hf⟩ := choose_lt key
  have hll : ((List.range len).map f).length = len := by simp
  obtain ⟨b, o, spot⟩ := a
  have hsp : spot = none := by
    obtain ⟨_, h2⟩ := hf 0 (by omega)
    have hp := Enc.pos (α := α)
    rw [← Enc.len (f 0)] at hp
    have := World.cell?_spot (h2 0 _ (List.getElem?_eq_getElem hp))
    simpa [Addr.add] using this
  subst hsp
  refine ⟨some ⟨b, o, none⟩, (List.range len).map f, cap, by rw [hll], ?_, ?_⟩
  · refine ⟨some ⟨b, o, none⟩, cap, rfl, by rw [hll]; exact hl1, hm, by simp, fun k x hk => ?_⟩
    have hk' : k < len := by have := (List.getElem?_eq_some_iff.1 hk).1; simpa using this
    have hx' : x = f k := by simp [hk'] at hk; exact hk.symm
    subst hx'
    obtain ⟨_, h2⟩ := hf k hk'
    refine ⟨b, o, rfl, ?_, fun i c hi => ?_⟩
    · have hp := Enc.pos (α := α)
      rw [← Enc.len (f k)] at hp
      have := World.block_lt_of_cell? W _ (h2 0 _ (List.getElem?_eq_getElem hp))
      simpa [addr_addL] using this
    · have := h2 i c hi
      rw [addr_addL, addr_addL, Nat.add_assoc] at this
      exact this
  · intro y hy
    obtain ⟨i, hi, rfl⟩ := List.mem_map.1 hy
    exact (hf i (List.mem_range.1 hi)).1

/-- a struct of two fields of one cell each. -/
theorem open_two {t : TypeId} {f0 f1 : Field} {r : Reach} {b0 : Nat} {v : Value} {d : DataW H} {ps : List MemPlace} {W : World} {sp : Nat → Bool} {hl : Bool} (ht : P.underlying t = some (.struct #[f0, f1])) (hc : P.cellsOf t = 2) (h0 : f0.offset = 0) (h1 : f1.offset = 1) (c0 : P.cellsOf f0.type = 1) (c1 : P.cellsOf f1.type = 1)
    (hval : Value.okWide P W r b0 t v) (hd : DataW.Trod en P W 0 sp hl t v d ps) :
    ∃ v0 v1 y0 y1 n, v = .agg #[v0, v1] ∧ DataW.trod en P W 0 sp hl n f0.type [v0] = some y0 ∧ DataW.trod en P W 0 sp hl n f1.type [v1] = some y1 := by
  obtain ⟨cs, rfl, hn⟩ := okWide_struct ht hval
  rw [hc] at hn
  obtain ⟨l⟩ := cs
  obtain ⟨fuel, hf⟩ := hd
  match l, hn with
  | [a, b], _ =>
    obtain ⟨y0, y1, n, _, _, k0, k1⟩ := trod_struct2 ht hf
    rw [h0, c0] at k0
    rw [h1, c1] at k1
    exact ⟨a, b, y0, y1, n, rfl, by simpa [Value.cells] using k0, by simpa [Value.cells] using k1⟩

/-- a struct of a number and a list. -/
theorem open_numlist {α : Type} [Enc α] {G : α → Prop} {t e : TypeId} {f0 f1 : Field} {r : Reach} {b0 : Nat} {v : Value} {d : DataW H} {ps : List MemPlace} {W : World} {sp : Nat → Bool} {hl : Bool} (ht : P.underlying t = some (.struct #[f0, f1])) (hc : P.cellsOf t = 2) (h0 : f0.offset = 0) (h1 : f1.offset = 1) (c0 : P.cellsOf f0.type = 1) (c1 : P.cellsOf f1.type = 1)
    (t0 : P.underlying f0.type = some (.int .i64)) (t1 : P.underlying f1.type = some (.slice e)) (ho : Opens en P e α G)
    (hval : Value.okWide P W r b0 t v) (hd : DataW.Trod en P W 0 sp hl t v d ps) :
    ∃ n a l cap, v = .agg #[.int .i64 n, .slice a (l : List α).length cap] ∧ inK .i64 n ∧ Sl W.heap.size W (.slice a l.length cap) l ∧ ∀ y ∈ l, G y := by
  obtain ⟨v0, v1, y0, y1, n, rfl, k0, k1⟩ := open_two ht hc h0 h1 c0 c1 hval hd
  obtain ⟨m, e0, _, w0⟩ := DataW.trod_int t0 k0
  obtain ⟨a, l, cap, e1, hS, hG⟩ := open_list t1 ho k1
  simp at e0 e1
  subst e0; subst e1
  exact ⟨m, a, l, cap, rfl, inK_wf w0, hS, hG⟩

theorem open_lst {α : Type} [Enc α] {G : α → Prop} {t e : TypeId} {r : Reach} {b0 : Nat} {v : Value} {d : DataW H} {ps : List MemPlace} {W : World} {sp : Nat → Bool} {hl : Bool} (ht : P.underlying t = some (.slice e)) (ho : Opens en P e α G)
    (hval : Value.okWide P W r b0 t v) (hd : DataW.Trod en P W 0 sp hl t v d ps) :
    ∃ a l cap, v = .slice a (l : List α).length cap ∧ Sl W.heap.size W (.slice a l.length cap) l ∧ ∀ y ∈ l, G y := by
  obtain ⟨a', len, cap', rfl⟩ := okWide_slice ht hval
  obtain ⟨fuel, hf⟩ := hd
  obtain ⟨a, l, cap, e1, hS, hG⟩ := open_list ht ho hf
  simp [Value.cells] at e1
  obtain ⟨rfl, rfl, rfl⟩ := e1
  exact ⟨_, l, _, rfl, hS, hG⟩

end
end Go.Proofs.Ytodpgcdandechaa

/-
  Plain laws of numbers that are checked: the sums of the first ones, as a list, and the last of them. No program is in sight.
-/
namespace Go.Proofs.Ytodpgcdandechaa.Num
set_option linter.unusedVariables false

/-- may a number be? -/
def okB (a : Int) : Bool := decide (-2305843009213693952 ≤ a) && decide (a ≤ 2305843009213693952)
theorem okB_iff {a : Int} : okB a = true ↔ -2305843009213693952 ≤ a ∧ a ≤ 2305843009213693952 := by
  simp [okB]
theorem okB_no {a : Int} : okB a = false ↔ (a < -2305843009213693952 ∨ 2305843009213693952 < a) := by
  have h := @okB_iff a
  cases h2 : okB a
  · simp [h2] at h; simp; omega
  · simp [h2] at h; simp; omega

/-- Check's error. -/
def chk (a : Int) : Int := if okB a then 0 else 10
theorem chk_yes {a : Int} (h : okB a = true) : chk a = 0 := by simp [chk, h]
theorem chk_no {a : Int} (h : okB a = false) : chk a = 10 := by simp [chk, h]

/-- the sum, and the error, from a sum on. -/
def sumFrom (s : Int) : List Int → Int × Int
  | [] => (s, 0)
  | a :: l => if okB a && okB (s + a) then sumFrom (s + a) l else (0, 10)

theorem sumFrom_ok (s : Int) (l : List Int) (hs : okB s = true) : okB (sumFrom s l).1 = true := by
  induction l generalizing s with
  | nil => simpa [sumFrom] using hs
  | cons a l ih =>
    simp only [sumFrom]
    by_cases c : (okB a && okB (s + a)) = true
    · rw [if_pos c]; simp at c; exact ih _ c.2
    · rw [if_neg c]; rfl

theorem sumFrom_append (s : Int) (l m : List Int) : sumFrom s (l ++ m) = if (sumFrom s l).2 = 0 then sumFrom (sumFrom s l).1 m else (0, 10) := by
  induction l generalizing s with
  | nil => simp [sumFrom]
  | cons a l ih =>
    by_cases c : (okB a && okB (s + a)) = true
    · simp only [List.cons_append, sumFrom, c, if_true, ih]
    · simp [sumFrom, c]

/-- Add: the sum, and the error. -/
def add (a b : Int) : Int × Int := if okB a && okB b && okB (a + b) then (a + b, 0) else (0, 10)
theorem add_yes {a b : Int} (h1 : okB a = true) (h2 : okB b = true) (h3 : okB (a + b) = true) : add a b = (a + b, 0) := by simp [add, h1, h2, h3]
/-- Sub: the difference, and the error. -/
def sub (a b : Int) : Int × Int := if okB b then add a (-b) else (0, 10)
/-- Neg: the other way round, and the error. -/
def neg (a : Int) : Int × Int := if okB a then (-a, 0) else (0, 10)
theorem sumFrom_one (s a : Int) (h : okB s = true) : sumFrom s [a] = add s a := by
  cases h1 : okB a <;> cases h2 : okB (s + a) <;> simp [sumFrom, add, h, h1, h2]
theorem parts (l : List Int) (a : Int) : sumFrom 0 (l ++ [a]) = if (sumFrom 0 l).2 = 0 then add (sumFrom 0 l).1 a else (0, 10) := by
  rw [sumFrom_append, sumFrom_one _ _ (sumFrom_ok 0 l rfl)]
end Go.Proofs.Ytodpgcdandechaa.Num

/-
  The contract of num.Check at every number.
-/
namespace Go.Proofs.Ytodpgcdandechaa
set_option linter.unusedVariables false
open Go.RowKit

theorem check_yes (a : Int) (h1 : -2305843009213693952 ≤ a) (h2 : a ≤ 2305843009213693952) (w : World) :
    Calls Try.prog 66 #[.int .i64 a] w fun e w' => e = .returned (.int .i64 0) ∧ w = w' := by
  go_enter Try.func66, Try.ntmps66
  go_wp2
  go_ret
  exact ⟨rfl, rfl⟩

theorem check_no (a : Int) (h : a < -2305843009213693952 ∨ 2305843009213693952 < a) (w : World) :
    Calls Try.prog 66 #[.int .i64 a] w fun e w' => e = .returned (.int .i64 10) ∧ w = w' := by
  rcases h with h | h
  · go_enter Try.func66, Try.ntmps66
    go_wp2
    go_ret
    exact ⟨rfl, rfl⟩
  · have h' : ¬ a < -2305843009213693952 := by omega
    go_enter Try.func66, Try.ntmps66
    go_wp2
    go_ret
    exact ⟨rfl, rfl⟩


theorem check_any (a : Int) (w : World) :
    Calls Try.prog 66 #[.int .i64 a] w fun e w' => e = .returned (.int .i64 (Num.chk a)) ∧ w = w' := by
  by_cases h : Num.okB a = true
  · rw [Num.chk_yes h]; exact check_yes a (Num.okB_iff.1 h).1 (Num.okB_iff.1 h).2 w
  · rw [Num.chk_no (by simpa using h)]; exact check_no a (Num.okB_no.1 (by simpa using h)) w

end Go.Proofs.Ytodpgcdandechaa

/-
  Plain laws of bounds of differences: a bound's number and strictness, sums, not a bound, and what keeps one. No program is in sight, but for three laws on the bits of an int64.
-/
namespace Go.Proofs.Ytodpgcdandechaa
set_option linter.unusedVariables false

theorem i64_and1 (n : Int) : bits .and .i64 n 1 = n % 2 := by
  have h1 : (BitVec.ofInt 64 1).toNat = 2 ^ 1 - 1 := by decide
  have key : (BitVec.ofInt 64 n &&& BitVec.ofInt 64 1).toNat = (n % ((2 ^ 64 : Nat) : Int)).toNat % 2 ^ 1 := by
    rw [BitVec.toNat_and, BitVec.toNat_ofInt, h1, Nat.and_two_pow_sub_one_eq_mod]
  show IntKind.i64.wrap ((BitVec.ofInt 64 n &&& BitVec.ofInt 64 1).toNat : Nat) = n % 2
  rw [key, IntKind.wrap_i64]
  omega

theorem i64_or1 (c : Int) (h1 : -4611686018427387904 ≤ c) (h2 : c ≤ 4611686018427387903) : bits .or .i64 (c * 2) 1 = c * 2 + 1 := by
  rw [Int.mul_comm c 2]
  have e1 : (BitVec.ofInt 64 1).toNat = 1 := by decide
  obtain ⟨m, hm⟩ : ∃ m : Nat, ((2 * c) % ((2 ^ 64 : Nat) : Int)).toNat = 2 * m := ⟨(((2 * c) % ((2 ^ 64 : Nat) : Int)).toNat) / 2, by omega⟩
  have or1 : 2 * m ||| 1 = 2 * m + 1 := by
    have := Nat.shiftLeft_add_eq_or_of_lt (b := 1) (i := 1) (by decide) m
    rw [Nat.shiftLeft_eq] at this
    rw [Nat.mul_comm 2 m]
    simpa using this.symm
  have key : (BitVec.ofInt 64 (2 * c) ||| BitVec.ofInt 64 1).toNat = 2 * m + 1 := by
    rw [BitVec.toNat_or, BitVec.toNat_ofInt, e1, hm, or1]
  show IntKind.i64.wrap ((BitVec.ofInt 64 (2 * c) ||| BitVec.ofInt 64 1).toNat : Nat) = 2 * c + 1
  rw [key, IntKind.wrap_i64]
  omega

namespace Bd
open Num

/-- is a bound (that is not None) strict? -/
def st (b : Int) : Bool := b % 2 == 0
/-- may a bound be? -/
def may (b : Int) : Bool := b == 9223372036854775807 || okB (b / 2)
/-- Check's error. -/
def chk (b : Int) : Int := if may b then 0 else 8
/-- a number's bound. -/
def mk (c : Int) (s : Bool) : Int := if s then c * 2 else c * 2 + 1
def made (c : Int) (s : Bool) : Int × Int := if okB c then (mk c s, 0) else (0, 10)
def value (b : Int) : Int × Bool × Int := if may b then (if b = 9223372036854775807 then (0, false, 6) else (b / 2, st b, 0)) else (0, false, 8)
def add (a b : Int) : Int × Int :=
  if may a && may b then (if a = 9223372036854775807 ∨ b = 9223372036854775807 then (9223372036854775807, 0) else made (a / 2 + b / 2) (st a || st b)) else (0, 8)
def not (b : Int) : Int × Int := if (value b).2.2 = 0 then made (-(value b).1) (!(value b).2.1) else (0, (value b).2.2)
theorem chk_yes {b : Int} (h : may b = true) : chk b = 0 := by simp [chk, h]
theorem chk_no {b : Int} (h : may b = false) : chk b = 8 := by simp [chk, h]
theorem may_none : may 9223372036854775807 = true := by decide
theorem may_of {b : Int} (h : okB (b / 2) = true) : may b = true := by simp [may, h]
theorem made_yes {c : Int} {s : Bool} (h : okB c = true) : made c s = (mk c s, 0) := by simp [made, h]
theorem made_no {c : Int} {s : Bool} (h : okB c = false) : made c s = (0, 10) := by simp [made, h]
theorem value_bad {b : Int} (h : may b = false) : value b = (0, false, 8) := by simp [value, h]
theorem value_none : value 9223372036854775807 = (0, false, 6) := by decide
theorem value_yes {b : Int} (h : may b = true) (hn : b ≠ 9223372036854775807) : value b = (b / 2, st b, 0) := by simp [value, h, hn]
theorem okB_of_may {b : Int} (h : may b = true) (hn : b ≠ 9223372036854775807) : okB (b / 2) = true := by simpa [may, hn] using h
theorem add_bad {a b : Int} (h : may a = false ∨ may b = false) : add a b = (0, 8) := by rcases h with h | h <;> simp [add, h]
theorem add_none {a b : Int} (ha : may a = true) (hb : may b = true) (h : a = 9223372036854775807 ∨ b = 9223372036854775807) : add a b = (9223372036854775807, 0) := by simp [add, ha, hb, h]
theorem add_yes {a b : Int} (ha : may a = true) (hb : may b = true) (na : a ≠ 9223372036854775807) (nb : b ≠ 9223372036854775807) : add a b = made (a / 2 + b / 2) (st a || st b) := by simp [add, ha, hb, na, nb]
theorem half_mk (c : Int) (s : Bool) : mk c s / 2 = c := by cases s <;> simp [mk] <;> omega
theorem st_mk (c : Int) (s : Bool) : st (mk c s) = s := by cases s <;> simp [mk, st] <;> omega

theorem may_made {c : Int} {s : Bool} (h : okB c = true) : may (mk c s) = true := may_of (by rw [half_mk]; exact h)
theorem made_ne {c : Int} {s : Bool} (h : okB c = true) : mk c s ≠ 9223372036854775807 := by
  have := okB_iff.1 h
  cases s <;> simp [mk] <;> omega
/-- when a sum is answered. -/
theorem add_ok {a b s : Int} (h : add a b = (s, 0)) : may a = true ∧ may b = true ∧
    (((a = 9223372036854775807 ∨ b = 9223372036854775807) ∧ s = 9223372036854775807) ∨ (a ≠ 9223372036854775807 ∧ b ≠ 9223372036854775807 ∧ okB (a / 2 + b / 2) = true ∧ s = mk (a / 2 + b / 2) (st a || st b))) := by
  cases ha : may a with
  | false => rw [add_bad (.inl ha)] at h; cases h
  | true =>
    cases hb : may b with
    | false => rw [add_bad (.inr hb)] at h; cases h
    | true =>
      refine ⟨rfl, rfl, ?_⟩
      by_cases hn : a = 9223372036854775807 ∨ b = 9223372036854775807
      · rw [add_none ha hb hn] at h
        simp only [Prod.mk.injEq, and_true] at h
        exact .inl ⟨hn, h.symm⟩
      · have na : a ≠ 9223372036854775807 := fun e => hn (.inl e)
        have nb : b ≠ 9223372036854775807 := fun e => hn (.inr e)
        rw [add_yes ha hb na nb] at h
        cases ho : okB (a / 2 + b / 2) with
        | false => rw [made_no ho] at h; cases h
        | true =>
          rw [made_yes ho] at h
          simp only [Prod.mk.injEq, and_true] at h
          exact .inr ⟨na, nb, rfl, h.symm⟩
theorem add_comm (a b : Int) : add a b = add b a := by
  unfold add
  rw [Bool.and_comm (may a), Int.add_comm (a / 2), Bool.or_comm (st a)]
  split
  · by_cases h : a = 9223372036854775807 ∨ b = 9223372036854775807
    · rw [if_pos h, if_pos (Or.symm h)]
    · rw [if_neg h, if_neg (fun e => h (Or.symm e))]
  · rfl
theorem may_add {a b s : Int} (h : add a b = (s, 0)) : may s = true := by
  obtain ⟨_, _, ⟨_, rfl⟩ | ⟨_, _, ho, rfl⟩⟩ := add_ok h
  · exact may_none
  · exact may_made ho
theorem add_assoc {a b c s p q : Int} (h1 : add a b = (s, 0)) (h2 : add s c = (p, 0)) (h3 : add b c = (q, 0)) : add a q = (p, 0) := by
  obtain ⟨ma, mb, c1⟩ := add_ok h1
  obtain ⟨ms, mc, c2⟩ := add_ok h2
  obtain ⟨_, _, c3⟩ := add_ok h3
  have mq := may_add h3
  by_cases na : a = 9223372036854775807
  · rw [add_none ma mq (.inl na)]
    rcases c1 with ⟨_, e1⟩ | ⟨n, _⟩
    · rcases c2 with ⟨_, rfl⟩ | ⟨n, _⟩
      · rfl
      · exact absurd e1 n
    · exact absurd na n
  · rcases c3 with ⟨hn, e3⟩ | ⟨nb, nc, o3, e3⟩
    · rw [add_none ma mq (.inr e3)]
      rcases c2 with ⟨_, rfl⟩ | ⟨ns, nc, _⟩
      · rfl
      · rcases hn with hb | hc
        · rcases c1 with ⟨_, e1⟩ | ⟨_, nb, _⟩
          · exact absurd e1 ns
          · exact absurd hb nb
        · exact absurd hc nc
    · rcases c1 with ⟨h, _⟩ | ⟨_, _, o1, e1⟩
      · rcases h with h | h
        · exact absurd h na
        · exact absurd h nb
      · subst e1
        subst e3
        rcases c2 with ⟨h, _⟩ | ⟨_, _, o2, e2⟩
        · rcases h with h | h
          · exact absurd h (made_ne o1)
          · exact absurd h nc
        · rw [half_mk, st_mk] at e2
          rw [half_mk] at o2
          rw [add_yes ma mq na (made_ne o3), half_mk, st_mk, ← Int.add_assoc, ← Bool.or_assoc, made_yes o2, e2]
end Bd
end Go.Proofs.Ytodpgcdandechaa

/-
  The contracts of package bound at every bound and number: of, told, Check, made, Value, Add.
-/
namespace Go.Proofs.Ytodpgcdandechaa
set_option linter.unusedVariables false
open Go.RowKit

theorem of_any (b : Int) (w : World) :
    Calls Try.prog 49 #[.int .i64 b] w fun e w' => e = .returned (.agg #[.int .i64 (b / 2), .bool (Bd.st b)]) ∧ Below w.heap.size w w' := by
  have h1 := i64_and1 b
  go_enter Try.func49, Try.ntmps49
  go_wp2
  exact bodyPost_ret (v := .agg #[.int .i64 (b / 2), .bool (Bd.st b)]) (by simp [results, Try.results49, Bd.st, go_sem]) rfl ⟨rfl, (Below.refl _ _).alloc (Nat.le_refl _) _⟩

theorem told_any (c : Int) (s : Bool) (h : Num.okB c = true) (w : World) :
    Calls Try.prog 67 #[.agg #[.int .i64 c, .bool s]] w fun e w' => e = .returned (.int .i64 (Bd.mk c s)) ∧ Below w.heap.size w w' := by
  obtain ⟨c1, c2⟩ := Num.okB_iff.1 h
  have h1 := i64_or1 c (by omega) (by omega)
  clear h
  cases s
  · go_enter Try.func67, Try.ntmps67
    go_wp2
    go_ret
    exact ⟨ret_int (by simp [Bd.mk]), (Below.refl _ _).alloc (Nat.le_refl _) _⟩
  · go_enter Try.func67, Try.ntmps67
    go_wp2
    go_ret
    exact ⟨ret_int (by simp [Bd.mk]), (Below.refl _ _).alloc (Nat.le_refl _) _⟩

theorem made_any (c : Int) (s : Bool) (w : World) :
    Calls Try.prog 51 #[.agg #[.int .i64 c, .bool s]] w fun e w' => e = .returned (.tuple #[.int .i64 (Bd.made c s).1, .int .i64 (Bd.made c s).2]) ∧ Below w.heap.size w w' := by
  have hB := (Below.refl w.heap.size w).alloc (Nat.le_refl _) (.cells #[.int .i64 c, .bool s] 82)
  cases h : Num.okB c with
  | true =>
    have e1 := Num.chk_yes h
    have hr := Lib.hid (Bd.made_yes (s := s) h)
    have H := Lib.hid h
    clear h
    go_enter Try.func51, Try.ntmps51
    go_wp2_with (first
      | (go_at_call 66; refine (check_any _ _).mono ?_; rintro e w' ⟨rfl, rfl⟩)
      | (go_at_call 67; refine (from_here (told_any _ _ H.out _) hB).mono ?_; rintro e w' ⟨rfl, hB1⟩))
    go_ret2
    exact ⟨tup2 hr.out rfl rfl, by assumption⟩
  | false =>
    have e1 := Num.chk_no h
    have hr := Lib.hid (Bd.made_no (s := s) h)
    clear h
    go_enter Try.func51, Try.ntmps51
    go_wp2_with (first
      | (go_at_call 66; refine (check_any _ _).mono ?_; rintro e w' ⟨rfl, rfl⟩))
    go_ret2
    exact ⟨tup2 hr.out rfl rfl, by assumption⟩

theorem field_c (c : Int) (s : Bool) : ∀ w : World, (Instr.field 82 (.agg #[.int .i64 c, .bool s]) 0).run Try.prog w = .ok (.int .i64 c) w := fun _ => by kernel_rfl

theorem bcheck_any (b : Int) (w : World) :
    Calls Try.prog 48 #[.int .i64 b] w fun e w' => e = .returned (.int .i64 (Bd.chk b)) ∧ Below w.heap.size w w' := by
  have hB := Below.refl w.heap.size w
  by_cases hn : b = 9223372036854775807
  · subst hn
    have hr := Lib.hid (Bd.chk_yes Bd.may_none)
    go_enter Try.func48, Try.ntmps48
    go_wp2
    go_ret
    exact ⟨ret_int hr.out.symm, by assumption⟩
  · have hn1 : (b == 9223372036854775807) = false := by simpa using hn
    have hn2 : (b != 9223372036854775807) = true := by simpa using hn
    have hf := field_c (b / 2) (Bd.st b)
    cases h : Num.okB (b / 2) with
    | true =>
      have e1 := Num.chk_yes h
      have hr := Lib.hid (Bd.chk_yes (Bd.may_of h))
      clear h hn
      go_enter Try.func48, Try.ntmps48
      go_wp2_with (first
        | (go_at_call 66; refine (check_any _ _).mono ?_; rintro e w' ⟨rfl, rfl⟩)
        | (go_at_call 49; refine (from_here (of_any _ _) (by assumption)).mono ?_; rintro e w' ⟨rfl, hB1⟩))
      go_ret
      exact ⟨ret_int hr.out.symm, by assumption⟩
    | false =>
      have e1 := Num.chk_no h
      have hr := Lib.hid (Bd.chk_no (b := b) (by simp [Bd.may, h, hn]))
      clear h hn
      go_enter Try.func48, Try.ntmps48
      go_wp2_with (first
        | (go_at_call 66; refine (check_any _ _).mono ?_; rintro e w' ⟨rfl, rfl⟩)
        | (go_at_call 49; refine (from_here (of_any _ _) (by assumption)).mono ?_; rintro e w' ⟨rfl, hB1⟩))
      go_ret
      exact ⟨ret_int hr.out.symm, by assumption⟩

theorem value_any (b : Int) (w : World) :
    Calls Try.prog 40 #[.int .i64 b] w fun e w' => e = .returned (.tuple #[.int .i64 (Bd.value b).1, .bool (Bd.value b).2.1, .int .i64 (Bd.value b).2.2]) ∧ Below w.heap.size w w' := by
  have hB := Below.refl w.heap.size w
  cases h : Bd.may b with
  | false =>
    have e1 := Bd.chk_no h
    have hr := Lib.hid (Bd.value_bad h)
    clear h
    go_enter Try.func40, Try.ntmps40
    go_wp2_with (go_at_call 48; refine (from_here (bcheck_any _ _) (by assumption)).mono ?_; rintro e w' ⟨rfl, hB1⟩)
    go_ret3
    exact ⟨tup3 hr.out rfl rfl rfl, by assumption⟩
  | true =>
    have e1 := Bd.chk_yes h
    by_cases hn : b = 9223372036854775807
    · subst hn
      have hr := Lib.hid Bd.value_none
      clear h
      go_enter Try.func40, Try.ntmps40
      go_wp2_with (go_at_call 48; refine (from_here (bcheck_any _ _) (by assumption)).mono ?_; rintro e w' ⟨rfl, hB1⟩)
      go_ret3
      exact ⟨tup3 hr.out rfl rfl rfl, by assumption⟩
    · have hn1 : (b == 9223372036854775807) = false := by simpa using hn
      have hr := Lib.hid (Bd.value_yes h hn)
      clear h hn
      go_enter Try.func40, Try.ntmps40
      go_wp2_with (first
        | (go_at_call 48; refine (from_here (bcheck_any _ _) (by assumption)).mono ?_; rintro e w' ⟨rfl, hB1⟩)
        | (go_at_call 49; refine (from_here (of_any _ _) (by assumption)).mono ?_; rintro e w' ⟨rfl, hB2⟩))
      go_quiet (fail)
      go_wp2
      go_ret3
      exact ⟨tup3 hr.out rfl rfl rfl, below_drewN (hB2.alloc hB2.size _) _⟩

theorem badd_any (a b : Int) (w : World) :
    Calls Try.prog 43 #[.int .i64 a, .int .i64 b] w fun e w' => e = .returned (.tuple #[.int .i64 (Bd.add a b).1, .int .i64 (Bd.add a b).2]) ∧ Below w.heap.size w w' := by
  have hB := Below.refl w.heap.size w
  cases ha : Bd.may a with
  | false =>
    have e1 := Bd.chk_no ha
    have hr := Lib.hid (Bd.add_bad (b := b) (.inl ha))
    clear ha
    go_enter Try.func43, Try.ntmps43
    go_wp2_with (go_at_call 48; refine (from_here (bcheck_any _ _) (by assumption)).mono ?_; rintro e w' ⟨rfl, hB1⟩)
    go_ret2
    exact ⟨tup2 hr.out rfl rfl, by assumption⟩
  | true =>
    have e1 := Bd.chk_yes ha
    cases hb : Bd.may b with
    | false =>
      have e2 := Bd.chk_no hb
      have hr := Lib.hid (Bd.add_bad (a := a) (.inr hb))
      clear ha hb
      go_enter Try.func43, Try.ntmps43
      go_wp2_with (go_at_call 48; refine (from_here (bcheck_any _ _) (by assumption)).mono ?_; rintro e w' ⟨rfl, hB1⟩)
      go_ret2
      exact ⟨tup2 hr.out rfl rfl, by assumption⟩
    | true =>
      have e2 := Bd.chk_yes hb
      by_cases na : a = 9223372036854775807
      · have hr := Lib.hid (Bd.add_none ha hb (.inl na))
        subst na
        clear ha hb
        go_enter Try.func43, Try.ntmps43
        go_wp2_with (go_at_call 48; refine (from_here (bcheck_any _ _) (by assumption)).mono ?_; rintro e w' ⟨rfl, hB1⟩)
        go_ret2
        exact ⟨tup2 hr.out rfl rfl, by assumption⟩
      · have na1 : (a == 9223372036854775807) = false := by simpa using na
        by_cases nb : b = 9223372036854775807
        · have hr := Lib.hid (Bd.add_none ha hb (.inr nb))
          subst nb
          clear ha hb na
          go_enter Try.func43, Try.ntmps43
          go_wp2_with (go_at_call 48; refine (from_here (bcheck_any _ _) (by assumption)).mono ?_; rintro e w' ⟨rfl, hB1⟩)
          go_ret2
          exact ⟨tup2 hr.out rfl rfl, by assumption⟩
        · have nb1 : (b == 9223372036854775807) = false := by simpa using nb
          have hr := Lib.hid (Bd.add_yes ha hb na nb)
          obtain ⟨a1, a2⟩ := Num.okB_iff.1 (Bd.okB_of_may ha na)
          obtain ⟨b1, b2⟩ := Num.okB_iff.1 (Bd.okB_of_may hb nb)
          clear ha hb na nb
          cases hs : Bd.st a
          all_goals
            go_enter Try.func43, Try.ntmps43
            go_wp2_with (first
              | (go_at_call 48; refine (from_here (bcheck_any _ _) (by assumption)).mono ?_; rintro e w' ⟨rfl, hB1⟩)
              | (go_at_call 49; refine (from_here (of_any _ _) (by assumption)).mono ?_; rintro e w' ⟨rfl, hB1⟩)
              | (go_at_call 51; refine (from_here (made_any _ _ _) (by repeat (first | assumption | apply below_al))).mono ?_; rintro e w' ⟨rfl, hB3⟩))
            go_ret2
            exact ⟨by rw [hr.out, hs]; rfl, by assumption⟩

end Go.Proofs.Ytodpgcdandechaa

/-
  Plain laws of matrices of bounds: sums of bounds without limits, closing a matrix clock by clock, what is answered is closed, and is the least sum over ways that come to no clock twice. No program is in sight.
-/
namespace Go.Proofs.Ytodpgcdandechaa.Dbm
set_option linter.unusedVariables false

/-- a bound: none, or twice a number, and 1 more if the number itself may be. -/
abbrev OB := Option Int

/-- the sum of two bounds that are there. -/
def bsum (u v : Int) : Int := (u / 2 + v / 2) * 2 + (u % 2) * (v % 2)
def oadd : OB → OB → OB
  | some u, some v => some (bsum u v)
  | _, _ => none
/-- at most. -/
def ole : OB → OB → Prop
  | _, none => True
  | some u, some v => u ≤ v
  | none, some _ => False
def olt : OB → OB → Prop
  | some u, some v => u < v
  | some _, none => True
  | none, _ => False

theorem parity (u : Int) : u % 2 = 0 ∨ u % 2 = 1 := by omega
theorem bsum_comm (u v : Int) : bsum u v = bsum v u := by simp only [bsum, Int.add_comm, Int.mul_comm]
theorem bsum_one (u : Int) : bsum u 1 = u := by unfold bsum; omega
theorem bsum_assoc (u v x : Int) : bsum (bsum u v) x = bsum u (bsum v x) := by
  unfold bsum
  rcases parity u with h1 | h1 <;> rcases parity v with h2 | h2 <;> rcases parity x with h3 | h3 <;> simp only [h1, h2, h3, Int.zero_mul, Int.mul_zero, Int.mul_one, Int.add_zero] <;> omega
theorem bsum_mono {u u' v v' : Int} (h : u ≤ u') (k : v ≤ v') : bsum u v ≤ bsum u' v' := by
  unfold bsum
  rcases parity u with h1 | h1 <;> rcases parity v with h2 | h2 <;> rcases parity u' with h3 | h3 <;> rcases parity v' with h4 | h4 <;> simp only [h1, h2, h3, h4, Int.mul_zero, Int.mul_one, Int.add_zero] <;> omega

theorem ole_refl (a : OB) : ole a a := by cases a <;> simp [ole]
theorem ole_trans {a b c : OB} (h : ole a b) (k : ole b c) : ole a c := by
  cases a <;> cases b <;> cases c <;> simp_all [ole]; omega
theorem ole_antisymm {a b : OB} (h : ole a b) (k : ole b a) : a = b := by
  cases a <;> cases b <;> simp_all [ole]; omega
theorem not_olt {a b : OB} : ¬ olt a b ↔ ole b a := by cases a <;> cases b <;> simp [ole, olt]
theorem ole_of_olt {a b : OB} (h : olt a b) : ole a b := by cases a <;> cases b <;> simp_all [ole, olt]; omega
theorem olt_irrefl {a b : OB} (h : olt a b) (k : ole b a) : False := not_olt.2 k h
theorem oadd_comm (a b : OB) : oadd a b = oadd b a := by cases a <;> cases b <;> simp [oadd, bsum_comm]
theorem oadd_assoc (a b c : OB) : oadd (oadd a b) c = oadd a (oadd b c) := by cases a <;> cases b <;> cases c <;> simp [oadd, bsum_assoc]
theorem oadd_one (a : OB) : oadd a (some 1) = a := by cases a <;> simp [oadd, bsum_one]
theorem one_oadd (a : OB) : oadd (some 1) a = a := by rw [oadd_comm, oadd_one]
theorem oadd_mono {a a' b b' : OB} (h : ole a a') (k : ole b b') : ole (oadd a b) (oadd a' b') := by
  cases a <;> cases b <;> cases a' <;> cases b' <;> simp_all [ole, oadd, bsum_mono]
theorem oadd_none (a : OB) : oadd a none = none := by cases a <;> rfl
/-- a matrix. -/
abbrev Mx := Nat → Nat → OB

/-- the sum of the bounds of a way. -/
def way (E : Mx) : List Nat → OB
  | [] => some 1
  | [_] => some 1
  | a :: b :: t => oadd (E a b) (way E (b :: t))
theorem way_two (E : Mx) (a b : Nat) : way E [a, b] = E a b := by simp [way, oadd_one]
theorem way_split (E : Mx) (p : List Nat) (a : Nat) (q : List Nat) : way E (p ++ a :: q) = oadd (way E (p ++ [a])) (way E (a :: q)) := by
  induction p with
  | nil => simp [way, one_oadd]
  | cons x p ih =>
    cases p with
    | nil => simp [way, oadd_one]
    | cons y p => simp only [List.cons_append, way] at ih ⊢; rw [ih, oadd_assoc]

/-- one clock: each bound is at most that by the clock. -/
def olt' (a b : OB) : Bool := match a, b with | some u, some v => decide (u < v) | some _, none => true | none, _ => false
theorem olt'_iff {a b : OB} : olt' a b = true ↔ olt a b := by cases a <;> cases b <;> simp [olt', olt]
def thr (k : Nat) (M : Mx) : Mx := fun i j => if olt' (oadd (M i k) (M k j)) (M i j) then oadd (M i k) (M k j) else M i j
theorem thr_le (k : Nat) (M : Mx) (i j : Nat) : ole (thr k M i j) (M i j) := by
  unfold thr; split
  · rename_i h; exact ole_of_olt (olt'_iff.1 h)
  · exact ole_refl _
theorem thr_by (k : Nat) (M : Mx) (i j : Nat) : ole (thr k M i j) (oadd (M i k) (M k j)) := by
  unfold thr; split
  · exact ole_refl _
  · rename_i h; exact not_olt.1 (fun e => h (olt'_iff.2 e))
theorem thr_cases (k : Nat) (M : Mx) (i j : Nat) : (thr k M i j = M i j) ∨ (thr k M i j = oadd (M i k) (M k j) ∧ olt (oadd (M i k) (M k j)) (M i j)) := by
  unfold thr; split
  · rename_i h; exact .inr ⟨rfl, olt'_iff.1 h⟩
  · exact .inl rfl
theorem thr_row {k : Nat} {M : Mx} (h : M k k = some 1) (j : Nat) : thr k M k j = M k j := by
  rcases thr_cases k M k j with e | ⟨_, e⟩
  · exact e
  · rw [h, one_oadd] at e; exact (olt_irrefl e (ole_refl _)).elim
theorem thr_col {k : Nat} {M : Mx} (h : M k k = some 1) (i : Nat) : thr k M i k = M i k := by
  rcases thr_cases k M i k with e | ⟨_, e⟩
  · exact e
  · rw [h, oadd_one] at e; exact (olt_irrefl e (ole_refl _)).elim

/-- after the clocks below k: the diagonal; each bound that is there is that of a way that comes to no clock twice, by clocks below k; and it is at most each by a clock below k. -/
structure Inv (n k : Nat) (E M : Mx) : Prop where
  diag : ∀ i, i < n → M i i = some 1
  low : ∀ i j, i < n → j < n → ole (M i j) (E i j)
  wit : ∀ i j, i < n → j < n → i ≠ j → ∀ v, M i j = some v → ∃ mid, (i :: (mid ++ [j])).Nodup ∧ (∀ a ∈ mid, a < k) ∧ way E (i :: (mid ++ [j])) = some v
  closed : ∀ i j a, i < n → j < n → a < k → ole (M i j) (oadd (M i a) (M a j))

theorem Inv.start {n : Nat} {E : Mx} (h : ∀ i, i < n → E i i = some 1) : Inv n 0 E E :=
  ⟨h, fun _ _ _ _ => ole_refl _, fun i j hi hj hne v hv => ⟨[], by simp [hne], by simp, by simp [way_two, hv]⟩, fun _ _ _ _ _ h => by omega⟩

/-- a way by clocks below k is at least the bound. -/
theorem Inv.le_way {n k : Nat} {E M : Mx} (h : Inv n k E M) (hk : k ≤ n) : ∀ (mid : List Nat) (i j : Nat), i < n → j < n → (∀ a ∈ mid, a < k) → ole (M i j) (way E (i :: (mid ++ [j])))
  | [], i, j, hi, hj, _ => by simpa [way_two] using h.low i j hi hj
  | a :: mid, i, j, hi, hj, hm => by
    have ha : a < k := hm a (by simp)
    have ih := h.le_way hk mid a j (by omega) hj (fun b hb => hm b (by simp [hb]))
    simp only [List.cons_append, way]
    exact ole_trans (h.closed i j a hi hj ha) (oadd_mono (h.low i a hi (by omega)) ih)

/-- one clock more, where no clock's own bound comes below 0. -/
theorem Inv.step {n k : Nat} {E M : Mx} (h : Inv n k E M) (hk : k < n) (hd : ∀ i, i < n → thr k M i i = some 1) : Inv n (k + 1) E (thr k M) := by
  have hkk := h.diag k hk
  have cyc : ∀ a, a < n → ole (some 1) (oadd (M a k) (M k a)) := fun a ha => by
    have := thr_by k M a a; rwa [hd a ha] at this
  refine ⟨hd, fun i j hi hj => ole_trans (thr_le k M i j) (h.low i j hi hj), ?_, ?_⟩
  · intro i j hi hj hne v hv
    rcases thr_cases k M i j with e | ⟨e, hlt⟩
    · rw [e] at hv
      obtain ⟨mid, h1, h2, h3⟩ := h.wit i j hi hj hne v hv
      exact ⟨mid, h1, fun a ha => by have := h2 a ha; omega, h3⟩
    · have hik : i ≠ k := fun c => by subst c; rw [hkk, one_oadd] at hlt; exact olt_irrefl hlt (ole_refl _)
      have hjk : k ≠ j := fun c => by subst c; rw [hkk, oadd_one] at hlt; exact olt_irrefl hlt (ole_refl _)
      rw [e] at hv
      cases hu : M i k with
      | none => rw [hu] at hv; cases hv
      | some u =>
      cases hw : M k j with
      | none => rw [hw, hu] at hv; cases hv
      | some x =>
      obtain ⟨m1, a1, a2, a3⟩ := h.wit i k hi hk hik u hu
      obtain ⟨m2, b1, b2, b3⟩ := h.wit k j hk hj hjk x hw
      -- a clock on both ways: then the sum is not below what was there
      have both : ∀ a, a < n → ole (oadd (M i a) (M a k)) (M i k) → ole (oadd (M k a) (M a j)) (M k j) → ole (M i j) (oadd (M i a) (M a j)) → False := fun a ha c1 c2 c3 => by
        have s1 : ole (oadd (oadd (M i a) (M a k)) (oadd (M k a) (M a j))) (oadd (M i k) (M k j)) := oadd_mono c1 c2
        have s2 : oadd (oadd (M i a) (M a k)) (oadd (M k a) (M a j)) = oadd (M i a) (oadd (oadd (M a k) (M k a)) (M a j)) := by simp only [oadd_assoc]
        rw [s2] at s1
        have s3 : ole (oadd (M i a) (oadd (some 1) (M a j))) (oadd (M i a) (oadd (oadd (M a k) (M k a)) (M a j))) := oadd_mono (ole_refl _) (oadd_mono (cyc a ha) (ole_refl _))
        rw [one_oadd] at s3
        exact olt_irrefl hlt (ole_trans c3 (ole_trans s3 s1))
      have cut1 : ∀ p a q, m1 = p ++ a :: q → a < k ∧ ole (oadd (M i a) (M a k)) (M i k) := fun p a q e1 => by
        subst e1
        have ha : a < k := a2 a (by simp)
        refine ⟨ha, ?_⟩
        rw [hu, ← a3]
        have e2 : i :: ((p ++ a :: q) ++ [k]) = (i :: p) ++ a :: (q ++ [k]) := by simp
        rw [e2, way_split]
        exact oadd_mono (h.le_way (by omega) p i a hi (by omega) (fun b hb => a2 b (by simp [hb]))) (h.le_way (by omega) q a k (by omega) hk (fun b hb => a2 b (by simp [hb])))
      have cut2 : ∀ p a q, m2 = p ++ a :: q → a < k ∧ ole (oadd (M k a) (M a j)) (M k j) := fun p a q e1 => by
        subst e1
        have ha : a < k := b2 a (by simp)
        refine ⟨ha, ?_⟩
        rw [hw, ← b3]
        have e2 : k :: ((p ++ a :: q) ++ [j]) = (k :: p) ++ a :: (q ++ [j]) := by simp
        rw [e2, way_split]
        exact oadd_mono (h.le_way (by omega) p k a hk (by omega) (fun b hb => b2 b (by simp [hb]))) (h.le_way (by omega) q a j (by omega) hj (fun b hb => b2 b (by simp [hb])))
      have d12 : ∀ a ∈ m1, a ∉ m2 := fun a h1 h2 => by
        obtain ⟨p, q, e1⟩ := List.append_of_mem h1
        obtain ⟨p', q', e2⟩ := List.append_of_mem h2
        obtain ⟨ha, c1⟩ := cut1 p a q e1
        obtain ⟨_, c2⟩ := cut2 p' a q' e2
        exact both a (by omega) c1 c2 (h.closed i j a hi hj ha)
      have i2 : i ∉ m2 := fun h2 => by
        obtain ⟨p', q', e2⟩ := List.append_of_mem h2
        obtain ⟨_, c2⟩ := cut2 p' i q' e2
        have c1 : ole (oadd (M i i) (M i k)) (M i k) := by rw [h.diag i hi, one_oadd]; exact ole_refl _
        exact both i hi c1 c2 (by rw [h.diag i hi, one_oadd]; exact ole_refl _)
      have j1 : j ∉ m1 := fun h1 => by
        obtain ⟨p, q, e1⟩ := List.append_of_mem h1
        obtain ⟨_, c1⟩ := cut1 p j q e1
        have c2 : ole (oadd (M k j) (M j j)) (M k j) := by rw [h.diag j hj, oadd_one]; exact ole_refl _
        exact both j hj c1 c2 (by rw [h.diag j hj, oadd_one]; exact ole_refl _)
      have k1 : k ∉ m1 := fun c => by have := a2 k c; omega
      have k2 : k ∉ m2 := fun c => by have := b2 k c; omega
      refine ⟨m1 ++ k :: m2, ?_, ?_, ?_⟩
      · simp only [List.nodup_cons, List.mem_append, List.nodup_append, List.mem_cons, List.not_mem_nil, or_false, List.append_assoc, List.cons_append, ne_eq] at a1 b1 ⊢
        grind
      · intro a ha
        simp only [List.mem_append, List.mem_cons] at ha
        rcases ha with ha | rfl | ha
        · have := a2 a ha; omega
        · omega
        · have := b2 a ha; omega
      · have e2 : i :: ((m1 ++ k :: m2) ++ [j]) = (i :: m1) ++ k :: (m2 ++ [j]) := by simp
        rw [e2, way_split, ← hv, hu, hw]
        have a3' : way E ((i :: m1) ++ [k]) = some u := a3
        rw [a3', b3]
  · intro i j a hi hj ha
    have hck : ∀ x y, x < n → y < n → ∀ b, b < k → ole (M x y) (oadd (M x b) (M b y)) := fun x y hx hy b hb => h.closed x y b hx hy hb
    by_cases hak : a = k
    · subst hak
      rw [thr_col hkk, thr_row hkk]
      exact thr_by a M i j
    · have hak' : a < k := by omega
      have han : a < n := by omega
      have c0 := h.closed i j a hi hj hak'
      have cik := h.closed i k a hi hk hak'
      have ckj := h.closed k j a hk hj hak'
      rcases thr_cases k M i a with e1 | ⟨e1, _⟩ <;> rcases thr_cases k M a j with e2 | ⟨e2, _⟩ <;> rw [e1, e2]
      · exact ole_trans (thr_le k M i j) c0
      · -- by a to k to j
        refine ole_trans (thr_by k M i j) ?_
        rw [← oadd_assoc]
        exact oadd_mono cik (ole_refl _)
      · refine ole_trans (thr_by k M i j) ?_
        rw [oadd_assoc]
        exact oadd_mono (ole_refl _) ckj
      · refine ole_trans (thr_by k M i j) ?_
        have s2 : oadd (oadd (M i k) (M k a)) (oadd (M a k) (M k j)) = oadd (M i k) (oadd (oadd (M k a) (M a k)) (M k j)) := by simp only [oadd_assoc]
        rw [s2]
        have s3 : ole (oadd (M i k) (oadd (some 1) (M k j))) (oadd (M i k) (oadd (oadd (M k a) (M a k)) (M k j))) := oadd_mono (ole_refl _) (oadd_mono (by rw [oadd_comm]; exact cyc a han) (ole_refl _))
        rwa [one_oadd] at s3

/-- one place of a matrix of n clocks, by the clock k: in place. -/
def upd (n k : Nat) (L : List Int) (p : Nat) : List Int :=
  if (Bd.add (L[p / n * n + k]?.getD 0) (L[k * n + p % n]?.getD 0)).1 < L[p]?.getD 0 then L.set p (Bd.add (L[p / n * n + k]?.getD 0) (L[k * n + p % n]?.getD 0)).1 else L
def thrL (n k : Nat) (L : List Int) : List Int := (List.range (n * n)).foldl (upd n k) L
theorem upd_length (n k : Nat) (L : List Int) (p : Nat) : (upd n k L p).length = L.length := by unfold upd; split <;> simp
theorem foldl_upd_length (n k : Nat) (ps : List Nat) (L : List Int) : (ps.foldl (upd n k) L).length = L.length := by
  induction ps generalizing L with
  | nil => rfl
  | cons p ps ih => rw [List.foldl_cons, ih, upd_length]
/-- is no clock's own bound below 0? -/
def diagOk (n : Nat) (L : List Int) : Bool := (List.range n).all fun i => decide (1 ≤ L[i * n + i]?.getD 0)

/-- may a bound be in a matrix? -/
def mayC (b : Int) : Bool := b == 9223372036854775807 || (decide (-288230376151711744 ≤ b / 2) && decide (b / 2 ≤ 288230376151711744))
/-- Check's error of a matrix of n clocks, with the bounds L. -/
def chk (n : Int) (L : List Int) : Int := if 1 ≤ n ∧ n ≤ 4 ∧ (L.length : Int) = n * n ∧ L.any (fun b => !(mayC b)) = false then 0 else 8


/-- the diagonal, clock by clock: each own bound lets 0 be, and is at most 0. -/
def diag1 (n : Nat) (L : List Int) (i : Nat) : Option (List Int) := if L[i * n + i]?.getD 0 < 1 then none else some (L.set (i * n + i) 1)
def stage (n : Nat) (L : List Int) (k : Nat) : Option (List Int) := if diagOk n (thrL n k L) then some (thrL n k L) else none
def closeL (n : Nat) (L : List Int) : Option (List Int) := ((List.range n).foldlM (diag1 n) L).bind fun L1 => (List.range n).foldlM (stage n) L1
/-- Close: the clocks, the bounds, and the error. -/
def close (n : Int) (L : List Int) : Int × List Int × Int :=
  if chk n L = 0 then (match closeL n.toNat L with | some L' => (n, L', 0) | none => (0, [], 6)) else (0, [], 8)
theorem diag1_len {n : Nat} {L L' : List Int} {i : Nat} (h : diag1 n L i = some L') : L'.length = L.length := by
  unfold diag1 at h; split at h
  · cases h
  · injection h with h; subst h; simp
theorem stage_len {n : Nat} {L L' : List Int} {k : Nat} (h : stage n L k = some L') : L'.length = L.length := by
  unfold stage at h; split at h
  · injection h with h; subst h; rw [thrL, foldl_upd_length]
  · cases h
theorem foldlM_len {f : List Int → Nat → Option (List Int)} (hf : ∀ {L L' i}, f L i = some L' → L'.length = L.length) : ∀ {l : List Nat} {L L' : List Int}, l.foldlM f L = some L' → L'.length = L.length
  | [], L, L', h => by simp at h; rw [h]
  | i :: l, L, L', h => by
    simp only [List.foldlM_cons] at h
    cases h1 : f L i with
    | none => rw [h1] at h; cases h
    | some L1 => rw [h1] at h; exact (foldlM_len hf h).trans (hf h1)
theorem chk_iff {n : Int} {L : List Int} : chk n L = 0 ↔ (1 ≤ n ∧ n ≤ 4 ∧ (L.length : Int) = n * n ∧ L.any (fun b => !(mayC b)) = false) := by
  unfold chk; split <;> simp_all
theorem chk_cases (n : Int) (L : List Int) : chk n L = 0 ∨ chk n L = 8 := by unfold chk; split <;> simp
theorem closeL_len {n : Nat} {L L' : List Int} (h : closeL n L = some L') : L'.length = L.length := by
  unfold closeL at h
  cases h1 : (List.range n).foldlM (diag1 n) L with
  | none => rw [h1] at h; cases h
  | some L1 => rw [h1] at h; exact (foldlM_len stage_len h).trans (foldlM_len diag1_len h1)
theorem foldlM_none {f : List Int → Nat → Option (List Int)} {L : List Int} {i N : Nat} (h : (List.range (i + 1)).foldlM f L = none) (hi : i < N) : (List.range N).foldlM f L = none := by
  obtain ⟨d, rfl⟩ : ∃ d, N = i + 1 + d := ⟨N - (i + 1), by omega⟩
  rw [List.range_add, List.foldlM_append, h]; rfl
theorem close_cases {n : Int} {L : List Int} (h : chk n L = 0) : (closeL n.toNat L = none ∧ close n L = (0, [], 6)) ∨ ∃ c, closeL n.toNat L = some c ∧ close n L = (n, c, 0) ∧ c.length = L.length := by
  cases h1 : closeL n.toNat L with
  | none => exact .inl ⟨rfl, by rw [close, if_pos h, h1]⟩
  | some c => exact .inr ⟨c, rfl, by rw [close, if_pos h, h1], closeL_len h1⟩
end Go.Proofs.Ytodpgcdandechaa.Dbm

/-
  Plain laws of lists: the first place where something holds, and how many are asked for it.
-/
namespace Go.Proofs.Ytodpgcdandechaa
set_option linter.unusedVariables false

/-- the first place where p holds; or -1. -/
def idxF {α : Type} (p : α → Bool) : List α → Int
  | [] => -1
  | x :: l => if p x then 0 else if idxF p l < 0 then -1 else idxF p l + 1
/-- how many are asked. -/
def cntF {α : Type} (p : α → Bool) : List α → Nat
  | [] => 0
  | x :: l => if p x then 1 else cntF p l + 1
theorem idxF_at {α : Type} (p : α → Bool) : ∀ (l : List α) (k : Nat) (x : α), l[k]? = some x → p x = true → (∀ j y, j < k → l[j]? = some y → p y = false) → idxF p l = k ∧ cntF p l = k + 1
  | [], k, x, h, _, _ => by simp at h
  | y :: l, 0, x, h, hp, _ => by
    injection h with h; subst h
    simp [idxF, cntF, hp]
  | y :: l, k + 1, x, h, hp, hn => by
    have h0 := hn 0 y (by omega) rfl
    obtain ⟨h1, h2⟩ := idxF_at p l k x h hp fun j z hj hz => hn (j + 1) z (by omega) hz
    simp only [idxF, cntF, h0, h1, h2]
    simp; omega
theorem idxF_none {α : Type} (p : α → Bool) : ∀ (l : List α), (∀ (j : Nat) y, l[j]? = some y → p y = false) → idxF p l = -1 ∧ cntF p l = l.length
  | [], _ => by simp [idxF, cntF]
  | y :: l, hn => by
    have h0 := hn 0 y rfl
    obtain ⟨h1, h2⟩ := idxF_none p l fun j z hz => hn (j + 1) z hz
    simp [idxF, cntF, h0, h1, h2]
theorem idxF_iff {α : Type} (p : α → Bool) (l : List α) : 0 ≤ idxF p l ↔ l.any p = true := by
  induction l with
  | nil => simp [idxF]
  | cons x l ih =>
    unfold idxF
    rw [List.any_cons]
    split
    · rename_i h; simp [h]
    · rename_i h
      have h' : p x = false := by simpa using h
      rw [h', Bool.false_or, ← ih]
      split <;> constructor <;> intro <;> omega
theorem idxF_any {α : Type} (p : α → Bool) (l : List α) : decide (0 ≤ idxF p l) = l.any p := by
  rw [Bool.eq_iff_iff, decide_eq_true_iff]; exact idxF_iff p l
end Go.Proofs.Ytodpgcdandechaa

/-
  slices.IndexFunc and ContainsFunc at a list of api.Bound: with a function that answers p of an element, and goes from T k to T (k + 1).
-/
namespace Go.Proofs.Ytodpgcdandechaa
set_option linter.unusedVariables false
set_option linter.unusedSimpArgs false
set_option maxRecDepth 100000
open Go.RowKit Go.Proofs.Ytodpgcdandechaa.Eng Enc

theorem indexB_any (l : List Int) (p : Int → Bool) (a : Option Addr) (cap : Nat) (fid : FuncId) (caps : Array Value) (B : Nat) (w : World) (hB : B ≤ w.heap.size) (hS : Sl B w (.slice a l.length cap) l)
    (T : Nat → World → Prop) (h0 : T 0 w) (hst : ∀ k W W', T k W → Below W.heap.size W W' → T k W') (en : Enters Try.prog fid)
    (hcall : ∀ k x W, l[k]? = some x → Below B w W → T k W → Calls Try.prog fid (val x :: caps.toList).toArray W fun e W' => e = .returned (.bool (p x)) ∧ Below B W W' ∧ T (k + 1) W') :
    Calls Try.prog 39 #[.slice a l.length cap, .func (.func fid) #[] caps] w fun e w' => ∃ v, e = .returned v ∧ Below B w w' ∧ v = .int .i64 (idxF p l) ∧ T (cntF p l) w' := by
  obtain ⟨a', cap', e', hcap, hmax, _⟩ := hS.form
  injection e' with e1 e2 e3
  subst e1; subst e3
  unfold maxLen at hmax
  refine fun_at 0 B w hB Try.func39 (args := [.val (.slice a l.length cap), .val (.func (.func fid) #[] caps)]) rfl rfl ?_
  refine LoopI.inv (α := Nat × World) (fun x => [(8, .val (.int .i64 x.1))]) (fun _ => []) (fun x => x.2) (fun x => x.1 ≤ l.length ∧ T x.1 x.2 ∧ Below B w x.2 ∧ ∀ j y, j < x.1 → l[j]? = some y → p y = false) (fun x => l.length - x.1) ?_ ?_
  · intro w1 h1
    exact ⟨(0, w1), Cov.mk (by repeat' (first | exact trivial | refine And.intro rfl ?_)) rfl rfl rfl rfl rfl, rfl, Nat.zero_le _, hst _ _ _ h0 h1.go, h1.below, fun j y hj => by omega⟩
  · rintro ⟨k, W⟩ ⟨hk, hT, hBw, hno⟩
    refine Branch.mk (fun hb => ?_) (fun hb => ?_)
    · have hlt : k < l.length := by simpa using hb
      obtain ⟨x, hx⟩ : ∃ x, l[k]? = some x := ⟨l[k], List.getElem?_eq_getElem hlt⟩
      refine hS.idx hx fun ad had => ?_
      refine hS.ld1 hx had hBw (by simp) ?_
      refine Need.mk en ?_
      refine CallI.mk fun w1 h1 => ?_
      have hT1 := hst _ _ _ hT h1.go
      refine (hcall k x w1 hx h1.below hT1).mono ?_
      rintro e w2 ⟨rfl, hB2, hT2⟩
      refine ⟨⟨hB2, by simp⟩, _, rfl, ?_⟩
      refine Branch.mk (fun hp => ?_) (fun hp => ?_)
      · refine EndI.mk fun w3 h3 => ?_
        obtain ⟨i1, i2⟩ := idxF_at p l k x hx hp hno
        refine ⟨by rw [i1], by rw [i2]; exact hst _ _ _ hT2 h3.go⟩
      · refine Need.mk (by show _ ∧ _; omega) (EndI.mk fun w3 h3 => ?_)
        refine ⟨(k + 1, w3), Cov.mk (by repeat' (first | exact trivial | refine And.intro rfl ?_)) rfl rfl rfl rfl rfl, rfl, ⟨hlt, hst _ _ _ hT2 h3.go, h3.below, fun j y hj hy => ?_⟩, by simp only; omega⟩
        by_cases hjk : j = k
        · subst hjk; rw [hx] at hy; injection hy with hy; subst hy; exact hp
        · exact hno j y (by omega) hy
    · have hge : k = l.length := by have : ¬ k < l.length := by simpa using hb
                                    omega
      subst hge
      refine EndI.mk fun w3 h3 => ?_
      obtain ⟨i1, i2⟩ := idxF_none p l fun j y hy => hno j y (List.getElem?_eq_some_iff.1 hy).1 hy
      exact ⟨by rw [i1], by rw [i2]; exact hst _ _ _ hT h3.go⟩

theorem containsB_any (l : List Int) (p : Int → Bool) (a : Option Addr) (cap : Nat) (fid : FuncId) (caps : Array Value) (B : Nat) (w : World) (hB : B ≤ w.heap.size) (hS : Sl B w (.slice a l.length cap) l)
    (T : Nat → World → Prop) (h0 : T 0 w) (hst : ∀ k W W', T k W → Below W.heap.size W W' → T k W') (en : Enters Try.prog fid)
    (hcall : ∀ k x W, l[k]? = some x → Below B w W → T k W → Calls Try.prog fid (val x :: caps.toList).toArray W fun e W' => e = .returned (.bool (p x)) ∧ Below B W W' ∧ T (k + 1) W') :
    Calls Try.prog 27 #[.slice a l.length cap, .func (.func fid) #[] caps] w fun e w' => ∃ v, e = .returned v ∧ Below B w w' ∧ v = .bool (l.any p) ∧ T (cntF p l) w' := by
  refine fun_at 0 B w hB Try.func27 (args := [.val (.slice a l.length cap), .val (.func (.func fid) #[] caps)]) rfl rfl ?_
  refine CallI.mk fun w1 h1 => ?_
  have hB1 : B ≤ w1.heap.size := Nat.le_trans hB h1.size
  refine (indexB_any l p a cap fid caps B w1 hB1 (hS.below h1.below) T (hst _ _ _ h0 h1.go) hst en fun k x W hx hW hT => hcall k x W hx (h1.below.trans hW) hT).mono ?_
  rintro e w2 ⟨v, rfl, hB2, rfl, hT⟩
  refine ⟨⟨hB2, by simp⟩, _, rfl, ?_⟩
  refine EndI.mk fun w3 h3 => ⟨?_, hst _ _ _ hT h3.go⟩
  rw [← idxF_any]

/-- with a function that leaves the memory alone. -/
theorem containsB_pure (l : List Int) (p : Int → Bool) (a : Option Addr) (cap : Nat) (fid : FuncId) (caps : Array Value) (w : World) (hS : Sl w.heap.size w (.slice a l.length cap) l) (en : Enters Try.prog fid)
    (hcall : ∀ x W, x ∈ l → Below w.heap.size w W → Calls Try.prog fid (val x :: caps.toList).toArray W fun e W' => e = .returned (.bool (p x)) ∧ Below W.heap.size W W') :
    Calls Try.prog 27 #[.slice a l.length cap, .func (.func fid) #[] caps] w fun e w' => e = .returned (.bool (l.any p)) ∧ Below w.heap.size w w' := by
  refine (containsB_any l p a cap fid caps w.heap.size w (Nat.le_refl _) hS (fun _ _ => True) trivial (fun _ _ _ _ _ => trivial) en fun k x W hx hB _ => ?_).mono ?_
  · refine (hcall x W (List.mem_of_getElem? hx) hB).mono ?_
    rintro e W' ⟨rfl, hB'⟩
    exact ⟨rfl, hB'.mono hB.size, trivial⟩
  · rintro e w' ⟨v, rfl, hB, rfl, _⟩
    exact ⟨rfl, hB⟩
end Go.Proofs.Ytodpgcdandechaa

/-
  slices.Clone at a list of api.Bound: a row of the call's own that shows the same list.
-/
namespace Go.Proofs.Ytodpgcdandechaa
set_option linter.unusedVariables false
set_option linter.unusedSimpArgs false
set_option maxRecDepth 100000
open Go.RowKit Go.Proofs.Ytodpgcdandechaa.Eng Enc

theorem elB : ElOk Try.prog 22 37 1 8 := elOk (z := .int .i64 0) Try.underlying22 (by kernel_rfl) rfl (by decide)
theorem cloneB_any (l : List Int) (a : Option Addr) (cap : Nat) (w : World) (hS : Sl w.heap.size w (.slice a l.length cap) l) (hlen : l.length ≤ 1000000) :
    Calls Try.prog 41 #[.slice a l.length cap] w (Ret w fun v w' => Own 37 w.heap.size w' v l) := by
  refine fun_ret 0 w Try.func41 (args := [.val (.slice a l.length cap)]) rfl rfl ?_
  refine GenV.to (fun w1 => Lib.run_eql_slice_nil w1 22 37 a l.length cap 0 0 Try.underlying22) fun w1 h1 => ?_
  refine Branch.mk (fun hb => ?_) (fun hb => ?_)
  · refine EndI.mk fun w2 h2 => ?_
    have ha : a = none := by cases a <;> simp_all
    obtain ⟨a', cap', e', hcap, hmax, hn⟩ := hS.form
    injection e' with e1 e2 e3
    subst e1; subst e3
    have h0 := hn ha
    obtain rfl : l = [] := List.eq_nil_of_length_eq_zero (by omega)
    exact Own.nil
  · refine NewI.mk fun b hb1 => ?_
    have hsrc : ∀ w2, At ⟨w, w.heap.size, Nat.le_refl _⟩ [⟨[], 37⟩] [b] [] w1 w2 → SrcC w2 (.slice a l.length cap) 1 l.length (cellsL l) := fun w2 h2 => (hS.below h2.below).src
    refine GenN.appF (α := Int) elB [] l w.heap.size rfl (fun w2 h2 => ?_) hsrc ?_ ?_ (fun w2 h2 => h2.below.size) fun v' w2 w3 h2 hB ho => ?_
    · exact ⟨rfl, .inr ⟨b, 0, #[], rfl, h2.fresh b (by simp), h2.blk 0 b _ rfl rfl, Nat.le_refl _, by simp [maxLen], rfl, rfl⟩⟩
    · simp [maxLen]; omega
    · simp; omega
    · exact EndI.mk fun w4 h4 => ho.below h4.go
end Go.Proofs.Ytodpgcdandechaa

/-
  The contracts of package dbm, by the engine: may, Check, Twin, at.
-/
namespace Go.Proofs.Ytodpgcdandechaa
set_option linter.unusedVariables false
set_option linter.unusedSimpArgs false
set_option maxRecDepth 100000
open Go.RowKit Go.Proofs.Ytodpgcdandechaa.Eng Enc

theorem Dbm.value_spec (b : Int) : ((b / 2 < -2305843009213693952 ∨ 2305843009213693952 < b / 2) ∧ b ≠ 9223372036854775807 ∧ Bd.value b = (0, false, 8)) ∨ (b = 9223372036854775807 ∧ Bd.value b = (0, false, 6)) ∨ (b ≠ 9223372036854775807 ∧ Bd.value b = (b / 2, Bd.st b, 0)) := by
  by_cases hn : b = 9223372036854775807
  · subst hn; exact .inr (.inl ⟨rfl, Bd.value_none⟩)
  · cases hm : Bd.may b with
    | true => exact .inr (.inr ⟨hn, Bd.value_yes hm hn⟩)
    | false =>
      refine .inl ⟨?_, hn, Bd.value_bad hm⟩
      have h2 : Num.okB (b / 2) = false := by simpa [Bd.may, hn] using hm
      exact Num.okB_no.1 h2
theorem dmay_any (b : Int) (w : World) :
    Calls Try.prog 29 #[.int .i64 b] w fun e w' => e = .returned (.bool (Dbm.mayC b)) ∧ Below w.heap.size w w' := by
  refine fun_eq 0 w Try.func29 (args := [.val (.int .i64 b)]) rfl rfl ?_
  repeat' (first
    | (refine CallI.to1 (value_any _) fun w2 => ?_)
    | (refine Branch.yes rfl ?_)
    | (refine Branch.no rfl ?_)
    | (refine Branch.mk (fun hb => ?_) (fun hb => ?_))
    | (refine NewI.mk fun nb hnb => ?_)
    | (refine Need.mk (by show _ ∧ _; omega) ?_)
    | (refine Need.mk (by omega) ?_)
    | (refine Need.mk ?_ ?_)
    | (refine EndI.mk fun w1 h1 => ?_))
  all_goals
    congr 1
    clear h1
    simp only [Dbm.mayC]
    rcases Dbm.value_spec b with ⟨k1, k2, hv⟩ | ⟨k1, hv⟩ | ⟨k1, hv⟩ <;> simp only [hv, decide_eq_true_eq, decide_eq_false_iff_not] at * <;> grind
theorem check1_any (b : Int) (w : World) :
    Calls Try.prog 28 #[.int .i64 b] w fun e w' => e = .returned (.bool (!(Dbm.mayC b))) ∧ Below w.heap.size w w' := by
  refine fun_eq 0 w Try.func28 (args := [.val (.int .i64 b)]) rfl rfl ?_
  repeat' (first
    | (refine CallI.to1 (dmay_any _) fun w2 => ?_)
    | (refine Branch.yes rfl ?_)
    | (refine Branch.no rfl ?_)
    | (refine Branch.mk (fun hb => ?_) (fun hb => ?_))
    | (refine NewI.mk fun nb hnb => ?_)
    | (refine Need.mk (by show _ ∧ _; omega) ?_)
    | (refine Need.mk (by omega) ?_)
    | (refine Need.mk ?_ ?_)
    | (refine EndI.mk fun w1 h1 => ?_))
  rfl
theorem dcheck_any (n : Int) (a : Option Addr) (cap : Nat) (L : List Int) (w : World) (hS : Sl w.heap.size w (.slice a L.length cap) L) :
    Calls Try.prog 12 #[.agg #[.int .i64 n, .slice a L.length cap]] w fun e w' => e = .returned (.int .i64 (Dbm.chk n L)) ∧ Below w.heap.size w w' := by
  refine fun_eq 0 w Try.func12 (args := [.agg [.val (.int .i64 n), .val (.slice a L.length cap)]]) rfl rfl ?_
  have sq : ∀ h1 : ¬ n < 1, ¬ n > 4 → 1 ≤ n * n ∧ n * n ≤ 16 := fun h1 h2 => by
    rcases (by omega : n = 1 ∨ n = 2 ∨ n = 3 ∨ n = 4) with rfl | rfl | rfl | rfl <;> simp
  repeat' (first
    | (apply CallI.use1; (focus (exact fun w1 h1 => containsB_pure L (fun b => !(Dbm.mayC b)) a cap 28 #[] w1 (Sl.at h1 hS) Try.call28 fun x W _ _ => check1_any x W)); intro w1 w2 h1 hB)
    | (refine Branch.yes rfl ?_)
    | (refine Branch.no rfl ?_)
    | (refine Branch.mk (fun hb => ?_) (fun hb => ?_))
    | (refine NewI.mk fun nb hnb => ?_)
    | (refine Need.mk (by show _ ∧ _; omega) ?_)
    | (refine Need.mk (by omega) ?_)
    | (refine Need.mk ?_ ?_)
    | (refine EndI.mk fun w1 h1 => ?_))
  all_goals try (show _ ∧ _; have := sq (by simpa using ‹decide (n < 1) = false›) (by simpa using ‹decide (4 < n) = false›); omega)
  all_goals try (congr 1; clear hS sq; simp_all [Dbm.chk] <;> omega)

/-- dbm.Twin: a row of the call's own. -/
theorem twin_any (n : Int) (a : Option Addr) (cap : Nat) (L : List Int) (hlen : L.length ≤ 1000000) (w : World) (hS : Sl w.heap.size w (.slice a L.length cap) L) :
    Calls Try.prog 30 #[.agg #[.int .i64 n, .slice a L.length cap]] w (Ret w fun v w' => ∃ a' cap', v = .agg #[.int .i64 n, .slice a' L.length cap'] ∧ Own 37 w.heap.size w' (.slice a' L.length cap') L) := by
  refine fun_ret 0 w Try.func30 (args := [.agg [.val (.int .i64 n), .val (.slice a L.length cap)]]) rfl rfl ?_
  refine NewI.mk fun b1 hb1 => ?_
  refine NewI.mk fun b2 hb2 => ?_
  refine DrawI.wr (.tk 0 (.tk 1 (.tk 2 (.tk 3 (.ev 4 (.tk 5 (.ev 6 .done))))))) [1] [] (by kernel_rfl) rfl (fun _ _ => by simp) fun w1 h1 => ?_
  apply CallI.use
  · exact fun w2 h2 => cloneB_any L a cap w2 (Sl.at h2 hS) hlen
  intro v w2 w3 h2 hB hO
  obtain ⟨a', cap', rfl⟩ := hO.form
  exact EndI.mk fun w4 h4 => ⟨_, _, rfl, (hO.at h4 (by intro b hb; have := h2.lt b; simp_all)).lower h2.below.size⟩

/-- a matrix under way, of n clocks, at block h; its bounds lie in a row at block g. -/
structure Mat (W : World) (h g : Nat) (n : Int) (len cap : Nat) : Prop where
  c0 : W.cell? ⟨h, 0, none⟩ = some (.int .i64 n)
  c1 : W.cell? ⟨h, 1, none⟩ = some (.slice (some ⟨g, 0, none⟩) len cap)
theorem Mat.lt {W : World} {h g : Nat} {n : Int} {len cap : Nat} (m : Mat W h g n len cap) : h < W.heap.size := World.block_lt_of_cell? _ _ m.c0
theorem Mat.of_block {W W' : World} {h g : Nat} {n : Int} {len cap : Nat} (m : Mat W h g n len cap) (hb : W'.heap[h]? = W.heap[h]?) : Mat W' h g n len cap :=
  ⟨(World.cell?_of_block (a := ⟨h, 0, none⟩) hb).trans m.c0, (World.cell?_of_block (a := ⟨h, 1, none⟩) hb).trans m.c1⟩
theorem Mat.below {W W' : World} {h g : Nat} {n : Int} {len cap : Nat} (m : Mat W h g n len cap) (hB : Below W.heap.size W W') : Mat W' h g n len cap := m.of_block (hB.block h m.lt)

theorem at_any (n i j : Int) (h g len cap : Nat) (h0 : 0 ≤ i * n + j) (h1 : i * n + j < len) (hin : inK .i64 (i * n) ∧ inK .i64 (i * n + j)) (w : World) (hM : Mat w h g n len cap) :
    Calls Try.prog 31 #[.pointer (some ⟨h, 0, none⟩), .int .i64 i, .int .i64 j] w fun e w' => e = .returned (.pointer (some ⟨g, (i * n + j).toNat, none⟩)) ∧ Below w.heap.size w w' := by
  refine fun_eq 0 w Try.func31 (args := [.val (.pointer (some ⟨h, 0, none⟩)), .val (.int .i64 i), .val (.int .i64 j)]) rfl rfl ?_
  refine DrawI.go (.tk 0 (.tk 1 (.tk 2 (.tk 3 (.tk 4 (.tk 5 (.tk 6 (.tk 7 (.tk 8 (.tk 9 (.tk 10 (.tk 11 (.tk 12 (.tk 13 (.tk 14 (.tk 15 .done)))))))))))))))) (by kernel_rfl) fun w1 k1 => ?_
  have hM1 := hM.below k1.go
  refine LoadI.mk ⟨_, ⟨hM1.c1, by simp⟩, ?_⟩
  refine LoadI.mk ⟨_, ⟨hM1.c0, by simp⟩, ?_⟩
  refine Need.mk hin.1 ?_
  refine Need.mk hin.2 ?_
  refine IdxI.mk ⟨_, ⟨rfl, h0, h1⟩, ?_⟩
  refine EndI.mk fun w2 k2 => ?_
  simp [addr_addL]
end Go.Proofs.Ytodpgcdandechaa

/-
  Memory that a call makes by append: one law at whatever source (no cells, or cells at an address).
-/
namespace Go.Proofs.Ytodpgcdandechaa
set_option linter.unusedVariables false
open Go.RowKit

/-- what is appended: m elements of so many cells each, which hold news. -/
def Src (w : World) (sv : Value) (size m : Nat) (news : List Value) : Prop :=
  news.length = m * size ∧ ((sv = .slice none 0 0 ∧ m = 0) ∨ ∃ ad c, sv = .slice (some ad) m c ∧ ∀ j u, news[j]? = some u → w.cell? (ad.add j) = some u)

/-- The slice value sv holds the ints zs, in a block below n; or it is empty. -/
def Ints (n : Nat) (W : World) (sv : Value) (zs : List Int) : Prop :=
  (∃ a cap, sv = .slice a 0 cap ∧ (a = none → cap = 0) ∧ zs = []) ∨ ∃ b off cap, sv = .slice (some ⟨b, off, none⟩) zs.length cap ∧ b < n ∧ ∀ j, j < zs.length → W.cell? ⟨b, off + j, none⟩ = some (.int .i64 (zs[j]?.getD 0))
theorem Ints.below {n : Nat} {A B : World} (h : Below n A B) {sv : Value} {zs : List Int} : Ints n A sv zs → Ints n B sv zs
  | .inl e => .inl e
  | .inr ⟨b, off, cap, e, hb, hc⟩ => .inr ⟨b, off, cap, e, hb, fun j hj => (h.cell (p := ⟨b, off + j, none⟩) hb).trans (hc j hj)⟩
theorem Ints.upto {n m : Nat} {A : World} (h : n ≤ m) {sv : Value} {zs : List Int} : Ints n A sv zs → Ints m A sv zs
  | .inl e => .inl e
  | .inr ⟨b, off, cap, e, hb, hc⟩ => .inr ⟨b, off, cap, e, Nat.lt_of_lt_of_le hb h, hc⟩

theorem Ints.src {n : Nat} {W : World} {sv : Value} {zs : List Int} (h : Ints n W sv zs) : Src W sv 1 zs.length (zs.map (Value.int .i64)) := by
  rcases h with ⟨a, cap, rfl, hn, rfl⟩ | ⟨b, off, cap, rfl, hb, hc⟩
  · refine ⟨rfl, ?_⟩
    cases a with
    | none => obtain rfl := hn rfl; exact .inl ⟨rfl, rfl⟩
    | some ad => exact .inr ⟨ad, cap, rfl, fun j u hu => by simp at hu⟩
  · refine ⟨by simp, .inr ⟨⟨b, off, none⟩, cap, rfl, fun j u hu => ?_⟩⟩
    rw [List.getElem?_map] at hu
    cases hz : zs[j]? with
    | none => rw [hz] at hu; cases hu
    | some z =>
      rw [hz] at hu
      have hj : j < zs.length := (List.getElem?_eq_some_iff.1 hz).1
      have := hc j hj
      rw [hz] at this
      rw [Addr.add_lit, this]
      exact hu
/-- the ints L lie at the head of block g, which may be written. -/
def RowAt (T : TypeId) (W : World) (g : Nat) (L : List Int) : Prop :=
  ∃ cur : Array Value, W.heap[g]? = some (.cells cur T (0, 0)) ∧ L.length ≤ cur.size ∧ ∀ j, j < L.length → cur[j]? = some (.int .i64 (L[j]?.getD 0))
theorem RowAt.lt {T : TypeId} {W : World} {g : Nat} {L : List Int} (h : RowAt T W g L) : g < W.heap.size := by
  obtain ⟨cur, hg, _⟩ := h; exact (Array.getElem?_eq_some_iff.1 hg).1
theorem RowAt.cell {T : TypeId} {W : World} {g : Nat} {L : List Int} (h : RowAt T W g L) {j : Nat} (hj : j < L.length) : W.cell? ⟨g, j, none⟩ = some (.int .i64 (L[j]?.getD 0)) := by
  obtain ⟨cur, hg, _, hc⟩ := h
  simp [World.cell?, hg, hc j hj]
theorem RowAt.frozen {T : TypeId} {W : World} {g : Nat} {L : List Int} (h : RowAt T W g L) (j : Nat) : W.frozen? ⟨g, j, none⟩ = false := by
  obtain ⟨cur, hg, _, hc⟩ := h
  simp [World.frozen?, hg]
theorem RowAt.kept {T : TypeId} {W W' : World} {g : Nat} {L : List Int} (h : RowAt T W g L) (hb : W'.heap[g]? = W.heap[g]?) : RowAt T W' g L := by
  obtain ⟨cur, hg, r⟩ := h; exact ⟨cur, hb.trans hg, r⟩
theorem RowAt.below {T : TypeId} {n : Nat} {W W' : World} {g : Nat} {L : List Int} (h : RowAt T W g L) (hb : Below n W W') (hn : g < n) : RowAt T W' g L := h.kept (hb.block g hn)
theorem RowAt.set {T : TypeId} {W : World} {g : Nat} {L : List Int} (h : RowAt T W g L) {j : Nat} (hj : j < L.length) (x : Int) : RowAt T (W.setCell ⟨g, j, none⟩ (.int .i64 x)) g (L.set j x) := by
  obtain ⟨cur, hg, hl, hc⟩ := h
  have hlt := (Array.getElem?_eq_some_iff.1 hg).1
  refine ⟨cur.setIfInBounds j (.int .i64 x), ?_, by simpa using hl, fun i hi => ?_⟩
  · simp only [World.setCell]
    rw [Array.getElem?_modify, if_pos rfl, hg]
    rfl
  · simp only [List.length_set] at hi
    rw [Array.getElem?_setIfInBounds, List.getElem?_set]
    by_cases hij : j = i
    · subst hij
      rw [if_pos rfl, if_pos rfl, if_pos (by omega), if_pos hj]; rfl
    · rw [if_neg hij, if_neg hij]
      exact hc i hi
theorem RowAt.of_own {T : TypeId} {W : World} {base g cap : Nat} {L : List Int} (h : W.ownsRow base T 1 (.slice (some ⟨g, 0, none⟩) L.length cap) L.length (L.map (Value.int .i64))) : RowAt T W g L ∧ base ≤ g := by
  obtain ⟨_, ⟨e, _⟩ | ⟨g', cap', cur, e, hb, hg, hn, hcap, hsz, htake⟩⟩ := h
  · cases e
  · injection e with e1 e2 e3
    simp only [Option.some.injEq, Addr.mk.injEq, and_true] at e1
    subst e1
    refine ⟨⟨cur, hg, by omega, fun j hj => ?_⟩, hb⟩
    have h1 : (cur.toList.take (L.length * 1))[j]? = (L.map (Value.int .i64))[j]? := by rw [htake]
    rw [List.getElem?_take, if_pos (by omega), List.getElem?_map] at h1
    rw [List.getElem?_eq_getElem hj] at h1 ⊢
    simpa using h1
end Go.Proofs.Ytodpgcdandechaa

/-
  The contract of dbm.pairs: all pairs of clocks, row by row.
-/
namespace Go.Proofs.Ytodpgcdandechaa
set_option linter.unusedVariables false
open Go.RowKit Go.Shelf
attribute [local go_sem] Oper.semAt_some

/-- pairs(n): n is boxed; the closure captures the box. -/
theorem pairs_any (n : Int) (w : World) :
    CallsIn Fence.wide 8 Try.prog 42 #[.int .i64 n] w fun e w' => e = .returned (.func (.func 50) #[] #[.pointer (some ⟨w.heap.size, 0, none⟩)]) ∧ w' = w.alloc (.cells #[.int .i64 n] 3) := by
  refine callsIn_of_wp Try.func42 rfl trivial ?_ rfl
  simp only [Try.ntmps42, List.size_toArray, List.length_cons, List.length_nil, Nat.reduceAdd, Nat.reduceSub, Array.replicate_succ, Array.replicate_zero, List.push_toArray, List.append_toArray, List.nil_append, List.cons_append]
  gi_wp2
  go_ret
  exact ⟨rfl, rfl⟩

abbrev encPr (n : Int) (k : Nat) : Array Value := #[.int .i64 ((k : Int) / n), .int .i64 ((k : Int) % n)]
/-- what a round keeps for the iterator: its box. -/
def KeepsBox (Bs : Nat) (W W' : World) : Prop := W'.cell? ⟨Bs, 0, none⟩ = W.cell? ⟨Bs, 0, none⟩

theorem one_bool {e : Ending} {p q : Prop} (h : (e = .returned (.bool true) ∧ p) ∨ (e = .returned (.bool false) ∧ q)) : ∃ b, e = .returned (.bool b) ∧ ((b = true ∧ p) ∨ (b = false ∧ q)) := by
  rcases h with ⟨rfl, h⟩ | ⟨rfl, h⟩
  · exact ⟨true, rfl, .inl ⟨rfl, h⟩⟩
  · exact ⟨false, rfl, .inr ⟨rfl, h⟩⟩

set_option maxRecDepth 100000 in
set_option maxHeartbeats 2000000 in
theorem pairs1_in (n : Int) (hn1 : 1 ≤ n) (hn4 : n ≤ 4) (l Bs : Nat) (J Jx : List Nat → World → Prop)
    (hY : ∀ pre x W, J pre W → pre.length < (n * n).toNat → x < (n * n).toNat → YieldAt Fence.wide 7 Try.prog l (encPr n x) W fun e W' =>
      (e = .returned (.bool true) ∧ J (pre ++ [x]) W' ∧ KeepsBox Bs W W') ∨ (e = .returned (.bool false) ∧ Jx (pre ++ [x]) W'))
    (hJd : ∀ pre W, J pre W → J pre W.drew)
    (W : World) (hBs : W.cell? ⟨Bs, 0, none⟩ = some (.int .i64 n)) (h0 : J [] W) :
    CallsIn Fence.wide 8 Try.prog 50 #[.func (.yield l) #[] #[], .pointer (some ⟨Bs, 0, none⟩)] W fun e W' => (∃ v, e = .returned v) ∧
      ((∃ ys, ys = List.range (n * n).toNat ∧ J ys W') ∨ (∃ pre, (∃ k, k ≤ (n * n).toNat ∧ pre = List.range k) ∧ Jx pre W')) := by
  rcases (by omega : n = 1 ∨ n = 2 ∨ n = 3 ∨ n = 4) with rfl | rfl | rfl | rfl
  · refine callsIn_of_wp Try.func50 rfl trivial ?_ rfl
    simp only [Try.ntmps50, List.size_toArray, List.length_cons, List.length_nil, Nat.reduceAdd, Nat.reduceSub, Array.replicate_succ, Array.replicate_zero, List.push_toArray, List.append_toArray, List.nil_append, List.cons_append]
    simp only [Int.reduceMul, Int.reduceToNat] at hY ⊢
    gi_wp2
    gi_loopw [7] (fun i wr => ∃ k : Nat, k ≤ 1 ∧ i = .int .i64 k ∧ J (List.range k) wr ∧ wr.cell? ⟨Bs, 0, none⟩ = some (.int .i64 1)) (fun i _ => 1 - (intOf i).toNat)
    case atStart => exact ⟨0, Nat.zero_le _, rfl, h0, hBs⟩
    case round =>
      obtain ⟨k, hk, rfl, hJs, hc⟩ := hrel
      have hmix : Try.prog.follows .mixedOrders = true := by kernel_rfl
      by_cases hlt : k < 1
      · obtain ⟨fn, tmps, assign, body, hy, hR⟩ := hY _ k wr.drew (hJd _ _ hJs) (by simpa using hlt) hlt
        simp only [encPr, Int.ediv_one, Int.emod_one] at hy
        gi_wp2
        have hw : IntKind.i64.wrap (k : Int) = k := IntWalk.i64_in _ (by omega)
        gi_region_with_o (refine hR.mono ?_; intro e W3 h3; obtain ⟨bb, rfl, hbb⟩ := one_bool h3)
        all_goals clear hw
        all_goals rcases hbb with ⟨rfl, hJ3, hk3⟩ | ⟨rfl, hJx3⟩
        all_goals gi_wp2
        all_goals first
          | (go_roundw
             case rel => exact ⟨k + 1, by omega, by go_num, by rw [List.range_succ]; exact hJ3, hk3.trans hc⟩
             case measure => simp [intOf]; omega)
          | (refine bodyPost_ret (results_none rfl _ _ _) rfl ?_
             exact ⟨⟨_, rfl⟩, .inr ⟨_, ⟨k + 1, by omega, (List.range_succ).symm⟩, hJx3⟩⟩)
      · obtain rfl : k = 1 := by omega
        gi_wp2
        go_end0
        exact ⟨⟨_, rfl⟩, .inl ⟨_, rfl, hJs⟩⟩
  · refine callsIn_of_wp Try.func50 rfl trivial ?_ rfl
    simp only [Try.ntmps50, List.size_toArray, List.length_cons, List.length_nil, Nat.reduceAdd, Nat.reduceSub, Array.replicate_succ, Array.replicate_zero, List.push_toArray, List.append_toArray, List.nil_append, List.cons_append]
    simp only [Int.reduceMul, Int.reduceToNat] at hY ⊢
    gi_wp2
    gi_loopw [7] (fun i wr => ∃ k : Nat, k ≤ 4 ∧ i = .int .i64 k ∧ J (List.range k) wr ∧ wr.cell? ⟨Bs, 0, none⟩ = some (.int .i64 2)) (fun i _ => 4 - (intOf i).toNat)
    case atStart => exact ⟨0, Nat.zero_le _, rfl, h0, hBs⟩
    case round =>
      obtain ⟨k, hk, rfl, hJs, hc⟩ := hrel
      have hmix : Try.prog.follows .mixedOrders = true := by kernel_rfl
      by_cases hlt : k < 4
      · obtain ⟨fn, tmps, assign, body, hy, hR⟩ := hY _ k wr.drew (hJd _ _ hJs) (by simpa using hlt) hlt
        dsimp only [encPr] at hy
        gi_wp2
        have hq : (k : Int).tdiv 2 = (k : Int) / 2 := Int.tdiv_eq_ediv_of_nonneg (by omega)
        have hm : (k : Int).tmod 2 = (k : Int) % 2 := Int.tmod_eq_emod_of_nonneg (by omega)
        have hw : IntKind.i64.wrap ((k : Int) / 2) = (k : Int) / 2 := IntWalk.i64_in _ (by omega)
        gi_region_with_o (refine hR.mono ?_; intro e W3 h3; obtain ⟨bb, rfl, hbb⟩ := one_bool h3)
        all_goals clear hw hq hm
        all_goals rcases hbb with ⟨rfl, hJ3, hk3⟩ | ⟨rfl, hJx3⟩
        all_goals gi_wp2
        all_goals first
          | (go_roundw
             case rel => exact ⟨k + 1, by omega, by go_num, by rw [List.range_succ]; exact hJ3, hk3.trans hc⟩
             case measure => simp [intOf]; omega)
          | (refine bodyPost_ret (results_none rfl _ _ _) rfl ?_
             exact ⟨⟨_, rfl⟩, .inr ⟨_, ⟨k + 1, by omega, (List.range_succ).symm⟩, hJx3⟩⟩)
      · obtain rfl : k = 4 := by omega
        gi_wp2
        go_end0
        exact ⟨⟨_, rfl⟩, .inl ⟨_, rfl, hJs⟩⟩
  · refine callsIn_of_wp Try.func50 rfl trivial ?_ rfl
    simp only [Try.ntmps50, List.size_toArray, List.length_cons, List.length_nil, Nat.reduceAdd, Nat.reduceSub, Array.replicate_succ, Array.replicate_zero, List.push_toArray, List.append_toArray, List.nil_append, List.cons_append]
    simp only [Int.reduceMul, Int.reduceToNat] at hY ⊢
    gi_wp2
    gi_loopw [7] (fun i wr => ∃ k : Nat, k ≤ 9 ∧ i = .int .i64 k ∧ J (List.range k) wr ∧ wr.cell? ⟨Bs, 0, none⟩ = some (.int .i64 3)) (fun i _ => 9 - (intOf i).toNat)
    case atStart => exact ⟨0, Nat.zero_le _, rfl, h0, hBs⟩
    case round =>
      obtain ⟨k, hk, rfl, hJs, hc⟩ := hrel
      have hmix : Try.prog.follows .mixedOrders = true := by kernel_rfl
      by_cases hlt : k < 9
      · obtain ⟨fn, tmps, assign, body, hy, hR⟩ := hY _ k wr.drew (hJd _ _ hJs) (by simpa using hlt) hlt
        dsimp only [encPr] at hy
        gi_wp2
        have hq : (k : Int).tdiv 3 = (k : Int) / 3 := Int.tdiv_eq_ediv_of_nonneg (by omega)
        have hm : (k : Int).tmod 3 = (k : Int) % 3 := Int.tmod_eq_emod_of_nonneg (by omega)
        have hw : IntKind.i64.wrap ((k : Int) / 3) = (k : Int) / 3 := IntWalk.i64_in _ (by omega)
        gi_region_with_o (refine hR.mono ?_; intro e W3 h3; obtain ⟨bb, rfl, hbb⟩ := one_bool h3)
        all_goals clear hw hq hm
        all_goals rcases hbb with ⟨rfl, hJ3, hk3⟩ | ⟨rfl, hJx3⟩
        all_goals gi_wp2
        all_goals first
          | (go_roundw
             case rel => exact ⟨k + 1, by omega, by go_num, by rw [List.range_succ]; exact hJ3, hk3.trans hc⟩
             case measure => simp [intOf]; omega)
          | (refine bodyPost_ret (results_none rfl _ _ _) rfl ?_
             exact ⟨⟨_, rfl⟩, .inr ⟨_, ⟨k + 1, by omega, (List.range_succ).symm⟩, hJx3⟩⟩)
      · obtain rfl : k = 9 := by omega
        gi_wp2
        go_end0
        exact ⟨⟨_, rfl⟩, .inl ⟨_, rfl, hJs⟩⟩
  · refine callsIn_of_wp Try.func50 rfl trivial ?_ rfl
    simp only [Try.ntmps50, List.size_toArray, List.length_cons, List.length_nil, Nat.reduceAdd, Nat.reduceSub, Array.replicate_succ, Array.replicate_zero, List.push_toArray, List.append_toArray, List.nil_append, List.cons_append]
    simp only [Int.reduceMul, Int.reduceToNat] at hY ⊢
    gi_wp2
    gi_loopw [7] (fun i wr => ∃ k : Nat, k ≤ 16 ∧ i = .int .i64 k ∧ J (List.range k) wr ∧ wr.cell? ⟨Bs, 0, none⟩ = some (.int .i64 4)) (fun i _ => 16 - (intOf i).toNat)
    case atStart => exact ⟨0, Nat.zero_le _, rfl, h0, hBs⟩
    case round =>
      obtain ⟨k, hk, rfl, hJs, hc⟩ := hrel
      have hmix : Try.prog.follows .mixedOrders = true := by kernel_rfl
      by_cases hlt : k < 16
      · obtain ⟨fn, tmps, assign, body, hy, hR⟩ := hY _ k wr.drew (hJd _ _ hJs) (by simpa using hlt) hlt
        dsimp only [encPr] at hy
        gi_wp2
        have hq : (k : Int).tdiv 4 = (k : Int) / 4 := Int.tdiv_eq_ediv_of_nonneg (by omega)
        have hm : (k : Int).tmod 4 = (k : Int) % 4 := Int.tmod_eq_emod_of_nonneg (by omega)
        have hw : IntKind.i64.wrap ((k : Int) / 4) = (k : Int) / 4 := IntWalk.i64_in _ (by omega)
        gi_region_with_o (refine hR.mono ?_; intro e W3 h3; obtain ⟨bb, rfl, hbb⟩ := one_bool h3)
        all_goals clear hw hq hm
        all_goals rcases hbb with ⟨rfl, hJ3, hk3⟩ | ⟨rfl, hJx3⟩
        all_goals gi_wp2
        all_goals first
          | (go_roundw
             case rel => exact ⟨k + 1, by omega, by go_num, by rw [List.range_succ]; exact hJ3, hk3.trans hc⟩
             case measure => simp [intOf]; omega)
          | (refine bodyPost_ret (results_none rfl _ _ _) rfl ?_
             exact ⟨⟨_, rfl⟩, .inr ⟨_, ⟨k + 1, by omega, (List.range_succ).symm⟩, hJx3⟩⟩)
      · obtain rfl : k = 16 := by omega
        gi_wp2
        go_end0
        exact ⟨⟨_, rfl⟩, .inl ⟨_, rfl, hJs⟩⟩

/-- a pair's number: below so many. -/
abbrev PIdx (N : Nat) := { k : Nat // k < N }
abbrev encPI (n : Int) {N : Nat} (k : PIdx N) : Array Value := encPr n k.1

theorem pairs_stops (n : Int) (hn1 : 1 ≤ n) (hn4 : n ≤ 4) (N : Nat) (hN : N = (n * n).toNat) (Bs : Nat) (w : World) (hBs : Bs < w.heap.size) (hc : w.cell? ⟨Bs, 0, none⟩ = some (.int .i64 n)) :
    SeqStopsK Fence.wide 8 Try.prog 50 #[.pointer (some ⟨Bs, 0, none⟩)] (encPI n (N := N)) (KeepsBox Bs) (fun ys => ys.map (·.1) = List.range N) (fun pre => ∃ k, k ≤ N ∧ pre.map (·.1) = List.range k) N w := fun l J Jx W hW hJ _ hY h0 => by
  subst hN
  have hc' := (hW.cell (p := ⟨Bs, 0, none⟩) hBs).trans hc
  -- the numbers' own list, of those below so many
  refine (pairs1_in n hn1 hn4 l Bs (fun pre W => ∃ pre' : List (PIdx (n * n).toNat), pre'.map (·.1) = pre ∧ J pre' W) (fun pre W => ∃ pre' : List (PIdx (n * n).toNat), pre'.map (·.1) = pre ∧ Jx pre' W)
    ?_ ?_ W hc' ⟨[], rfl, h0⟩).mono ?_
  · rintro pre x W1 ⟨pre', h1, h2⟩ hlen hx
    have hl : pre'.length < (n * n).toNat := by rw [← h1] at hlen; simpa using hlen
    obtain ⟨fn, tmps, assign, body, hy, hR⟩ := hY pre' ⟨x, hx⟩ W1 h2 hl
    refine ⟨fn, tmps, assign, body, hy, hR.mono ?_⟩
    rintro e W' (⟨rfl, h3, h4⟩ | ⟨rfl, h3⟩)
    · exact .inl ⟨rfl, ⟨_, by simp [h1], h3⟩, h4⟩
    · exact .inr ⟨rfl, _, by simp [h1], h3⟩
  · rintro pre W1 ⟨pre', h1, h2⟩
    exact ⟨pre', h1, hJ pre' W1 W1.drew none h2 ⟨rfl, rfl, rfl, Nat.le_refl _, fun _ _ _ => rfl⟩ (fun r e => by cases e)⟩
  · rintro e W1 ⟨he, ⟨ys, rfl, pre', h1, h2⟩ | ⟨pre, ⟨k, hk, rfl⟩, pre', h1, h3⟩⟩
    · exact ⟨he, .inl ⟨pre', h1, h2⟩⟩
    · exact ⟨he, .inr ⟨pre', ⟨k, hk, h1⟩, h3⟩⟩

end Go.Proofs.Ytodpgcdandechaa

/-
  Small laws for a loop over a function whose body writes a row that lay ahead of it: what the loop's book-keeping leaves alone.
-/
namespace Go.Proofs.Ytodpgcdandechaa
set_option linter.unusedVariables false
open Go.RowKit

theorem keepsBox_put {Bs : Nat} {w : World} (hb : Bs < w.heap.size) (W : World) (l : Nat) (o o' : Obj) (hl : w.heap.size ≤ l) (h : W.heap[l]? = some o) (_ : o.isCells = false) (_ : o.isWalk = false) : KeepsBox Bs W (W.putObj l o') :=
  World.cell?_of_block (World.putObj_heap_other (by show Bs ≠ l; omega))
theorem ownFrom_rowAt {β : Type} {B : Nat} (T : TypeId) {g : Nat} (f : β → List Int) : OwnFrom B (fun s W => RowAt T W g (f s)) := fun s W W' row hs hg hr =>
  hs.kept (hg.block g hs.lt (fun e => by
    obtain ⟨_, o, ho, hc⟩ := hr g e.symm
    obtain ⟨cur, hcur, _⟩ := hs
    rw [hcur] at ho; cases ho; cases hc))
theorem ownFrom_grown {β : Type} {w : World} {B : Nat} {row0 : Option Nat} (hB : w.heap.size ≤ B) : OwnFrom B (fun (_ : β) W => w.grownBy W row0) := fun s W W' row hs hg hr =>
  ⟨hg.os.trans hs.os, hg.tape.trans hs.tape, hg.output.trans hs.output, Nat.le_trans hs.size hg.size, fun k hk hne =>
    (hg.block k (Nat.lt_of_lt_of_le hk hs.size) (fun e => by have := (hr k e.symm).1; omega)).trans (hs.block k hk hne)⟩
theorem grown_refl (w : World) (row : Option Nat) : w.grownBy w row := ⟨rfl, rfl, rfl, Nat.le_refl _, fun _ _ _ => rfl⟩
theorem grown_trans {a b c : World} {row : Option Nat} (h : a.grownBy b row) (k : b.grownBy c row) : a.grownBy c row :=
  ⟨k.os.trans h.os, k.tape.trans h.tape, k.output.trans h.output, Nat.le_trans h.size k.size, fun i hi hne => (k.block i (Nat.lt_of_lt_of_le hi h.size) hne).trans (h.block i hi hne)⟩
theorem grown_alloc {a b : World} {row : Option Nat} (h : a.grownBy b row) (o : Obj) : a.grownBy (b.alloc o) row := grown_trans h (World.grownBy_alloc b o row)
theorem grown_below {a b c : World} {row : Option Nat} (h : a.grownBy b row) (k : Below b.heap.size b c) : a.grownBy c row :=
  grown_trans h ⟨k.os, k.tape, k.output, k.size, fun i hi _ => k.block i hi⟩
theorem grown_set {a b : World} {g : Nat} (h : a.grownBy b (some g)) (j : Nat) (v : Value) : a.grownBy (b.setCell ⟨g, j, none⟩ v) (some g) :=
  grown_trans h ⟨rfl, rfl, rfl, by simp [World.setCell], fun i hi hne => Below.heap_setCell _ _ _ _ (fun e => hne (by rw [e]))⟩
end Go.Proofs.Ytodpgcdandechaa

/-
  The contract of (*dbm.matrix).through, by the engine: one stage of closing a matrix.
-/
namespace Go.Proofs.Ytodpgcdandechaa
set_option linter.unusedVariables false
set_option linter.unusedSimpArgs false
set_option maxRecDepth 100000
open Go.RowKit Go.Proofs.Ytodpgcdandechaa.Eng Enc

theorem idx_ik {n x k : Nat} (hn : 1 ≤ n) (hn4 : n ≤ 4) (hx : x < n * n) (hk : k < n) : 0 ≤ (x : Int) / n * n + k ∧ (x : Int) / n * n + k < ((n * n : Nat) : Int) ∧ inK .i64 ((x : Int) / n * n) ∧ inK .i64 ((x : Int) / n * n + k) := by
  rcases (by omega : n = 1 ∨ n = 2 ∨ n = 3 ∨ n = 4) with rfl | rfl | rfl | rfl <;> simp only [inK] <;> omega
theorem idx_kj {n x k : Nat} (hn : 1 ≤ n) (hn4 : n ≤ 4) (hx : x < n * n) (hk : k < n) : 0 ≤ (k : Int) * n + (x : Int) % n ∧ (k : Int) * n + (x : Int) % n < ((n * n : Nat) : Int) ∧ inK .i64 ((k : Int) * n) ∧ inK .i64 ((k : Int) * n + (x : Int) % n) := by
  rcases (by omega : n = 1 ∨ n = 2 ∨ n = 3 ∨ n = 4) with rfl | rfl | rfl | rfl <;> simp only [inK] <;> omega
theorem idx_ij {n x : Nat} (hn : 1 ≤ n) (hn4 : n ≤ 4) (hx : x < n * n) : 0 ≤ (x : Int) / n * n + (x : Int) % n ∧ (x : Int) / n * n + (x : Int) % n < ((n * n : Nat) : Int) ∧ inK .i64 ((x : Int) / n * n) ∧ inK .i64 ((x : Int) / n * n + (x : Int) % n) ∧ ((x : Int) / n * n + (x : Int) % n).toNat = x := by
  rcases (by omega : n = 1 ∨ n = 2 ∨ n = 3 ∨ n = 4) with rfl | rfl | rfl | rfl <;> simp only [inK] <;> omega
theorem idx_ii {n k : Nat} (hn : 1 ≤ n) (hn4 : n ≤ 4) (hk : k < n) : 0 ≤ (k : Int) * n + k ∧ (k : Int) * n + k < ((n * n : Nat) : Int) ∧ inK .i64 ((k : Int) * n) ∧ inK .i64 ((k : Int) * n + k) := by
  rcases (by omega : n = 1 ∨ n = 2 ∨ n = 3 ∨ n = 4) with rfl | rfl | rfl | rfl <;> simp only [inK] <;> omega

theorem keepsFrom_grown {T : TypeId} {W W' : World} {g : Nat} {L : List Int} (hg : W.grownBy W' (some g)) (hr : RowAt T W g L) (B : Nat) : KeepsFrom B W W' :=
  ⟨hg.size, fun k o _ hk hc => (hg.block k (Array.getElem?_eq_some_iff.1 hk).1 (fun e => by
    injection e with e; subst e
    obtain ⟨cur, hcur, _⟩ := hr
    rw [hcur] at hk; cases hk; cases hc)).trans hk⟩
theorem keep_set {w0 : Base} {r : List Nat} {w1 : World} {g x : Nat} {v : Value} (hg : w0.B ≤ g) (hr : ∀ b, b ∈ r → b ≠ g) : Keep w0 r w1 (w1.setCell ⟨g, x, none⟩ v) :=
  ⟨(Below.refl _ _).setCell (p := ⟨g, x, none⟩) hg _, fun b hb => Below.heap_setCell _ _ _ _ (hr b hb)⟩
abbrev TB : TypeId := 37

theorem through_any (n k : Nat) (hn : 1 ≤ n) (hn4 : n ≤ 4) (hk : k < n) (h g cap : Nat) (L : List Int) (hL : L.length = n * n) (B : Nat) (w : World) (hB : B ≤ w.heap.size) (hg : B ≤ g) (hhg : h ≠ g) (hM : Mat w h g n (n * n) cap) (hr : RowAt TB w g L) :
    Calls Try.prog 32 #[.pointer (some ⟨h, 0, none⟩), .int .i64 k] w fun e w' => ∃ v, e = .returned v ∧ Below B w w' ∧ v = .bool (Dbm.diagOk n (Dbm.thrL n k L)) ∧ RowAt TB w' g (Dbm.thrL n k L) ∧ w.grownBy w' (some g) := by
  refine fun_at 9 B w hB Try.func32 (args := [.val (.pointer (some ⟨h, 0, none⟩)), .val (.int .i64 k)]) rfl rfl ?_
  refine NewI.mk fun b1 hb1 => ?_
  refine NewI.mk fun b2 hb2 => ?_
  refine LoadI.mk ⟨_, ⟨hM.c0, by simp⟩, ?_⟩
  apply CallI.mk
  intro w1 h1
  refine (callsIn_wide.1 (pairs_any n w1)).mono ?_
  rintro e w2 ⟨rfl, rfl⟩
  have hB1 : Below w1.heap.size w1 (w1.alloc (.cells #[.int .i64 n] 3)) := below_al (Below.refl _ _)
  refine ⟨h1.keep hB1, _, rfl, ?_⟩
  have g0 : w.grownBy (w1.alloc (.cells #[.int .i64 n] 3)) (some g) := grown_alloc (grown_below (grown_refl w _) h1.go) _
  have hBs : (w1.alloc (.cells #[.int .i64 (n : Int)] 3)).cell? ⟨w1.heap.size, 0, none⟩ = some (.int .i64 n) := by simp
  have hsz : w1.heap.size < (w1.alloc (.cells #[.int .i64 (n : Int)] 3)).heap.size := by simp
  generalize hw2 : w1.alloc (.cells #[.int .i64 (n : Int)] 3) = w2 at g0 hBs hsz hB1
  generalize hbs : w1.heap.size = Bs at hBs hsz
  refine RawI.mk fun a w3 hR => ?_
  have h3 := hR.at_
  have k3 : Below w2.heap.size w2 w3 := h3.go
  have hsz3 := k3.size
  have hc3 : w3.cell? ⟨Bs, 0, none⟩ = some (.int .i64 n) := (k3.cell (p := ⟨Bs, 0, none⟩) hsz).trans hBs
  have g3 : w.grownBy w3 (some g) := grown_below g0 k3
  have hgl : g < w.heap.size := hr.lt
  have hhl : h < w.heap.size := hM.lt
  have hw1 : w.heap.size ≤ w1.heap.size := h1.size
  have hr3 : RowAt TB w3 g L := (hr.below h1.go hgl).kept ((k3.block g (Nat.lt_of_lt_of_le (Nat.lt_of_lt_of_le hgl hw1) hB1.size)).trans (hB1.block g (Nat.lt_of_lt_of_le hgl hw1)))
  have hBs3 : Bs < w3.heap.size := by omega
  refine rangeD cxOk (by decide) hR rfl Try.call50 (pairs_stops n (by omega) (by omega) (n * n) rfl Bs w3 hBs3 hc3) (fun h k => k.trans h) (fun W l o o' => keepsBox_put hBs3 W l o o')
    (fun W W' hs hg => World.cell?_of_block (hg.block Bs (Nat.lt_of_lt_of_le hBs3 hs) (by rintro ⟨⟩))) (fun x => rfl) (fun _ => _) (fun pre W => w.grownBy W (some g) ∧ RowAt TB W g ((pre.map (·.1)).foldl (Dbm.upd n k) L)) ?_ rfl ⟨g3, hr3⟩ (fun _ _ _ => False) (fun _ _ => []) (fun _ _ _ _ _ h _ _ => h) _
    (fun l z hp W => And.intro rfl rfl) ?_ ?_ (fun _ _ _ _ _ _ _ h => h.elim)
  · intro pre W W' row hs hg' hr'
    exact ⟨ownFrom_grown (row0 := some g) (w := w) (Nat.le_trans g3.size (Nat.le_refl _)) pre W W' row hs.1 hg' hr', ownFrom_rowAt TB (g := g) (fun pre : List (PIdx (n * n)) => (pre.map (·.1)).foldl (Dbm.upd n k) L) pre W W' row hs.2 hg' hr'⟩
  · rintro l pre x W ⟨gW, rW⟩ hBW hsW hlen
    obtain ⟨x, hx⟩ := x
    have hMW : Mat W h g n (n * n) cap := hM.of_block (gW.block h hhl (fun e => hhg (by injection e)))
    generalize hLp : (pre.map (·.1)).foldl (Dbm.upd n k) L = Lp at rW
    have hLl : Lp.length = n * n := by rw [← hLp, Dbm.foldl_upd_length, hL]
    have e1 := idx_ik hn hn4 hx hk
    have e2 := idx_kj hn hn4 hx hk
    have e3 := idx_ij hn hn4 hx
    refine DrawI.go (.tk 0 (.tk 1 (.tk 2 (.tk 6 (.tk 7 (.tk 8 (.ev 3 (.tk 4 (.tk 5 (.ev 9 (.tk 10 (.tk 11 (.ev 12 (.tk 13 (.tk 14 (.tk 15 (.tk 16 (.tk 17 .done)))))))))))))))))) (by kernel_rfl) fun w4 h4 => ?_
    have hM4 := hMW.below h4.go
    have r4 := rW.below h4.go rW.lt
    apply CallI.use1
    · exact fun w5 h5 => at_any n _ k h g (n * n) cap e1.1 e1.2.1 e1.2.2 w5 (hM4.below h5.go)
    intro w5 w6 h5 hB6
    have k6 := h5.step2 hB6
    refine LoadI.mk ⟨_, ⟨r4.cell (j := x / n * n + k) (by rw [hLl]; exact Int.ofNat_lt.1 e1.2.1), by simp⟩, ?_⟩
    apply CallI.use1
    · exact fun w7 h7 => at_any n k _ h g (n * n) cap e2.1 e2.2.1 e2.2.2 w7 ((hM4.below k6).below h7.go)
    intro w7 w8 h7 hB8
    have k8 := k6.trans ((h7.step2 hB8).mono k6.size)
    refine LoadI.mk ⟨_, ⟨r4.cell (j := k * n + x % n) (by rw [hLl]; exact Int.ofNat_lt.1 e2.2.1), by simp⟩, ?_⟩
    apply CallI.use1
    · exact fun w9 h9 => badd_any _ _ w9
    intro w9 w10 h9 hB10
    have k10 := k8.trans ((h9.step2 hB10).mono k8.size)
    have hM10 := hM4.below k10
    have r10 := r4.below k10 r4.lt
    have g10 := grown_below (grown_below gW h4.go) k10
    apply CallI.use1
    · exact fun w11 h11 => at_any n _ _ h g (n * n) cap e3.1 e3.2.1 ⟨e3.2.2.1, e3.2.2.2.1⟩ w11 (hM10.below h11.go)
    intro w11 w12 h11 hB12
    rw [e3.2.2.2.2]
    have k12 := h11.step2 hB12
    refine LoadI.mk ⟨_, ⟨(r10.below k12 r10.lt).cell (j := x) (by rw [hLl]; exact hx), by simp⟩, ?_⟩
    have M12 := hM10.below k12
    have r12 := r10.below k12 r10.lt
    have gX := grown_below (grown_below (grown_below (grown_refl W (some g)) h4.go) k10) k12
    have hgBs : Bs ≠ g := by omega
    -- what is left to be told where the row's list is L' and the world w'
    have fin : ∀ (w' : World) (L' : List Int), W.grownBy w' (some g) → RowAt TB w' g L' → L' = Dbm.upd n k Lp x → KeepsFrom w3.heap.size W w' ∧ KeepsBox Bs W w' ∧ w.grownBy w' (some g) ∧ RowAt TB w' g (((pre ++ [(⟨x, hx⟩ : PIdx (n * n))]).map (·.1)).foldl (Dbm.upd n k) L) := by
      rintro w' L' hg' hr' rfl
      refine ⟨keepsFrom_grown hg' rW _, World.cell?_of_block (hg'.block Bs (by omega) (fun e => hgBs (by injection e))), grown_trans gW hg', ?_⟩
      rw [List.map_append, List.foldl_append, hLp]; exact hr'
    refine Branch.mk (fun hb => ?_) (fun hb => ?_)
    · have hu : Dbm.upd n k Lp x = Lp.set x (Bd.add (Lp[x / n * n + k]?.getD 0) (Lp[k * n + x % n]?.getD 0)).1 := if_pos (by simpa using hb)
      apply CallI.use1
      · exact fun w13 h13 => at_any n _ _ h g (n * n) cap e3.1 e3.2.1 ⟨e3.2.2.1, e3.2.2.2.1⟩ w13 (M12.below h13.go)
      intro w13 w14 h13 hB14
      rw [e3.2.2.2.2]
      have k14 := h13.step2 hB14
      refine StoreI.mk fun w15 h15 => ?_
      have r15 := (r12.below k14 r12.lt).below h15.go (r12.below k14 r12.lt).lt
      refine ⟨⟨⟨_, r15.cell (j := x) (by rw [hLl]; exact hx)⟩, r15.frozen x⟩, keep_set hg (by intro b hb; simp only [List.mem_cons, List.not_mem_nil, or_false] at hb; have := hb1; have := hb2; rcases hb with rfl | rfl <;> (intro e; subst e; exact absurd hgl (Nat.not_lt.2 ‹_›))), ?_⟩
      refine Need.mk (CovH.mk rfl rfl rfl) (EndI.mk fun w16 h16 => ?_)
      refine fin w16 _ (grown_below (grown_set (grown_below (grown_below gX k14) h15.go) x _) h16.go) ((r15.set (by rw [hLl]; exact hx) _).below h16.go (by have := r15.lt; simpa [World.setCell] using this)) hu.symm
    · have hu : Dbm.upd n k Lp x = Lp := if_neg (by simpa using hb)
      refine Need.mk (CovH.mk rfl rfl rfl) (EndI.mk fun w16 h16 => ?_)
      exact fin w16 _ (grown_below gX h16.go) (r12.below h16.go r12.lt) hu.symm
  · rintro D xs W hD hS ⟨gW, rW⟩ hmark
    have hxs : (xs.map (·.1)).foldl (Dbm.upd n k) L = Dbm.thrL n k L := by rw [hS]; rfl
    rw [hxs] at rW
    have hLl : (Dbm.thrL n k L).length = n * n := by rw [Dbm.thrL, Dbm.foldl_upd_length, hL]
    have hMW : Mat W h g n (n * n) cap := hM.of_block (gW.block h hhl (fun e => hhg (by injection e)))
    have hDW : D < W.heap.size := (Array.getElem?_eq_some_iff.1 hmark).1
    have hwD : w.heap.size ≤ D := Nat.le_trans g3.size hD
    -- what is told at an end in a world behind W
    have fin : ∀ (bb : Bool), bb = Dbm.diagOk n (Dbm.thrL n k L) → ∀ w1, Below W.heap.size W w1 → (B ≤ D ∧ w1.heap[D]? = some (.deferred (some []))) ∧ ∀ w2, unmark w1 D w2 → Value.bool bb = .bool (Dbm.diagOk n (Dbm.thrL n k L)) ∧ RowAt TB w2 g (Dbm.thrL n k L) ∧ w.grownBy w2 (some g) := by
      rintro bb rfl w1 hW1
      refine ⟨⟨Nat.le_trans hB hwD, (hW1.block D hDW).trans hmark⟩, fun w2 hu => ⟨rfl, (rW.below hW1 rW.lt).kept (hu.2.2.2.2 g (by omega)), ?_⟩⟩
      have h1 := grown_below gW hW1
      exact ⟨hu.2.1.trans h1.os, hu.2.2.1.trans h1.tape, hu.2.2.2.1.trans h1.output, by rw [hu.1]; exact h1.size, fun k hk hne => (hu.2.2.2.2 k (by omega)).trans (h1.block k hk hne)⟩
    refine LoadI.mk ⟨_, ⟨hMW.c0, by simp⟩, ?_⟩
    refine LoopI.invC (α := Nat × World) (fun y => [(53, .val (.int .i64 y.1))]) (fun y => y.2) (fun y => y.1 ≤ n ∧ Below W.heap.size W y.2 ∧ ∀ i, i < y.1 → 1 ≤ (Dbm.thrL n k L)[i * n + i]?.getD 0) (fun y => n - y.1) ?_ ?_
    · intro w4 h4
      exact ⟨(0, w4), Cov.mk (by repeat' (first | exact trivial | refine And.intro rfl ?_)) rfl rfl rfl rfl rfl, rfl, Nat.zero_le _, h4.go, fun i hi => by omega⟩
    · rintro ⟨i, W4⟩ ⟨hi, hW4, hno⟩
      refine Branch.mk (fun hb => ?_) (fun hb => ?_)
      · have hlt : i < n := by simpa using hb
        have e4 := idx_ii hn hn4 hlt
        apply CallI.use1
        · exact fun w5 h5 => at_any n _ _ h g (n * n) cap e4.1 e4.2.1 e4.2.2 w5 ((hMW.below hW4).below h5.go)
        intro w5 w6 h5 hB6
        have k6 := h5.step2 hB6
        have W6 := hW4.trans (k6.mono hW4.size)
        refine LoadI.mk ⟨_, ⟨(rW.below W6 rW.lt).cell (j := i * n + i) (by rw [hLl]; exact Int.ofNat_lt.1 e4.2.1), by simp⟩, ?_⟩
        refine Branch.mk (fun hc => ?_) (fun hc => ?_)
        · refine EndM.mk fun w7 h7 => fin false ?_ w7 (W6.trans (h7.go.mono W6.size))
          symm
          rw [Dbm.diagOk, List.all_eq_false]
          exact ⟨i, List.mem_range.2 hlt, by simp at hc ⊢; omega⟩
        · refine Need.mk (by show _ ∧ _; omega) (EndI.mk fun w7 h7 => ⟨(i + 1, w7), Cov.mk (by repeat' (first | exact trivial | refine And.intro rfl ?_)) rfl rfl rfl rfl rfl, rfl, ⟨hlt, W6.trans (h7.go.mono W6.size), fun i' hi' => ?_⟩, by simp only; omega⟩)
          by_cases hii : i' = i
          · subst hii; simp at hc; omega
          · exact hno i' (by omega)
      · have hge : i = n := by have : ¬ i < n := by simpa using hb
                               omega
        subst hge
        refine EndM.mk fun w7 h7 => fin true ?_ w7 (hW4.trans (h7.go.mono hW4.size))
        symm
        rw [Dbm.diagOk, List.all_eq_true]
        intro i' hi'
        simpa using hno i' (List.mem_range.1 hi')
end Go.Proofs.Ytodpgcdandechaa

/-
  The contract of dbm.Close, by the engine.
-/
namespace Go.Proofs.Ytodpgcdandechaa
set_option linter.unusedVariables false
set_option linter.unusedSimpArgs false
set_option maxRecDepth 100000
open Go.RowKit Go.Proofs.Ytodpgcdandechaa.Eng Enc

theorem Mat.own {w0 : Base} {hp : List LB} {r L : List Nat} {w w1 : World} (h1 : At w0 hp r L w w1) (i : Nat) {b g : Nat} {n : Int} {len cap : Nat} {ty : TypeId} (hi : r[i]? = some b) (hc : hget hp i = some ⟨[.val (.int .i64 n), .val (.slice (some ⟨g, 0, none⟩) len cap)], ty⟩) : Mat w1 b g n len cap :=
  ⟨h1.own (o := 0) hi hc rfl, h1.own (o := 1) hi hc rfl⟩
theorem Own.row {e : TypeId} {base : Nat} {W : World} {a : Option Addr} {cap : Nat} {L : List Int} (h : Own e base W (.slice a L.length cap) L) (hne : 0 < L.length) : ∃ g, a = some ⟨g, 0, none⟩ ∧ base ≤ g ∧ RowAt e W g L := by
  obtain ⟨_, ⟨h0, h1⟩ | ⟨g, cap', cur, h0, hb, hg, hc, hm, hs, ht⟩⟩ := id h
  · omega
  · injection h0 with h0 h1 h2
    subst h0; subst h2
    refine ⟨g, rfl, hb, cur, hg, ?_, fun j hj => ?_⟩
    · rw [hs]; show _ ≤ cap * 1; omega
    · have := World.ownsRow.cells h (g := g) rfl (j * 1 + 0) (.int .i64 (L[j]?.getD 0)) (cellsL_get L (k := j) (i := 0) (x := L[j]) (List.getElem?_eq_getElem hj) (by rw [List.getElem?_eq_getElem hj]; rfl))
      rw [addr_addL] at this
      simp only [World.cell?, hg] at this
      simpa using this
/-- a list of ints in a row that lies behind base, and may be written; or none. -/
def Fresh (e : TypeId) (base : Nat) (W : World) (sv : Value) (L : List Int) : Prop :=
  (sv = .slice none 0 0 ∧ L = []) ∨ ∃ g cap, sv = .slice (some ⟨g, 0, none⟩) L.length cap ∧ L.length ≤ cap ∧ cap ≤ maxLen ∧ base ≤ g ∧ RowAt e W g L
theorem Fresh.sl {e : TypeId} {base : Nat} {W : World} {sv : Value} {L : List Int} (h : Fresh e base W sv L) : Sl W.heap.size W sv L := by
  rcases h with ⟨rfl, rfl⟩ | ⟨g, cap, rfl, h1, h2, h3, h4⟩
  · exact Sl.nil
  · refine ⟨_, _, rfl, h1, h2, (fun e => nomatch e), fun k x hk => ⟨g, 0, rfl, h4.lt, fun i c hi => ?_⟩⟩
    have hk' := (List.getElem?_eq_some_iff.1 hk).1
    have := h4.cell hk'
    rw [hk] at this
    match i, hi with
    | 0, hi =>
      injection hi with hi; subst hi
      rw [show 0 + (k * size Int + 0) = k by show 0 + (k * 1 + 0) = k; omega]
      exact this
theorem Fresh.form {e : TypeId} {base : Nat} {W : World} {sv : Value} {L : List Int} (h : Fresh e base W sv L) : ∃ a cap, sv = .slice a L.length cap := by
  rcases h with ⟨rfl, rfl⟩ | ⟨g, cap, rfl, _⟩
  · exact ⟨_, _, rfl⟩
  · exact ⟨_, _, rfl⟩
theorem Fresh.below {e : TypeId} {base : Nat} {W W' : World} {sv : Value} {L : List Int} (h : Fresh e base W sv L) (hB : Below W.heap.size W W') : Fresh e base W' sv L := by
  rcases h with h | ⟨g, cap, h0, h1, h2, h3, h4⟩
  · exact .inl h
  · exact .inr ⟨g, cap, h0, h1, h2, h3, h4.below hB h4.lt⟩
theorem Fresh.lower {e : TypeId} {base base' : Nat} {W : World} {sv : Value} {L : List Int} (h : Fresh e base W sv L) (hb : base' ≤ base) : Fresh e base' W sv L := by
  rcases h with h | ⟨g, cap, h0, h1, h2, h3, h4⟩
  · exact .inl h
  · exact .inr ⟨g, cap, h0, h1, h2, Nat.le_trans hb h3, h4⟩

theorem Fresh.at {w0 : Base} {hp : List LB} {r L : List Nat} {w w1 : World} {e : TypeId} {base : Nat} {sv : Value} {l : List Int} (h : Fresh e base w sv l) (h1 : At w0 hp r L w w1) (hL : ∀ b, b ∈ L → b < base) : Fresh e base w1 sv l := by
  rcases h with h | ⟨g, cap, c0, c1, c2, c3, c4⟩
  · exact .inl h
  · exact .inr ⟨g, cap, c0, c1, c2, c3, c4.kept (h1.step g c4.lt (fun e => by have := hL g e; omega))⟩
theorem RowAt.at {w0 : Base} {hp : List LB} {r L : List Nat} {w w1 : World} {T : TypeId} {g : Nat} {l : List Int} (h : RowAt T w g l) (h1 : At w0 hp r L w w1) (hL : g ∉ L) : RowAt T w1 g l := h.kept (h1.step g h.lt hL)
theorem close_any (n : Int) (a : Option Addr) (cap : Nat) (L : List Int) (w : World) (hS : Sl w.heap.size w (.slice a L.length cap) L) :
    Calls Try.prog 13 #[.agg #[.int .i64 n, .slice a L.length cap]] w (Ret w fun v w' => ∃ a' cap', v = .tuple #[.agg #[.int .i64 (Dbm.close n L).1, .slice a' (Dbm.close n L).2.1.length cap'], .int .i64 (Dbm.close n L).2.2] ∧ Fresh TB w.heap.size w' (.slice a' (Dbm.close n L).2.1.length cap') (Dbm.close n L).2.1) := by
  refine fun_ret 0 w Try.func13 (args := [.agg [.val (.int .i64 n), .val (.slice a L.length cap)]]) rfl rfl ?_
  refine NewI.mk fun b1 hb1 => ?_
  refine NewI.mk fun b2 hb2 => ?_
  (first
    | (apply CallI.use1; (focus (exact fun w1 h1 => dcheck_any n a cap L w1 (Sl.at h1 hS))); intro w1 w2 h1 hB)
    | (refine Branch.yes rfl ?_)
    | (refine Branch.no rfl ?_)
    | (refine Branch.mk (fun hb => ?_) (fun hb => ?_))
    | (refine NewI.mk fun nb hnb => ?_)
    | (refine Need.mk (by show _ ∧ _; omega) ?_)
    | (refine Need.mk (by omega) ?_)
    | (refine Need.mk ?_ ?_)
    | (refine EndI.mk fun w1 h1 => ?_))
  refine Branch.mk (fun hc => ?_) (fun hc => ?_)
  · refine EndI.mk fun w3 h3 => ?_
    have : Dbm.close n L = (0, [], 8) := by rw [Dbm.close, if_neg (by simpa using hc)]
    have h8 : Dbm.chk n L = 8 := (Dbm.chk_cases n L).resolve_left (by simpa using hc)
    rw [this, h8]
    exact ⟨_, _, rfl, .inl ⟨rfl, rfl⟩⟩
  have hc0 : Dbm.chk n L = 0 := by simpa using hc
  obtain ⟨c1, c2, c3, c4⟩ := Dbm.chk_iff.1 hc0
  obtain ⟨N, rfl⟩ : ∃ N : Nat, n = N := ⟨n.toNat, by omega⟩
  have hN1 : 1 ≤ N := by omega
  have hN4 : N ≤ 4 := by omega
  have hlen : L.length = N * N := by exact_mod_cast c3
  have hpos : 0 < L.length := by rw [hlen]; exact Nat.mul_pos hN1 hN1
  have hL16 : L.length ≤ 16 := by rw [hlen]; exact Nat.mul_le_mul hN4 hN4
  clear hc c1 c2
  apply CallI.use
  · exact fun w3 h3 => twin_any N a cap L (by omega) w3 (Sl.at h3 hS)
  rintro v w3 w4 h3 hB4 ⟨a', cap', rfl, hO⟩
  have hgb : ∀ b, b ∈ [b1, b2] → b < w3.heap.size := fun b hb => h3.lt b hb
  have hwb : w.heap.size ≤ w3.heap.size := h3.below.size
  obtain ⟨g, rfl, hg, hr⟩ := hO.row hpos
  obtain ⟨_, ⟨h0, _⟩ | ⟨g', c', cur', e0, _, hgc, hlc, hm, hs, _⟩⟩ := id hO
  · cases h0
  injection e0 with e0 e1 e2
  injection e0 with e0; injection e0 with e0; subst e0; subst e2
  refine NewI.mk fun b3 hb3 => ?_
  have hgr : ∀ b, b ∈ [b1, b2, b3] → b ≠ g := by
    intro b hb e
    subst e
    have := hr.lt
    simp only [List.mem_cons, List.not_mem_nil, or_false] at hb
    rcases hb with rfl | rfl | rfl
    · have := hgb b (by simp); omega
    · have := hgb b (by simp); omega
    · omega
  have hgw : w.heap.size ≤ g := Nat.le_trans hwb hg
  -- the error
  have none : Dbm.closeL N L = none → ∀ (w' : World), ∃ a' cap', Value.tuple #[.agg #[.int .i64 0, .slice none 0 0], .int .i64 6] = .tuple #[.agg #[.int .i64 (Dbm.close N L).1, .slice a' (Dbm.close N L).2.1.length cap'], .int .i64 (Dbm.close N L).2.2] ∧ Fresh TB w.heap.size w' (.slice a' (Dbm.close N L).2.1.length cap') (Dbm.close N L).2.1 := fun hno w' => by
    have : Dbm.close N L = (0, [], 6) := by rw [Dbm.close, if_pos hc0, Int.toNat_natCast, hno]
    rw [this]
    exact ⟨_, _, rfl, .inl ⟨rfl, rfl⟩⟩
  refine LoopI.invC (α := Nat × World × List Int) (fun y => [(23, .val (.int .i64 y.1))]) (fun y => y.2.1) (fun y => y.1 ≤ N ∧ (List.range y.1).foldlM (Dbm.diag1 N) L = some y.2.2 ∧ RowAt TB y.2.1 g y.2.2) (fun y => N - y.1) ?_ ?_
  · intro w5 h5
    exact ⟨(0, w5, L), Cov.mk (by repeat' (first | exact trivial | refine And.intro rfl ?_)) rfl rfl rfl rfl rfl, rfl, Nat.zero_le _, rfl, hr.below h5.go hr.lt⟩
  rintro ⟨i, W, Li⟩ ⟨hi, hfold, hRi⟩
  have hLi : Li.length = N * N := by rw [← hlen]; exact Dbm.foldlM_len Dbm.diag1_len hfold
  refine Branch.mk (fun hb => ?_) (fun hb => ?_)
  · have hlt : i < N := by simpa using hb
    have e4 := idx_ii hN1 hN4 hlt
    have hil : i * N + i < Li.length := by rw [hLi]; exact Int.ofNat_lt.1 e4.2.1
    have hnext : (List.range (i + 1)).foldlM (Dbm.diag1 N) L = Dbm.diag1 N Li i := by
      rw [List.range_succ, List.foldlM_append, hfold]; simp
    apply CallI.use1
    · exact fun w5 h5 => at_any N _ _ b3 g (N * N) cap' e4.1 e4.2.1 e4.2.2 w5 (Mat.own h5 2 rfl (by rw [← hlen]; rfl))
    intro w5 w6 h5 hB6
    have k6 := h5.step2 hB6
    have r6 := hRi.below k6 hRi.lt
    refine LoadI.mk ⟨_, ⟨r6.cell (j := i * N + i) hil, by simp⟩, ?_⟩
    refine Branch.mk (fun hc => ?_) (fun hc => ?_)
    · refine EndI.mk fun w7 h7 => none ?_ w7
      have h1 : (List.range (i + 1)).foldlM (Dbm.diag1 N) L = .none := by rw [hnext, Dbm.diag1, if_pos (by simpa using hc)]
      rw [Dbm.closeL, Dbm.foldlM_none h1 hlt]; rfl
    · apply CallI.use1
      · exact fun w7 h7 => at_any N _ _ b3 g (N * N) cap' e4.1 e4.2.1 e4.2.2 w7 (Mat.own h7 2 rfl (by rw [← hlen]; rfl))
      intro w7 w8 h7 hB8
      have k8 := h7.step2 hB8
      have r8 := r6.below k8 r6.lt
      refine StoreI.mk fun w9 h9 => ?_
      have r9 := r8.below h9.go r8.lt
      refine ⟨⟨⟨_, r9.cell (j := i * N + i) hil⟩, r9.frozen _⟩, keep_set hgw hgr, ?_⟩
      refine Need.mk (by show _ ∧ _; omega) (EndI.mk fun w10 h10 => ⟨(i + 1, w10, Li.set (i * N + i) 1), Cov.mk (by repeat' (first | exact trivial | refine And.intro rfl ?_)) rfl rfl rfl rfl rfl, rfl, ⟨hlt, ?_, ?_⟩, by simp only; omega⟩)
      · rw [hnext, Dbm.diag1, if_neg (by simpa using hc)]
      · exact (r9.set hil 1).below h10.go (by have := r9.lt; simpa [World.setCell] using this)
  · have hge : i = N := by have : ¬ i < N := by simpa using hb
                           omega
    rw [hge] at hfold
    clear hi hb hge
    refine LoopI.invC (α := Nat × World × List Int) (fun y => [(45, .val (.int .i64 y.1))]) (fun y => y.2.1) (fun y => y.1 ≤ N ∧ (List.range y.1).foldlM (Dbm.stage N) Li = some y.2.2 ∧ RowAt TB y.2.1 g y.2.2) (fun y => N - y.1) ?_ ?_
    · intro w5 h5
      exact ⟨(0, w5, Li), Cov.mk (by repeat' (first | exact trivial | refine And.intro rfl ?_)) rfl rfl rfl rfl rfl, rfl, Nat.zero_le _, rfl, hRi.below h5.go hRi.lt⟩
    rintro ⟨k, W2, Lk⟩ ⟨hk, hfk, hRk⟩
    have hLk : Lk.length = N * N := by rw [← hLi]; exact Dbm.foldlM_len Dbm.stage_len hfk
    refine Branch.mk (fun hb => ?_) (fun hb => ?_)
    · have hlt : k < N := by simpa using hb
      have hnext : (List.range (k + 1)).foldlM (Dbm.stage N) Li = Dbm.stage N Lk k := by
        rw [List.range_succ, List.foldlM_append, hfk]; simp
      apply CallI.mk
      intro w5 h5
      refine (through_any N k hN1 hN4 hlt b3 g cap' Lk hLk w.heap.size w5 (Nat.le_trans (Nat.le_refl _) h5.below.size) hgw (hgr b3 (by simp)) (Mat.own h5 2 rfl (by rw [← hlen]; rfl)) (hRk.below h5.go hRk.lt)).mono ?_
      rintro e w6 ⟨v, rfl, hB6, rfl, hR6, hG6⟩
      refine ⟨⟨hB6, fun b hb => hG6.block b (h5.lt b hb) (fun e => hgr b hb (by injection e))⟩, _, rfl, ?_⟩
      refine Branch.mk (fun hc => ?_) (fun hc => ?_)
      · refine EndI.mk fun w7 h7 => none ?_ w7
        have h1 : (List.range (k + 1)).foldlM (Dbm.stage N) Li = .none := by rw [hnext, Dbm.stage, if_neg (by simpa using hc)]
        rw [Dbm.closeL, hfold, Option.bind_some, Dbm.foldlM_none h1 hlt]
      · refine Need.mk (by show _ ∧ _; omega) (EndI.mk fun w10 h10 => ⟨(k + 1, w10, Dbm.thrL N k Lk), Cov.mk (by repeat' (first | exact trivial | refine And.intro rfl ?_)) rfl rfl rfl rfl rfl, rfl, ⟨hlt, ?_, ?_⟩, by simp only; omega⟩)
        · rw [hnext, Dbm.stage, if_pos (by simpa using hc)]
        · exact hR6.below h10.go hR6.lt
    · have hge : k = N := by have : ¬ k < N := by simpa using hb
                             omega
      rw [hge] at hfk
      refine EndI.mk fun w5 h5 => ?_
      have hcl : Dbm.close N L = ((N : Int), Lk, 0) := by rw [Dbm.close, if_pos hc0, Int.toNat_natCast, Dbm.closeL, hfold, Option.bind_some, hfk]
      rw [hcl]
      have hll : L.length = Lk.length := by rw [hLk, hlen]
      rw [hll]
      exact ⟨_, _, rfl, .inr ⟨g, cap', rfl, by rw [← hll]; exact hlc, hm, hgw, hRk.at h5 (fun e => hgr b2 (by simp) (List.mem_singleton.1 e).symm)⟩⟩
end Go.Proofs.Ytodpgcdandechaa

/-
  Rows of the run's own, gone on: an append in place, and a part struck out (clear).
-/
namespace Go.Proofs.Ytodpgcdandechaa
set_option linter.unusedVariables false
set_option linter.unusedSimpArgs false
open Go.RowKit Go.Proofs.Ytodpgcdandechaa.Eng Enc

section
variable {α : Type} [Enc α]
theorem cellsL_take (l : List α) (i : Nat) : cellsL (l.take i) = (cellsL l).take (i * size α) := by
  induction l generalizing i with
  | nil => simp [cellsL]
  | cons x l ih =>
    cases i with
    | zero => simp [cellsL]
    | succ i =>
      simp only [List.take_succ_cons, cellsL, ih]
      have h1 : (enc x).take ((i + 1) * size α) = enc x := List.take_of_length_le (by rw [len, Nat.succ_mul]; omega)
      have h2 : (i + 1) * size α - size α = i * size α := by rw [Nat.succ_mul]; omega
      rw [List.take_append, h1, len, h2]
theorem Own.take {e : TypeId} {base : Nat} {W : World} {g cap : Nat} {l : List α} (h : Own e base W (.slice (some ⟨g, 0, none⟩) l.length cap) l) (i : Nat) (hi : i ≤ l.length) : Own e base W (.slice (some ⟨g, 0, none⟩) i cap) (l.take i) := by
  obtain ⟨hl, ⟨h0, _⟩ | ⟨g', cap', cur, h0, hb, hg, hn, hm, hs, ht⟩⟩ := h
  · cases h0
  · injection h0 with h0 h1 h2
    injection h0 with h0; injection h0 with h0
    subst h0; subst h2
    have hli : (l.take i).length = i := by simp; omega
    refine ⟨cellsL_len _, .inr ⟨g, cap, cur, by rw [hli], hb, hg, by rw [hli]; omega, hm, hs, ?_⟩⟩
    rw [hli, cellsL_take, ← ht, List.take_take]
    congr 1
    have := Nat.mul_le_mul_right (size α) hi
    omega
theorem Own.at0 {e : TypeId} {base : Nat} {W : World} {g n cap : Nat} {l : List α} (h : Own e base W (.slice (some ⟨g, 0, none⟩) n cap) l) : n = l.length ∧ base ≤ g ∧ g < W.heap.size ∧ ∃ cur, W.heap[g]? = some (.cells cur e (0, 0)) ∧ l.length ≤ cap ∧ cap ≤ maxLen ∧ cur.size = cap * size α ∧ cur.toList.take (l.length * size α) = cellsL l := by
  obtain ⟨hl, ⟨h0, _⟩ | ⟨g', cap', cur, h0, hb, hg, hn, hm, hs, ht⟩⟩ := h
  · cases h0
  · injection h0 with h0 h1 h2
    injection h0 with h0; injection h0 with h0
    subst h0; subst h1; subst h2
    exact ⟨rfl, hb, (Array.getElem?_eq_some_iff.1 hg).1, cur, hg, hn, hm, hs, ht⟩
/-- cells turned behind a row's list. -/
theorem Own.setRow {e : TypeId} {base : Nat} {W : World} {g n cap : Nat} {l : List α} (h : Own e base W (.slice (some ⟨g, 0, none⟩) n cap) l) {cur : Array Value} (hc : W.heap[g]? = some (.cells cur e (0, 0))) (o : Nat) (vs : List Value) (ho : l.length * size α ≤ o) (hov : o + vs.length ≤ cur.size) :
    Own e base (W.setRow g (cur.toList.take o ++ vs ++ cur.toList.drop (o + vs.length)).toArray) (.slice (some ⟨g, 0, none⟩) n cap) l := by
  obtain ⟨rfl, hb, hlt, cur', hg, hn, hm, hs, ht⟩ := h.at0
  rw [hg] at hc
  injection hc with hc; injection hc with hc _; subst hc
  refine ⟨cellsL_len _, .inr ⟨g, cap, _, rfl, hb, setRow_heap W g cur' _ e _ hg, hn, hm, ?_, ?_⟩⟩
  · simp only [List.size_toArray, List.length_append, List.length_take, List.length_drop, Array.length_toList]; omega
  · rw [List.append_assoc, List.take_append_of_le_length (by simp; omega), List.take_take, Nat.min_eq_left ho]; exact ht

theorem grown_setRow (W : World) (g : Nat) (cs : Array Value) : W.grownBy (W.setRow g cs) (some g) := ⟨rfl, rfl, rfl, by simp, fun k _ hk => setRow_other _ g k _ (fun e => hk (by simp [e]))⟩
theorem run_value {P : Program} {W W' : World} {m : Sem Value} {x : Value} (h : m.run P W = .ok x W') : (do pure (Next.value (← m)) : Sem Next).run P W = .ok (.value x) W' := by
  simp only [Sem.run_bind, h, Result.andThen, Sem.run_pure]
theorem storeCells_any {P : Program} {W : World} {g o : Nat} {e : TypeId} {cur : Array Value} {vs : List Value} (hg : W.heap[g]? = some (.cells cur e (0, 0))) (h : o + vs.length ≤ cur.size) (h1 : ∀ v ∈ vs, v.oneCell' = true) :
    (storeCells ⟨g, o, none⟩ vs).run P W = .ok () (W.setRow g (cur.toList.take o ++ vs ++ cur.toList.drop (o + vs.length)).toArray) := by
  have := run_storeCells_at P g o e vs 0 cur W hg (by simpa using h) h1
  simpa using this
/-- clear, at a part of a row. -/
theorem run_clear {P : Program} {W : World} {t e : TypeId} {i : TI} (ht : P.underlying t = some (.slice e)) (hT : TyOk P e i) (hp : 0 < i.zero.length) {g o n c : Nat} {cur : Array Value} (hg : W.heap[g]? = some (.cells cur e (0, 0))) (h : o + n * i.zero.length ≤ cur.size) (hn : 0 < n) :
    ∃ vs : List Value, vs.length = n * i.zero.length ∧ ∀ (ty : TypeId) (consts : Array Bool) (v : Value), v = .slice (some ⟨g, o, none⟩) n c → (builtin .clear #[t] ty consts #[v]).run P W = .ok (.value (.tuple #[])) (W.setRow g (cur.toList.take o ++ vs ++ cur.toList.drop (o + vs.length)).toArray) := by
  have hz := zero_cells hT
  refine ⟨(Builtin.zeroCells i.zero.toArray n).toList, by simp [Builtin.zeroCells], ?_⟩
  rintro ty consts v rfl
  have h1 : ∀ v ∈ (Builtin.zeroCells i.zero.toArray n).toList, v.oneCell' = true := by
    intro v hv
    simp only [Builtin.zeroCells, Array.toList_map, List.mem_map, Array.toList_range, List.mem_range] at hv
    obtain ⟨k, hk, rfl⟩ := hv
    have hm : k % i.zero.toArray.size < i.zero.length := by simp; exact Nat.mod_lt _ hp
    rw [getElem!_pos _ _ (by simpa using hm)]
    exact hT.ones _ (by simp)
  have hst := storeCells_any (P := P) (o := o) (vs := (Builtin.zeroCells i.zero.toArray n).toList) hg (by simpa [Builtin.zeroCells] using h) h1
  obtain ⟨m, rfl⟩ : ∃ m, n = m + 1 := ⟨n - 1, by omega⟩
  have hzr := hT.zero W
  generalize (if i.ag then Value.agg i.zero.toArray else i.zero.getD 0 undef) = z at hz hzr
  simp [builtin, Builtin.clear_, Sem.run_bind, run_underlying ht, hzr, Result.andThen, hz, hst]
end

section
variable {α : Type} [Enc α]
end
end Go.Proofs.Ytodpgcdandechaa

/-
  slices.Delete at a list of int: in place.
-/
namespace Go.Proofs.Ytodpgcdandechaa
set_option linter.unusedVariables false
set_option linter.unusedSimpArgs false
set_option maxRecDepth 100000
open Go.RowKit Go.Proofs.Ytodpgcdandechaa.Eng Enc

theorem elDI : ElOk Try.prog 25 3 1 8 := elOk (z := .int .i64 0) Try.underlying25 (by kernel_rfl) rfl (by decide)
theorem tyDI : TyOk Try.prog 3 ⟨[.int .i64 0], false⟩ := tyOk_one Try.zeroValue3 Try.sizeOf3 Try.isAgg3 rfl
theorem deleteI_any (l : List Int) (g cap base i j : Nat) (e0 : TypeId) (he : e0 = 3) (hij : i < j) (hj : j ≤ l.length) (B : Nat) (w : World) (hB : B ≤ w.heap.size) (hg : B ≤ g) (hO : Own e0 base w (.slice (some ⟨g, 0, none⟩) l.length cap) l) (hlen : l.length ≤ 1000000) :
    Calls Try.prog 14 #[.slice (some ⟨g, 0, none⟩) l.length cap, .int .i64 i, .int .i64 j] w fun e w' => ∃ v, e = .returned v ∧ Below B w w' ∧ v = .slice (some ⟨g, 0, none⟩) (i + (l.length - j)) cap ∧ Own e0 base w' (.slice (some ⟨g, 0, none⟩) (i + (l.length - j)) cap) (l.take i ++ l.drop j) ∧ w.grownBy w' (some g) := by
  subst he
  obtain ⟨_, hbg, hgl, cur0, _, hcap, hmax, _, _⟩ := hO.at0
  have hm : cap ≤ 9223372036854775807 := by unfold maxLen at hmax; omega
  refine fun_at 0 B w hB Try.func14 (args := [.val (.slice (some ⟨g, 0, none⟩) l.length cap), .val (.int .i64 i), .val (.int .i64 j)]) rfl rfl ?_
  refine Need.mk ⟨by omega, by omega, by omega, by omega⟩ ?_
  refine Branch.no (by simp; omega) ?_
  refine DrawI.wr (.tk 0 (.tk 1 (.tk 2 (.tk 3 (.tk 4 (.tk 5 (.ev 6 (.tk 7 .done)))))))) [] [g] (by kernel_rfl) rfl (fun _ h => by cases h) fun w1 h1 => ?_
  refine Need.mk ⟨by omega, by omega, by omega⟩ ?_
  refine Need.mk ⟨by omega, by omega, by omega⟩ ?_
  have hdl : (l.drop j).length = l.length - j := by simp
  have hil : (l.take i).length = i := by simp; omega
  refine GenN.mk fun w2 h2 => ?_
  have k2 := h1.go.trans (h2.go.mono h1.size)
  have hO2 : Own 3 base w2 (.slice (some ⟨g, 0, none⟩) l.length cap) l := hO.below k2
  have hT := hO2.take i (by omega)
  have hs0 := (hO2.sl).sub j l.length hj (Nat.le_refl _)
  rw [List.take_of_length_le (by simp)] at hs0
  obtain ⟨hl, hs⟩ := hs0.src
  have happ : ∃ w', (Builtin.append_ #[25, 25] 25 #[.slice (some ⟨g, 0, none⟩) i cap, .slice (if cap = j then some ⟨g, 0, none⟩ else (some (⟨g, 0, none⟩ : Addr)).map (·.add (j * size Int))) (l.length - j) (cap - j)]).run Try.prog w2 = .ok (.slice (some ⟨g, 0, none⟩) (i + (l.length - j)) cap) w' ∧
      Own 3 base w' (.slice (some ⟨g, 0, none⟩) (i + (l.length - j)) cap) (l.take i ++ l.drop j) ∧ w2.grownBy w' (some g) := by
    obtain ⟨ht, ⟨inf, z, hi, hz, hss, hb, hzs⟩, hp⟩ := elDI
    have hown : w2.ownsRow base 3 (size Int) (.slice (some ⟨g, 0, none⟩) i cap) i (cellsL (l.take i)) := by have := hT; unfold Own at this; rwa [hil] at this
    rcases hs with ⟨e0, hm0⟩ | ⟨ad, c, e0, hc⟩
    · split at e0 <;> simp at e0
    · rw [e0]
      rw [hdl] at hl ⊢
      obtain ⟨w', a1, a2, a3⟩ := run_append_fits (P := Try.prog) w2 base 25 25 3 inf (size Int) ht hi hss g i cap (cellsL (l.take i)) hown ad (l.length - j) c (cellsL (l.drop j)) hl hc (cellsL_one _) (by omega)
      refine ⟨w', a1, ?_, a3⟩
      unfold Own
      rw [cellsL_append, List.length_append, hil, hdl]; exact a2
  obtain ⟨w3, hr3, hO3, hg3⟩ := happ
  refine ⟨.slice (some ⟨g, 0, none⟩) (i + (l.length - j)) cap, w3, ?_, kpD_grown h2 hg3 (fun k hk => by injection hk with hk; subst hk; exact ⟨hg, by simp, .inl (by simp [locs])⟩), ?_⟩
  · exact run_value hr3
  have hnl : (l.take i ++ l.drop j).length = i + (l.length - j) := by rw [List.length_append, hil, hdl]
  refine Need.mk ⟨by omega, by omega, by omega⟩ ?_
  refine GenN.mk fun w4 h4 => ?_
  have hO4 := hO3.below h4.go
  have g4 : w.grownBy w4 (some g) := grown_below (grown_trans (grown_below (grown_refl w (some g)) k2) hg3) h4.go
  obtain ⟨_, _, hgl4, cur, hc4, _, _, hs4, _⟩ := hO4.at0
  have hlo : i + (l.length - j) < l.length := by omega
  have hroom : (i + (l.length - j)) * size Int + (j - i) * size Int ≤ cur.size := by
    rw [hs4, ← Nat.add_mul]; exact Nat.mul_le_mul_right _ (by omega)
  obtain ⟨vs, hvl, hrun⟩ := run_clear (P := Try.prog) (c := cap - (i + (l.length - j))) elDI.ht tyDI (by decide) (o := (i + (l.length - j)) * size Int) (n := j - i) hc4 hroom (by omega)
  have hvl' : vs.length = (j - i) * size Int := hvl
  refine ⟨_, _, hrun _ _ _ ?_, ⟨below_setRow (Below.refl _ _) hg _, fun b hb => by cases hb⟩, ?_⟩
  · show Value.slice (if cap = _ then _ else _) _ _ = _
    rw [if_neg (by simp only [Int.toNat_natCast]; omega)]
    simp only [Int.toNat_natCast, Option.map_some, addr_addL, Nat.zero_add, Value.slice.injEq, true_and]
    exact ⟨rfl, by omega, trivial⟩
  refine EndI.mk fun w5 h5 => ?_
  refine ⟨rfl, (hO4.setRow hc4 _ vs (by rw [hnl]; exact Nat.le_refl _) (by rw [hvl']; exact hroom)).below h5.go, ?_⟩
  exact grown_below (grown_trans g4 (grown_setRow w4 g _)) h5.go
end Go.Proofs.Ytodpgcdandechaa

/-
  The contracts of package proj, by the engine: made, and what hands it its places.
-/
namespace Go.Proofs.Ytodpgcdandechaa
set_option linter.unusedVariables false
set_option linter.unusedSimpArgs false
set_option maxRecDepth 100000
open Go.RowKit Go.Proofs.Ytodpgcdandechaa.Eng Enc

/-- what made makes: bound k is that at place F k, where that is not below 0. -/
def madeL (L : List Int) (F : Nat → Int) (N : Nat) : List Int := (List.range N).map fun k => if 0 ≤ F k then L[(F k).toNat]?.getD 0 else 9223372036854775807

theorem madeL_len (L : List Int) (F : Nat → Int) (N : Nat) : (madeL L F N).length = N := by simp [madeL]
/-- the row after k bounds. -/
def madeP (L : List Int) (F : Nat → Int) (N k : Nat) : List Int := (List.range N).map fun j => if j < k then (if 0 ≤ F j then L[(F j).toNat]?.getD 0 else 9223372036854775807) else 0
theorem madeP_len (L : List Int) (F : Nat → Int) (N k : Nat) : (madeP L F N k).length = N := by simp [madeP]
theorem madeP_all (L : List Int) (F : Nat → Int) (N : Nat) : madeP L F N N = madeL L F N := by
  unfold madeP madeL
  refine List.map_congr_left fun j hj => ?_
  rw [if_pos (List.mem_range.1 hj)]
theorem madeP_zero (L : List Int) (F : Nat → Int) (N : Nat) : madeP L F N 0 = List.replicate N 0 := by
  unfold madeP
  rw [List.eq_replicate_iff]
  refine ⟨by simp, fun b hb => ?_⟩
  simp at hb; exact hb.2.symm
theorem madeP_set (L : List Int) (F : Nat → Int) {N k : Nat} (hk : k < N) (x : Int) (hx : x = if 0 ≤ F k then L[(F k).toNat]?.getD 0 else 9223372036854775807) : (madeP L F N k).set k x = madeP L F N (k + 1) := by
  apply List.ext_getElem?
  intro j
  rw [List.getElem?_set]
  unfold madeP
  by_cases hj : k = j
  · subst hj
    simp [hk, hx]
  · rw [if_neg hj]
    simp only [List.getElem?_map]
    rcases Nat.lt_or_ge j N with h | h
    · rw [List.getElem?_range h]
      simp only [Option.map_some]
      have h2 : j < k + 1 ↔ j < k := by omega
      simp only [h2]
    · rw [List.getElem?_eq_none (by simpa using h)]; rfl
theorem kpD_set {w0 : Base} {wr : World} {M r : List Nat} {w1 : World} {g x : Nat} {v : Value} (hg : w0.B ≤ g) (hr : ∀ b, b ∈ r → b ≠ g) (hM : g ∈ M) : kpD w0 wr M r w1 (w1.setCell ⟨g, x, none⟩ v) := fun _ =>
  ⟨keep_set hg hr, fun k hk hkm => Below.heap_setCell _ _ _ _ (fun e => hkm (e ▸ hM))⟩
theorem row_zeros {e : TypeId} {base : Nat} {W : World} {g N : Nat} {xs : List Value} (h : W.ownsRow base e 1 (.slice (some ⟨g, 0, none⟩) N N) N xs) (hx : xs = (List.replicate N (0 : Int)).map (Value.int .i64)) : RowAt e W g (List.replicate N 0) := by
  subst hx
  have := RowAt.of_own (T := e) (L := List.replicate N 0) (cap := N) (by simpa using h)
  exact this.1

theorem infoBound0 : (Try.prog.info? 37).map (fun i => (i.zero, i.size, i.bytes)) = some (some (.int .i64 0), 1, 8) := by kernel_rfl

theorem pmade_any (d : Int) (L : List Int) (a : Option Addr) (cap : Nat) (m : Nat) (hm1 : 1 ≤ m) (hm4 : m ≤ 5) (fid : FuncId) (caps : Array Value) (en : Enters Try.prog fid) (F : Nat → Int) (w : World) (hS : Sl w.heap.size w (.slice a L.length cap) L)
    (hF : ∀ k, k < m * m → F k < L.length)
    (hcall : ∀ k W, k < m * m → Below w.heap.size w W → Calls Try.prog fid (.int .i64 ((k : Int).tdiv m) :: .int .i64 ((k : Int).tmod m) :: caps.toList).toArray W fun e W' => e = .returned (.int .i64 (F k)) ∧ Below W.heap.size W W') :
    Calls Try.prog 15 #[.agg #[.int .i64 d, .slice a L.length cap], .int .i64 m, .func (.func fid) #[] caps] w (Ret w fun v w' => ∃ a' cap', v = .agg #[.int .i64 m, .slice a' (madeL L F (m * m)).length cap'] ∧ Fresh TB w.heap.size w' (.slice a' (madeL L F (m * m)).length cap') (madeL L F (m * m))) := by
  refine fun_ret 0 w Try.func15 (args := [.agg [.val (.int .i64 d), .val (.slice a L.length cap)], .val (.int .i64 m), .val (.func (.func fid) #[] caps)]) rfl rfl ?_
  refine NewI.mk fun b1 hb1 => ?_
  refine NewI.mk fun b2 hb2 => ?_
  have hmm : m * m ≤ 25 := Nat.mul_le_mul hm4 hm4
  have hmm1 : 1 ≤ m * m := Nat.mul_le_mul hm1 hm1
  have emm : (m : Int) * m = ((m * m : Nat) : Int) := rfl
  refine Need.mk (by show _ ∧ _; omega) ?_
  generalize hN : m * m = N at *
  refine GenV.mk fun w1 h1 => ?_
  obtain ⟨ht, ⟨inf, z, hi, hz, hss, hby, hzs⟩, hp⟩ := elB
  obtain ⟨w2, hr2, hown, hg2⟩ := run_makeSlice_full (P := Try.prog) w1 w1.heap.size _ _ inf z 1 ht hi hz hss .i64 .i64 N (by omega) (by rw [hby]; omega) (by unfold maxLen; omega) (Nat.le_refl _)
  have hB2 : Below w1.heap.size w1 w2 := ⟨hg2.os, hg2.tape, hg2.output, hg2.size, fun k hk => hg2.block k hk (by simp)⟩
  refine ⟨_, w2, by rw [emm]; exact hr2, h1.keep hB2, ?_⟩
  refine NewI.mk fun b3 hb3 => ?_
  have hcells : (madeCells z.cells (N * 1)).toList = (List.replicate N (0 : Int)).map (Value.int .i64) := by
    have hzc : z = .int .i64 0 := by
      have := infoBound0
      rw [hi] at this
      simp only [Option.map_some, Option.some.injEq, Prod.mk.injEq] at this
      exact Option.some.inj (hz.symm.trans this.1)
    subst hzc
    apply List.ext_getElem?
    intro j
    rcases Nat.lt_or_ge j N with h | h
    · simp [madeCells, h, Value.cells, Nat.mod_one]
    · simp [madeCells, Nat.not_lt.2 h]
  have hr0 : RowAt TB w2 w1.heap.size (madeP L F N 0) := by rw [madeP_zero]; exact row_zeros hown hcells
  have hgw : w.heap.size ≤ w1.heap.size := h1.below.size
  have hgr : ∀ b, b ∈ [b1, b2, b3] → b ≠ w1.heap.size := by
    intro b hb e
    simp only [List.mem_cons, List.not_mem_nil, or_false] at hb
    have := hr0.lt
    rcases hb with rfl | rfl | rfl
    · have := h1.lt b (by simp); omega
    · have := h1.lt b (by simp); omega
    · omega
  have hsz1 : w1.heap.size < w2.heap.size := hr0.lt
  generalize w1.heap.size = g at *
  refine LoopI.invC (α := Nat × World) (fun y => [(19, .val (.int .i64 y.1))]) (fun y => y.2) (fun y => y.1 ≤ N ∧ Below w.heap.size w y.2 ∧ RowAt TB y.2 g (madeP L F N y.1)) (fun y => N - y.1) ?_ ?_
  · intro w5 h5
    exact ⟨(0, w5), Cov.mk (by repeat' (first | exact trivial | refine And.intro rfl ?_)) rfl rfl rfl rfl rfl, rfl, Nat.zero_le _, h5.below, hr0.at h5 (fun e => hgr b3 (by simp) (List.mem_singleton.1 e).symm)⟩
  rintro ⟨k, W⟩ ⟨hk, hW, hRk⟩
  refine Branch.mk (fun hb => ?_) (fun hb => ?_)
  · have hlt : k < N := by simpa using hb
    have hkl : ∀ i, k < (madeP L F N i).length := fun i => by rw [madeP_len]; exact hlt
    refine IdxI.mk ⟨_, ⟨rfl, by omega, by omega⟩, ?_⟩
    refine StoreI.mk fun w5 h5 => ?_
    have r5 := hRk.below h5.go hRk.lt
    rw [show ((⟨g, 0, none⟩ : Addr).add ((k : Int).toNat * 1)) = ⟨g, k, none⟩ by simp [addr_addL]]
    refine ⟨⟨⟨_, r5.cell (j := k) (hkl k)⟩, r5.frozen _⟩, keep_set hgw hgr, ?_⟩
    have r6 : RowAt TB (w5.setCell ⟨g, k, none⟩ (.int .i64 9223372036854775807)) g ((madeP L F N k).set k 9223372036854775807) := r5.set (hkl k) _
    have B6 : Below w.heap.size w (w5.setCell ⟨g, k, none⟩ (.int .i64 9223372036854775807)) := h5.below.setCell (p := ⟨g, k, none⟩) hgw _
    generalize w5.setCell ⟨g, k, none⟩ (.int .i64 9223372036854775807) = w6 at r6 B6
    refine DrawI.go (.tk 0 (.tk 1 (.tk 2 (.tk 3 (.tk 4 (.tk 5 (.tk 6 (.ev 7 (.tk 8 .done))))))))) (by kernel_rfl) fun w7 h7 => ?_
    have r7 := r6.below h7.go r6.lt
    have hdm : inK .i64 ((k : Int).tdiv m) := by
      rw [Int.tdiv_eq_ediv_of_nonneg (by omega)]
      have h0 : 0 ≤ (k : Int) / m := Int.ediv_nonneg (by omega) (by omega)
      have h1 : (k : Int) / m ≤ k := Int.ediv_le_self _ (by omega)
      show _ ∧ _; omega
    refine Need.mk ⟨by omega, hdm⟩ ?_
    refine Need.mk (by omega) ?_
    refine Need.mk en ?_
    apply CallI.use1
    · exact fun w8 h8 => hcall k w8 hlt h8.below
    intro w8 w9 h8 hB9
    have k9 := h8.step2 hB9
    have r9 := r7.below k9 r7.lt
    have B9 : Below w.heap.size w w9 := h8.below.trans (hB9.mono h8.below.size)
    refine Branch.mk (fun hc => ?_) (fun hc => ?_)
    · have hc0 : 0 ≤ F k := by simpa using hc
      refine DrawI.wr (.tk 0 (.tk 1 (.tk 2 (.tk 3 (.tk 4 (.tk 5 (.tk 6 (.tk 7 (.tk 8 (.ev 9 .done)))))))))) [] [g] (by kernel_rfl) rfl (fun b hb h => hgr b hb (by simpa using h)) fun w10 h10 => ?_
      have r10 := r9.below h10.go r9.lt
      have hFl := hF k hlt
      obtain ⟨f, hf⟩ : ∃ f : Nat, F k = f := ⟨(F k).toNat, by omega⟩
      have hfl : f < L.length := by omega
      rw [hf]
      refine hS.idx (List.getElem?_eq_getElem hfl) fun ad had => ?_
      refine hS.ld1 (List.getElem?_eq_getElem hfl) had h10.below (by intro b hb; simp at hb; subst hb; exact hgw) ?_
      refine IdxI.mk ⟨_, ⟨rfl, by omega, by omega⟩, ?_⟩
      refine StoreI.mk fun w11 h11 => ?_
      rw [show ((⟨g, 0, none⟩ : Addr).add ((k : Int).toNat * 1)) = ⟨g, k, none⟩ by simp [addr_addL]]
      have r11 := r10.below h11.go r10.lt
      have hkl' : k < ((madeP L F N k).set k 9223372036854775807).length := by simpa using hkl k
      refine ⟨⟨⟨_, r11.cell hkl'⟩, r11.frozen _⟩, kpD_set hgw hgr (by simp [locs]), ?_⟩
      refine Need.mk (by show _ ∧ _; omega) (EndI.mk fun w12 h12 => ⟨(k + 1, w12), Cov.mk (by repeat' (first | exact trivial | refine And.intro rfl ?_)) rfl rfl rfl rfl rfl, rfl, ⟨hlt, h12.below, ?_⟩, by simp only; omega⟩)
      have e1 : ((madeP L F N k).set k 9223372036854775807).set k (L[f]'hfl) = madeP L F N (k + 1) := by
        rw [List.set_set]
        exact madeP_set L F hlt _ (by rw [if_pos hc0, hf, Int.toNat_natCast, List.getElem?_eq_getElem hfl]; rfl)
      rw [← e1]
      exact (r11.set hkl' _).below h12.go (by have := r11.lt; simpa [World.setCell] using this)
    · have hc0 : ¬ 0 ≤ F k := by simpa using hc
      refine Need.mk (by show _ ∧ _; omega) (EndI.mk fun w12 h12 => ⟨(k + 1, w12), Cov.mk (by repeat' (first | exact trivial | refine And.intro rfl ?_)) rfl rfl rfl rfl rfl, rfl, ⟨hlt, h12.below, ?_⟩, by simp only; omega⟩)
      have e1 : (madeP L F N k).set k 9223372036854775807 = madeP L F N (k + 1) := madeP_set L F hlt _ (by rw [if_neg hc0])
      rw [← e1]
      exact r9.below h12.go r9.lt
  · have hge : k = N := by have : ¬ k < N := by simpa using hb
                           omega
    rw [hge, madeP_all] at hRk
    refine EndI.mk fun w5 h5 => ?_
    have hll := madeL_len L F N
    rw [hll]
    refine ⟨_, _, rfl, .inr ⟨g, N, by rw [hll], by omega, by unfold maxLen; omega, hgw, ?_⟩⟩
    exact hRk.at h5 (fun e => hgr b2 (by simp) (List.mem_singleton.1 e).symm)
end Go.Proofs.Ytodpgcdandechaa

/-
  The contract of proj.Drop, by the engine.
-/
namespace Go.Proofs.Ytodpgcdandechaa
set_option linter.unusedVariables false
set_option linter.unusedSimpArgs false
set_option maxRecDepth 100000
open Go.RowKit Go.Proofs.Ytodpgcdandechaa.Eng Enc

namespace Proj
/-- a clock's old number, where clock k has gone. -/
def sk (k j : Nat) : Nat := if j < k then j else j + 1
def dropAt (N k idx : Nat) : Nat := sk k (idx / (N - 1)) * N + sk k (idx % (N - 1))
def dropL (N k : Nat) (c : List Int) : List Int := (List.range ((N - 1) * (N - 1))).map fun idx => c[dropAt N k idx]?.getD 0
/-- Drop: the clocks, the bounds, and the error. -/
def drop (n : Int) (L : List Int) (k : Int) : Int × List Int × Int :=
  if Dbm.chk n L = 0 then (if k < 1 ∨ n ≤ k then (0, [], 2) else (match Dbm.closeL n.toNat L with | some c => (n - 1, dropL n.toNat k.toNat c, 0) | none => (0, [], 6))) else (0, [], 8)
end Proj

/-- the places that are handed to made: by the list of what is left, and the clocks that there were. -/
theorem drop1_any (i j : Nat) (p q : Nat) (a : Option Addr) (cap : Nat) (l : List Int) (n x y : Int) (hx : l[i]? = some x) (hy : l[j]? = some y) (hr : inK .i64 (x * n) ∧ inK .i64 (x * n + y)) (w : World) (hp : w.cell? ⟨p, 0, none⟩ = some (.slice a l.length cap)) (hS : Sl w.heap.size w (.slice a l.length cap) l) (hq : w.cell? ⟨q, 0, none⟩ = some (.int .i64 n)) :
    Calls Try.prog 16 #[.int .i64 i, .int .i64 j, .pointer (some ⟨p, 0, none⟩), .pointer (some ⟨q, 0, none⟩)] w fun e w' => e = .returned (.int .i64 (x * n + y)) ∧ Below w.heap.size w w' := by
  refine fun_eq 0 w Try.func16 (args := [.val (.int .i64 i), .val (.int .i64 j), .val (.pointer (some ⟨p, 0, none⟩)), .val (.pointer (some ⟨q, 0, none⟩))]) rfl rfl ?_
  refine DrawI.go (.tk 0 (.tk 1 (.tk 2 (.tk 3 (.tk 4 (.tk 5 (.tk 6 (.tk 7 (.tk 8 (.tk 9 (.tk 10 (.tk 11 (.tk 12 .done))))))))))))) (by kernel_rfl) fun w1 h1 => ?_
  have hb := h1.go
  refine LoadI.mk ⟨_, ⟨(hb.cell (p := ⟨p, 0, none⟩) (World.block_lt_of_cell? _ _ hp)).trans hp, by simp⟩, ?_⟩
  refine hS.idx hx fun ad had => ?_
  refine hS.ld1 hx had hb (by simp) ?_
  refine LoadI.mk ⟨_, ⟨(hb.cell (p := ⟨q, 0, none⟩) (World.block_lt_of_cell? _ _ hq)).trans hq, by simp⟩, ?_⟩
  refine Need.mk hr.1 ?_
  refine LoadI.mk ⟨_, ⟨(hb.cell (p := ⟨p, 0, none⟩) (World.block_lt_of_cell? _ _ hp)).trans hp, by simp⟩, ?_⟩
  refine hS.idx hy fun ad had => ?_
  refine hS.ld1 hy had hb (by simp) ?_
  refine Need.mk hr.2 ?_
  exact EndI.mk fun w2 h2 => rfl

abbrev TI : TypeId := 3
/-- a list of numbers from 0 on. -/
def upto (N : Nat) : List Int := (List.range N).map (Int.ofNat)
theorem upto_succ (N : Nat) : upto (N + 1) = upto N ++ [(N : Int)] := by simp [upto, List.range_succ]
theorem upto_len (N : Nat) : (upto N).length = N := by simp [upto]

/-- what is left of the clocks. -/
def leftL (N K : Nat) : List Int := (upto N).take K ++ (upto N).drop (K + 1)
theorem leftL_len {N K : Nat} (h : K < N) : (leftL N K).length = K + (N - (K + 1)) := by simp [leftL, upto_len]; omega
theorem leftL_get {N K j : Nat} (h : K < N) (hj : j < N - 1) : (leftL N K)[j]? = some (Proj.sk K j : Int) := by
  unfold leftL Proj.sk upto
  rw [List.getElem?_append]
  have hl : (List.take K (List.map Int.ofNat (List.range N))).length = K := by simp; omega
  rw [hl]
  split
  · rename_i h1
    rw [List.getElem?_take, if_pos h1, List.getElem?_map, List.getElem?_range (by omega)]; rfl
  · rename_i h1
    rw [List.getElem?_drop, List.getElem?_map, List.getElem?_range (by omega)]
    simp only [Option.map_some]
    rw [show K + 1 + (j - K) = j + 1 by omega]; rfl
theorem dropAt_lt {N k idx : Nat} (hN : 2 ≤ N) (hk : k < N) (h : idx < (N - 1) * (N - 1)) : Proj.dropAt N k idx < N * N := by
  have h1 : idx / (N - 1) < N - 1 := Nat.div_lt_of_lt_mul h
  have h2 : idx % (N - 1) < N - 1 := Nat.mod_lt _ (by omega)
  have h3 : Proj.sk k (idx / (N - 1)) < N := by unfold Proj.sk; split <;> omega
  have h4 : Proj.sk k (idx % (N - 1)) < N := by unfold Proj.sk; split <;> omega
  unfold Proj.dropAt
  calc _ < Proj.sk k (idx / (N - 1)) * N + N := by omega
    _ = (Proj.sk k (idx / (N - 1)) + 1) * N := by rw [Nat.succ_mul]
    _ ≤ N * N := Nat.mul_le_mul_right _ h3
theorem drop_any (n : Int) (a : Option Addr) (cap : Nat) (L : List Int) (k : Int) (w : World) (hS : Sl w.heap.size w (.slice a L.length cap) L) :
    Calls Try.prog 5 #[.agg #[.int .i64 n, .slice a L.length cap], .int .i64 k] w (Ret w fun v w' => ∃ a' cap', v = .tuple #[.agg #[.int .i64 (Proj.drop n L k).1, .slice a' (Proj.drop n L k).2.1.length cap'], .int .i64 (Proj.drop n L k).2.2] ∧ Fresh TB w.heap.size w' (.slice a' (Proj.drop n L k).2.1.length cap') (Proj.drop n L k).2.1) := by
  refine fun_ret 0 w Try.func5 (args := [.agg [.val (.int .i64 n), .val (.slice a L.length cap)], .val (.int .i64 k)]) rfl rfl ?_
  refine NewI.mk fun b1 hb1 => ?_
  refine NewI.mk fun b2 hb2 => ?_
  (first
    | (apply CallI.use1; (focus (exact fun w1 h1 => dcheck_any n a cap L w1 (Sl.at h1 hS))); intro w1 w2 h1 hB)
    | (refine Branch.yes rfl ?_)
    | (refine Branch.no rfl ?_)
    | (refine Branch.mk (fun hb => ?_) (fun hb => ?_))
    | (refine NewI.mk fun nb hnb => ?_)
    | (refine Need.mk (by show _ ∧ _; omega) ?_)
    | (refine Need.mk (by omega) ?_)
    | (refine Need.mk ?_ ?_)
    | (refine EndI.mk fun w1 h1 => ?_))
  -- an error
  have err : ∀ (e : Int) (w' : World), Proj.drop n L k = (0, [], e) → ∃ a' cap', Value.tuple #[.agg #[.int .i64 0, .slice none 0 0], .int .i64 e] = .tuple #[.agg #[.int .i64 (Proj.drop n L k).1, .slice a' (Proj.drop n L k).2.1.length cap'], .int .i64 (Proj.drop n L k).2.2] ∧ Fresh TB w.heap.size w' (.slice a' (Proj.drop n L k).2.1.length cap') (Proj.drop n L k).2.1 := fun e w' he => by
    rw [he]; exact ⟨_, _, rfl, .inl ⟨rfl, rfl⟩⟩
  refine Branch.mk (fun hc => ?_) (fun hc => ?_)
  · exact EndI.mk fun w3 h3 => err 8 w3 (by rw [Proj.drop, if_neg (by simpa using hc)])
  have hc0 : Dbm.chk n L = 0 := by simpa using hc
  refine Branch.mk (fun hk1 => ?_) (fun hk1 => ?_)
  · exact EndI.mk fun w3 h3 => err 2 w3 (by rw [Proj.drop, if_pos hc0, if_pos (.inl (by simpa using hk1))])
  refine Branch.mk (fun hk2 => ?_) (fun hk2 => ?_)
  · exact EndI.mk fun w3 h3 => err 2 w3 (by rw [Proj.drop, if_pos hc0, if_pos (.inr (by simpa using hk2))])
  have hk1' : 1 ≤ k := by simp at hk1; omega
  have hk2' : k < n := by simpa using hk2
  have hcon := fun (w3 : World) (h : Sl w3.heap.size w3 (.slice a L.length cap) L) => close_any n a cap L w3 h
  rcases Dbm.close_cases hc0 with ⟨h1, h2⟩ | ⟨C, hC, hcl, hCl⟩
  · simp only [h2] at hcon
    apply CallI.use
    · exact fun w3 h3 => hcon w3 (Sl.at h3 hS)
    rintro v w3 w4 h3 hB4 ⟨ac, capc, rfl, hF⟩
    refine NewI.mk fun b3 hb3 => ?_
    refine Branch.yes rfl ?_
    exact EndI.mk fun w5 h5 => err 6 w5 (by rw [Proj.drop, if_pos hc0, if_neg (by omega), h1])
  simp only [hcl] at hcon
  apply CallI.use
  · exact fun w3 h3 => hcon w3 (Sl.at h3 hS)
  rintro v w3 w4 h3 hB4 ⟨ac, capc, rfl, hF⟩
  refine NewI.mk fun b3 hb3 => ?_
  refine Branch.no rfl ?_
  refine NewI.mk fun b4 hb4 => ?_
  obtain ⟨N, rfl⟩ : ∃ N : Nat, n = N := ⟨n.toNat, by omega⟩
  obtain ⟨K, rfl⟩ : ∃ K : Nat, k = K := ⟨k.toNat, by omega⟩
  obtain ⟨c1, c2, c3, c4⟩ := Dbm.chk_iff.1 hc0
  have hlen : C.length = N * N := by rw [hCl]; exact_mod_cast c3
  have hN4 : N ≤ 4 := by omega
  have hK1 : 1 ≤ K := by omega
  have hKN : K < N := by omega
  have hN2 : 2 ≤ N := by omega
  have hw4b : Below w.heap.size w w4 := h3.below.trans (hB4.mono h3.below.size)
  have hw4 : ∀ b, b ∈ [b1, b2] → b < w4.heap.size := fun b hb => Nat.lt_of_lt_of_le (h3.lt b hb) hB4.size
  obtain ⟨X, hX3, hX4, hXw, hXm⟩ : ∃ X, b3 < X ∧ b4 < X ∧ w4.heap.size ≤ X ∧ ∀ n, b3 < n → b4 < n → w4.heap.size ≤ n → X ≤ n := ⟨max (max b3 b4 + 1) w4.heap.size, by omega, by omega, by omega, fun n h1 h2 h3 => by omega⟩
  refine LoopI.inv (α := Nat × World × Value) (fun y => [(36, .val (.int .i64 y.1))]) (fun y => [⟨[.val (.int .i64 N), .val (.slice a L.length cap)], 24⟩, ⟨[.val (.int .i64 0), .val (.slice none 0 0)], 24⟩, ⟨[.val (.int .i64 N), .val (.slice ac C.length capc)], 24⟩, ⟨[.val y.2.2], 25⟩]) (fun y => y.2.1)
    (fun y => y.1 ≤ N ∧ Below w4.heap.size w4 y.2.1 ∧ X ≤ y.2.1.heap.size ∧ Own TI X y.2.1 y.2.2 (upto y.1)) (fun y => N - y.1) ?_ ?_
  · intro w5 h5
    exact ⟨(0, w5, .slice none 0 0), Cov.mk (by repeat' (first | exact trivial | refine And.intro rfl ?_)) rfl rfl rfl rfl rfl, rfl, Nat.zero_le _, h5.from hw4b (Below.refl _ _) (by intro b hb; simp at hb; subst hb; exact hb3), hXm _ (h5.lt b3 (by simp)) (h5.lt b4 (by simp)) h5.size, Own.nil⟩
  rintro ⟨i, W, sv⟩ ⟨hi, hBW, hXW, hO⟩
  refine Branch.mk (fun hb => ?_) (fun hb => ?_)
  · have hlt : i < N := by simpa using hb
    refine NewI.mk fun b5 hb5 => ?_
    have hb5' : W.heap.size ≤ b5 := hb5
    have hXW' : X ≤ W.heap.size := hXW
    have hO1 : Own TI X W sv (upto i) := hO
    have hBW' : Below w4.heap.size w4 W := hBW
    have hr : ∀ g, sv.ownBlock = some g → w.heap.size ≤ g ∧ g ∉ [b1, b2, b3, b4, b5] := fun g hg => by
      have := hO1.lt g hg
      refine ⟨Nat.le_trans (Nat.le_trans (Nat.le_trans h3.below.size hB4.size) hXw) this.1, fun hm => ?_⟩
      simp only [List.mem_cons, List.not_mem_nil, or_false] at hm
      rcases hm with rfl | rfl | rfl | rfl | rfl
      · have := hw4 g (by simp); omega
      · have := hw4 g (by simp); omega
      · omega
      · omega
      · omega
    refine GenN.app (α := Int) elDI (upto i) [(i : Int)] X (fun w5 h5 => hO1.below h5.go) (fun w5 h5 => src_own h5 4 rfl rfl rfl rfl) (by rw [upto_len]; unfold maxLen; simp; omega) (by rw [upto_len]; simp; omega) (fun w5 h5 => Nat.le_trans hXW' h5.size)
      (fun w5 w6 h5 hg => keep_grown h5 hg hr) fun sv' w5 w6 h5 hg hO' => ?_
    obtain ⟨a', c', rfl⟩ := hO'.form
    rw [← upto_succ] at hO'
    have hB6 : Below w4.heap.size w4 w6 := ⟨hg.os.trans h5.go.os |>.trans hBW'.os, hg.tape.trans h5.go.tape |>.trans hBW'.tape, hg.output.trans h5.go.output |>.trans hBW'.output, Nat.le_trans hBW'.size (Nat.le_trans h5.size hg.size), fun k hk => by
      have hkW : k < W.heap.size := Nat.lt_of_lt_of_le hk hBW'.size
      refine (hg.block k (Nat.lt_of_lt_of_le hkW h5.size) (fun e => ?_)).trans ((h5.go.block k hkW).trans (hBW'.block k hk))
      have := hO1.lt k e.symm
      omega⟩
    refine Need.mk (by show _ ∧ _; omega) (EndI.mk fun w7 h7 => ⟨(i + 1, w7, .slice a' (upto i ++ [(i : Int)]).length c'), Cov.mk (by repeat' (first | exact trivial | refine And.intro rfl ?_)) rfl rfl rfl rfl rfl, rfl, ⟨hlt, ?_, ?_, ?_⟩, by simp only; omega⟩)
    · exact h7.from hw4b hB6 (by intro b hb; simp at hb; subst hb; exact hb4)
    · exact Nat.le_trans hXW' (Nat.le_trans h5.size (Nat.le_trans hg.size h7.size))
    · rw [← upto_succ]
      exact hO'.at h7 (by intro b hb; simp at hb; subst hb; exact hX4)
  · have hge : i = N := by have : ¬ i < N := by simpa using hb
                           omega
    have hO1 : Own TI X W sv (upto N) := by rw [← hge]; exact hO
    have hBW' : Below w4.heap.size w4 W := hBW
    have hXW' : X ≤ W.heap.size := hXW
    clear hO hBW hXW hi hb hge
    obtain ⟨g, cg, rfl⟩ : ∃ g c, sv = .slice (some ⟨g, 0, none⟩) (upto N).length c := by
      obtain ⟨_, ⟨rfl, h0⟩ | ⟨g, c, cur, rfl, _⟩⟩ := id hO1
      · rw [upto_len] at h0; omega
      · exact ⟨g, c, rfl⟩
    obtain ⟨_, hXg, hgW, _⟩ := hO1.at0
    have hgw : w.heap.size ≤ g := Nat.le_trans hw4b.size (Nat.le_trans hXw hXg)
    have hgr : ∀ b, b ∈ [b1, b2, b3, b4] → b ≠ g := by
      intro b hb e
      simp only [List.mem_cons, List.not_mem_nil, or_false] at hb
      rcases hb with rfl | rfl | rfl | rfl
      · have := hw4 b (by simp); omega
      · have := hw4 b (by simp); omega
      · omega
      · omega
    refine Need.mk (by show _ ∧ _; omega) ?_
    apply CallI.mk
    intro w5 h5
    refine (deleteI_any (upto N) g cg X K (K + 1) TI rfl (by omega) (by rw [upto_len]; omega) w.heap.size w5 h5.below.size hgw (hO1.below h5.go) (by rw [upto_len]; omega)).mono ?_
    rintro e w6 ⟨v, rfl, hB6, rfl, hO6, hg6⟩
    refine ⟨⟨hB6, fun b hb => hg6.block b (h5.lt b hb) (fun e => hgr b hb (by injection e))⟩, _, rfl, ?_⟩
    have B46 : Below w4.heap.size w4 w6 := ⟨hg6.os.trans (h5.go.os.trans hBW'.os), hg6.tape.trans (h5.go.tape.trans hBW'.tape), hg6.output.trans (h5.go.output.trans hBW'.output), Nat.le_trans hBW'.size (Nat.le_trans h5.size hg6.size), fun k hk => by
      have hkW : k < W.heap.size := Nat.lt_of_lt_of_le hk hBW'.size
      refine (hg6.block k (Nat.lt_of_lt_of_le hkW h5.size) (fun e => ?_)).trans ((h5.go.block k hkW).trans (hBW'.block k hk))
      injection e with e; omega⟩
    have hm : K + ((upto N).length - (K + 1)) = N - 1 := by rw [upto_len]; omega
    rw [hm] at hO6 ⊢
    have hll : (leftL N K).length = N - 1 := by rw [leftL_len hKN]; omega
    have hO6' : Own TI X w6 (.slice (some ⟨g, 0, none⟩) (leftL N K).length cg) (leftL N K) := by rw [hll]; exact hO6
    apply CallI.use
    · intro w7 h7
      have B47 : Below w4.heap.size w4 w7 := h7.from hw4b B46 (by intro b hb; simp at hb; subst hb; exact hb4)
      refine pmade_any N C ac capc (N - 1) (by omega) (by omega) 16 #[.pointer (some ⟨b4, 0, none⟩), .pointer (some ⟨b3, 0, none⟩)] Try.call16 (fun idx => (Proj.dropAt N K idx : Int)) w7 ((hF.sl.below B47).upto B47.size) (fun k hk => by
        rw [hlen]; exact Int.ofNat_lt.2 (dropAt_lt hN2 hKN hk)) (fun k W' hk hW' => ?_)
      have h1 : k / (N - 1) < N - 1 := Nat.div_lt_of_lt_mul hk
      have h2 : k % (N - 1) < N - 1 := Nat.mod_lt _ (by omega)
      have hs : Sl w7.heap.size w7 (.slice (some ⟨g, 0, none⟩) (leftL N K).length cg) (leftL N K) := (hO6'.at h7 (by intro b hb; simp at hb; subst hb; exact hX4)).sl
      have hb4' := h7.lt b4 (by simp)
      have hb3' := h7.lt b3 (by simp)
      have sk1 : Proj.sk K (k / (N - 1)) < N := by unfold Proj.sk; split <;> omega
      have sk2 : Proj.sk K (k % (N - 1)) < N := by unfold Proj.sk; split <;> omega
      have hmul : Proj.sk K (k / (N - 1)) * N ≤ 4 * 4 := Nat.mul_le_mul (by omega) hN4
      have emul : (Proj.sk K (k / (N - 1)) : Int) * (N : Int) = ((Proj.sk K (k / (N - 1)) * N : Nat) : Int) := rfl
      refine drop1_any (k / (N - 1)) (k % (N - 1)) b4 b3 (some ⟨g, 0, none⟩) cg (leftL N K) N _ _ (leftL_get hKN h1) (leftL_get hKN h2) (by rw [emul]; constructor <;> (show _ ∧ _; omega)) W' ?_ (hs.go hW' hW'.size) ?_
      · refine (hW'.cell (p := ⟨b4, 0, none⟩) hb4').trans ?_
        rw [hll]; exact h7.own (i := 3) (o := 0) rfl rfl rfl
      · refine (hW'.cell (p := ⟨b3, 0, none⟩) hb3').trans ?_
        exact h7.own (i := 2) (o := 0) rfl rfl rfl
    rintro v w7 w8 h7 hB8 ⟨ad, cd, rfl, hFd⟩
    refine EndI.mk fun w9 h9 => ?_
    have hdl : madeL C (fun idx => (Proj.dropAt N K idx : Int)) ((N - 1) * (N - 1)) = Proj.dropL N K C := by
      unfold madeL Proj.dropL
      refine List.map_congr_left fun j hj => ?_
      show (if 0 ≤ ((Proj.dropAt N K j : Nat) : Int) then _ else _) = _
      rw [if_pos (Int.natCast_nonneg _), Int.toNat_natCast]
    have hdr : Proj.drop N L K = ((N : Int) - 1, Proj.dropL N K C, 0) := by
      rw [Proj.drop, if_pos hc0, if_neg (by omega), hC]; rfl
    rw [hdr]
    rw [hdl] at hFd ⊢
    have en : ((N - 1 : Nat) : Int) = (N : Int) - 1 := by omega
    rw [en]
    refine ⟨_, _, rfl, ?_⟩
    exact (hFd.at h9 (fun b hb => by have := h7.lt b2 (by simp); rw [List.mem_singleton.1 hb]; exact this)).lower h7.below.size
end Go.Proofs.Ytodpgcdandechaa

/-
  The contract of proj.Grow, by the engine.
-/
namespace Go.Proofs.Ytodpgcdandechaa
set_option linter.unusedVariables false
set_option linter.unusedSimpArgs false
set_option maxRecDepth 100000
open Go.RowKit Go.Proofs.Ytodpgcdandechaa.Eng Enc

namespace Proj
def growF (n : Nat) (idx : Nat) : Int := if max (idx / (n + 1)) (idx % (n + 1)) = n then -1 else ((idx / (n + 1) * n + idx % (n + 1) : Nat) : Int)
def growL (n : Nat) (L : List Int) : List Int := (madeL L (growF n) ((n + 1) * (n + 1))).set ((n + 1) * (n + 1) - 1) 1
/-- Grow: the clocks, the bounds, and the error. -/
def grow (n : Int) (L : List Int) : Int × List Int × Int :=
  if Dbm.chk n L = 0 then (if n = 4 then (0, [], 9) else (n + 1, growL n.toNat L, 0)) else (0, [], 8)
end Proj

theorem grow1_any (i j n q : Nat) (hr : i ≤ 16 ∧ j ≤ 16 ∧ n ≤ 16) (w : World) (hq : w.cell? ⟨q, 0, none⟩ = some (.int .i64 n)) :
    Calls Try.prog 20 #[.int .i64 i, .int .i64 j, .pointer (some ⟨q, 0, none⟩)] w fun e w' => e = .returned (.int .i64 (if max i j = n then -1 else ((i * n + j : Nat) : Int))) ∧ Below w.heap.size w w' := by
  refine fun_eq 0 w Try.func20 (args := [.val (.int .i64 i), .val (.int .i64 j), .val (.pointer (some ⟨q, 0, none⟩))]) rfl rfl ?_
  refine LoadI.mk ⟨_, ⟨hq, by simp⟩, ?_⟩
  have hmax : (if (j : Int) > i then (j : Int) else i) = ((max i j : Nat) : Int) := by
    split <;> omega
  have e1 : (i : Int) * n = ((i * n : Nat) : Int) := rfl
  have hin : i * n ≤ 16 * 16 := Nat.mul_le_mul hr.1 hr.2.2
  refine Branch.mk (fun hc => ?_) (fun hc => ?_)
  · have hc' : max i j = n := by
      have : (if (j : Int) > i then (j : Int) else i) = n := by simpa [maxL] using hc
      rw [hmax] at this; omega
    refine EndI.mk fun w1 h1 => ?_
    rw [if_pos hc']
  · have hc' : ¬ max i j = n := by
      have : ¬ (if (j : Int) > i then (j : Int) else i) = n := by simpa [maxL] using hc
      rw [hmax] at this; omega
    refine LoadI.mk ⟨_, ⟨hq, by simp⟩, ?_⟩
    refine Need.mk (by rw [e1]; show _ ∧ _; omega) ?_
    refine Need.mk (by rw [e1]; show _ ∧ _; omega) ?_
    refine EndI.mk fun w1 h1 => ?_
    rw [if_neg hc']; rfl

theorem grow_any (n : Int) (a : Option Addr) (cap : Nat) (L : List Int) (w : World) (hS : Sl w.heap.size w (.slice a L.length cap) L) :
    Calls Try.prog 7 #[.agg #[.int .i64 n, .slice a L.length cap]] w (Ret w fun v w' => ∃ a' cap', v = .tuple #[.agg #[.int .i64 (Proj.grow n L).1, .slice a' (Proj.grow n L).2.1.length cap'], .int .i64 (Proj.grow n L).2.2] ∧ Fresh TB w.heap.size w' (.slice a' (Proj.grow n L).2.1.length cap') (Proj.grow n L).2.1) := by
  refine fun_ret 0 w Try.func7 (args := [.agg [.val (.int .i64 n), .val (.slice a L.length cap)]]) rfl rfl ?_
  refine NewI.mk fun b1 hb1 => ?_
  refine NewI.mk fun b2 hb2 => ?_
  (first
    | (apply CallI.use1; (focus (exact fun w1 h1 => dcheck_any n a cap L w1 (Sl.at h1 hS))); intro w1 w2 h1 hB)
    | (refine Branch.yes rfl ?_)
    | (refine Branch.no rfl ?_)
    | (refine Branch.mk (fun hb => ?_) (fun hb => ?_))
    | (refine NewI.mk fun nb hnb => ?_)
    | (refine Need.mk (by show _ ∧ _; omega) ?_)
    | (refine Need.mk (by omega) ?_)
    | (refine Need.mk ?_ ?_)
    | (refine EndI.mk fun w1 h1 => ?_))
  have err : ∀ (e : Int) (w' : World), Proj.grow n L = (0, [], e) → ∃ a' cap', Value.tuple #[.agg #[.int .i64 0, .slice none 0 0], .int .i64 e] = .tuple #[.agg #[.int .i64 (Proj.grow n L).1, .slice a' (Proj.grow n L).2.1.length cap'], .int .i64 (Proj.grow n L).2.2] ∧ Fresh TB w.heap.size w' (.slice a' (Proj.grow n L).2.1.length cap') (Proj.grow n L).2.1 := fun e w' he => by
    rw [he]; exact ⟨_, _, rfl, .inl ⟨rfl, rfl⟩⟩
  refine Branch.mk (fun hc => ?_) (fun hc => ?_)
  · exact EndI.mk fun w3 h3 => err 8 w3 (by rw [Proj.grow, if_neg (by simpa using hc)])
  have hc0 : Dbm.chk n L = 0 := by simpa using hc
  refine Branch.mk (fun hk1 => ?_) (fun hk1 => ?_)
  · exact EndI.mk fun w3 h3 => err 9 w3 (by rw [Proj.grow, if_pos hc0, if_pos (by simpa using hk1)])
  have hn4 : n ≠ 4 := by simpa using hk1
  obtain ⟨c1, c2, c3, c4⟩ := Dbm.chk_iff.1 hc0
  obtain ⟨N, rfl⟩ : ∃ N : Nat, n = N := ⟨n.toNat, by omega⟩
  have hlen : L.length = N * N := by exact_mod_cast c3
  have hN1 : 1 ≤ N := by omega
  have hN3 : N ≤ 3 := by omega
  refine Need.mk (by show _ ∧ _; omega) ?_
  have hFlt : ∀ k, k < (N + 1) * (N + 1) → Proj.growF N k < L.length := fun k hk => by
    have h1 : k / (N + 1) < N + 1 := Nat.div_lt_of_lt_mul hk
    have h2 : k % (N + 1) < N + 1 := Nat.mod_lt _ (by omega)
    unfold Proj.growF
    split
    · omega
    · rename_i h3
      have h4 : k / (N + 1) < N := by omega
      have h5 : k % (N + 1) < N := by omega
      rw [hlen]
      refine Int.ofNat_lt.2 ?_
      calc _ < k / (N + 1) * N + N := by omega
        _ = (k / (N + 1) + 1) * N := by rw [Nat.succ_mul]
        _ ≤ N * N := Nat.mul_le_mul_right _ h4
  apply CallI.use
  · intro w3 h3
    refine pmade_any N L a cap (N + 1) (by omega) (by omega) 20 #[.pointer (some ⟨b1, 0, none⟩)] Try.call20 (Proj.growF N) w3 (Sl.at h3 hS) hFlt (fun k W' hk hW' => ?_)
    have h1 : k / (N + 1) < N + 1 := Nat.div_lt_of_lt_mul hk
    have h2 : k % (N + 1) < N + 1 := Nat.mod_lt _ (by omega)
    exact grow1_any (k / (N + 1)) (k % (N + 1)) N b1 (by omega) W' ((hW'.cell (p := ⟨b1, 0, none⟩) (h3.lt b1 (by simp))).trans (h3.own (i := 0) (o := 0) rfl rfl rfl))
  rintro v w3 w4 h3 hB4 ⟨am, cm, rfl, hF⟩
  have hml := madeL_len L (Proj.growF N) ((N + 1) * (N + 1))
  have hpos : 0 < (N + 1) * (N + 1) := Nat.mul_pos (by omega) (by omega)
  have hle : (N + 1) * (N + 1) ≤ 4 * 4 := Nat.mul_le_mul (by omega) (by omega)
  rcases hF with ⟨_, e0⟩ | ⟨g, cg, e0, f1, f2, f3, f4⟩
  · rw [e0] at hml; simp at hml
  injection e0 with e0 e1 e2
  subst e0; subst e2
  refine NewI.mk fun b3 hb3 => ?_
  rw [hml]
  refine Need.mk (by show _ ∧ _; omega) ?_
  refine IdxI.mk ⟨_, ⟨rfl, by omega, by omega⟩, ?_⟩
  have hgw : w.heap.size ≤ g := Nat.le_trans h3.below.size f3
  have hgr : ∀ b, b ∈ [b1, b2, b3] → b ≠ g := by
    intro b hb e
    subst e
    simp only [List.mem_cons, List.not_mem_nil, or_false] at hb
    have := f4.lt
    rcases hb with rfl | rfl | rfl
    · have := h3.lt b (by simp); omega
    · have := h3.lt b (by simp); omega
    · omega
  refine StoreI.mk fun w5 h5 => ?_
  have r5 := f4.at h5 (fun e => hgr b3 (by simp) (List.mem_singleton.1 e).symm)
  have eidx : ((⟨g, 0, none⟩ : Addr).add (((((N + 1) * (N + 1) : Nat) : Int) - 1).toNat * 1)) = ⟨g, (N + 1) * (N + 1) - 1, none⟩ := by
    rw [addr_addL]
    generalize (N + 1) * (N + 1) = M at *
    congr 1
    omega
  rw [eidx]
  have hj : (N + 1) * (N + 1) - 1 < (madeL L (Proj.growF N) ((N + 1) * (N + 1))).length := by rw [hml]; omega
  refine ⟨⟨⟨_, r5.cell hj⟩, r5.frozen _⟩, keep_set hgw hgr, ?_⟩
  refine EndI.mk fun w6 h6 => ?_
  have hgo : Proj.grow N L = ((N : Int) + 1, Proj.growL N L, 0) := by rw [Proj.grow, if_pos hc0, if_neg hn4]; rfl
  rw [hgo]
  have hgl : (Proj.growL N L).length = (N + 1) * (N + 1) := by rw [Proj.growL, List.length_set, hml]
  rw [hgl]
  refine ⟨_, _, rfl, .inr ⟨g, cm, by rw [hgl], by rw [hgl, ← hml]; exact f1, f2, hgw, ?_⟩⟩
  exact (r5.set hj 1).at h6 (fun e => hgr b2 (by simp) (List.mem_singleton.1 e).symm)
end Go.Proofs.Ytodpgcdandechaa

/-
  Plain laws of closing a matrix that is a list: each stage on the list is a stage of the theory, and what is answered is closed. No program is in sight.
-/
namespace Go.Proofs.Ytodpgcdandechaa.Dbm
set_option linter.unusedVariables false

def NO : Int := 9223372036854775807
def ob (b : Int) : OB := if b = NO then none else some b
def mx (N : Nat) (L : List Int) : Mx := fun i j => ob (L[i * N + j]?.getD 0)
/-- a bound's number is at most m. -/
def lim (m : Int) (b : Int) : Prop := b = NO ∨ (-m ≤ b / 2 ∧ b / 2 ≤ m)

theorem lim_mono {m m' b : Int} (h : lim m b) (hm : m ≤ m') : lim m' b := by
  rcases h with h | h
  · exact .inl h
  · exact .inr (by omega)
theorem add_eq {u v : Int} (hu : lim 1152921504606846976 u) (hv : lim 1152921504606846976 v) : ob (Bd.add u v).1 = oadd (ob u) (ob v) ∧ lim 2305843009213693952 (Bd.add u v).1 := by
  have mu : Bd.may u = true := by
    rcases hu with rfl | h
    · rfl
    · exact Bd.may_of (Num.okB_iff.2 (by omega))
  have mv : Bd.may v = true := by
    rcases hv with rfl | h
    · rfl
    · exact Bd.may_of (Num.okB_iff.2 (by omega))
  by_cases nu : u = NO
  · have := Bd.add_none mu mv (.inl nu)
    rw [this]; subst nu; exact ⟨by simp [ob, NO, oadd], .inl rfl⟩
  · by_cases nv : v = NO
    · have := Bd.add_none mu mv (.inr nv)
      rw [this]; subst nv; exact ⟨by rw [show ob NO = none from rfl, oadd_none]; rfl, .inl rfl⟩
    · have hu' := hu.resolve_left nu
      have hv' := hv.resolve_left nv
      have := Bd.add_yes mu mv nu nv
      rw [this, Bd.made_yes (Num.okB_iff.2 (by omega))]
      have e1 : Bd.mk (u / 2 + v / 2) (Bd.st u || Bd.st v) = bsum u v := by
        unfold Bd.mk Bd.st bsum
        rcases parity u with h1 | h1 <;> rcases parity v with h2 | h2 <;> simp [h1, h2]
      simp only [e1]
      have e2 : bsum u v ≠ NO := by
        unfold bsum NO
        rcases parity u with h1 | h1 <;> rcases parity v with h2 | h2 <;> simp only [h1, h2] <;> omega
      refine ⟨by simp [ob, nu, nv, e2, oadd], .inr ?_⟩
      unfold bsum
      rcases parity u with h1 | h1 <;> rcases parity v with h2 | h2 <;> simp only [h1, h2] <;> omega
theorem lt_iff {m : Int} (hm : m ≤ 2305843009213693952) {u v : Int} (hu : lim m u) (hv : lim m v) : u < v ↔ olt (ob u) (ob v) := by
  unfold ob olt
  rcases hu with rfl | h1 <;> rcases hv with rfl | h2
  · simp
  · have : v ≠ NO := by unfold NO; omega
    simp [this]; unfold NO; omega
  · have : u ≠ NO := by unfold NO; omega
    simp [this]; unfold NO; omega
  · have a1 : u ≠ NO := by unfold NO; omega
    have a2 : v ≠ NO := by unfold NO; omega
    simp [a1, a2]
theorem ob_inj {u v : Int} (h : ob u = ob v) : u = v := by
  unfold ob at h
  split at h <;> split at h
  · omega
  · cases h
  · cases h
  · injection h

/-! ### numbers of places -/
theorem place_lt {N i j : Nat} (hi : i < N) (hj : j < N) : i * N + j < N * N := by
  calc _ < i * N + N := by omega
    _ = (i + 1) * N := by rw [Nat.succ_mul]
    _ ≤ N * N := Nat.mul_le_mul_right _ hi
theorem place_div {N i j : Nat} (hj : j < N) : (i * N + j) / N = i := by
  rw [Nat.add_comm, Nat.add_mul_div_right _ _ (by omega), Nat.div_eq_of_lt hj]; omega
theorem place_mod {N i j : Nat} (hj : j < N) : (i * N + j) % N = j := by
  rw [Nat.add_comm, Nat.add_mul_mod_self_right, Nat.mod_eq_of_lt hj]
theorem place_inj {N i j i' j' : Nat} (hj : j < N) (hj' : j' < N) (h : i * N + j = i' * N + j') : i = i' ∧ j = j' := by
  have h1 := congrArg (· / N) h
  have h2 := congrArg (· % N) h
  simp only [place_div hj, place_div hj', place_mod hj, place_mod hj'] at h1 h2
  exact ⟨h1, h2⟩
theorem div_lt {N p : Nat} (h : p < N * N) : p / N < N := Nat.div_lt_of_lt_mul h
theorem mod_lt {N p : Nat} (h : p < N * N) : p % N < N := Nat.mod_lt _ (by
  rcases Nat.eq_zero_or_pos N with rfl | h0
  · simp at h
  · exact h0)
theorem div_mod {N p : Nat} : p / N * N + p % N = p := Nat.div_add_mod' p N

/-! ### a stage -/
/-- the values of a stage, place by place. -/
theorem upd_get {N k : Nat} {L : List Int} {p : Nat} (hp : p < L.length) (q : Nat) : (upd N k L p)[q]?.getD 0 = if q = p then (if (Bd.add (L[p / N * N + k]?.getD 0) (L[k * N + p % N]?.getD 0)).1 < L[p]?.getD 0 then (Bd.add (L[p / N * N + k]?.getD 0) (L[k * N + p % N]?.getD 0)).1 else L[p]?.getD 0) else L[q]?.getD 0 := by
  unfold upd
  split
  · rw [List.getElem?_set]
    by_cases h : p = q
    · subst h; simp [hp]
    · rw [if_neg h, if_neg (fun e => h e.symm)]
  · by_cases h : q = p
    · subst h; simp
    · simp [h]
theorem stage_eq {N k : Nat} {L : List Int} (hk : k < N) (hL : L.length = N * N) (hkk : L[k * N + k]?.getD 0 = 1) (hlim : ∀ q, q < N * N → lim 1152921504606846976 (L[q]?.getD 0)) :
    ∀ n, n ≤ N * N → ∀ q, q < N * N → ob (((List.range n).foldl (upd N k) L)[q]?.getD 0) = (if q < n then thr k (mx N L) (q / N) (q % N) else ob (L[q]?.getD 0)) := by
  intro n
  induction n with
  | zero => intro _ q hq; simp
  | succ n ih =>
    intro hn q hq
    have ihn := ih (by omega)
    rw [List.range_succ, List.foldl_append, List.foldl_cons, List.foldl_nil]
    generalize hM : (List.range n).foldl (upd N k) L = M at *
    have hMl : M.length = N * N := by rw [← hM, foldl_upd_length, hL]
    have hn' : n < N * N := by omega
    have di := div_lt hn'
    have mi := mod_lt hn'
    -- the row and the column of k stand as they stood
    have same : ∀ i j, i < N → j < N → (i = k ∨ j = k) → M[i * N + j]?.getD 0 = L[i * N + j]?.getD 0 := by
      intro i j hi hj hij
      have h1 := ihn (i * N + j) (place_lt hi hj)
      rw [place_div hj, place_mod hj] at h1
      have hd : mx N L k k = some 1 := by unfold mx ob; rw [hkk]; rfl
      have h2 : ob (M[i * N + j]?.getD 0) = ob (L[i * N + j]?.getD 0) := by
        rw [h1]; split
        · rcases hij with rfl | rfl
          · exact thr_row hd j
          · exact thr_col hd i
        · rfl
      exact ob_inj h2
    rw [upd_get (by omega)]
    by_cases hqn : q = n
    · subst hqn
      rw [if_pos rfl, show (if q < q + 1 then thr k (mx N L) (q / N) (q % N) else ob (L[q]?.getD 0)) = thr k (mx N L) (q / N) (q % N) from if_pos (by omega)]
      have e1 := same (q / N) k di hk (.inr rfl)
      have e2 := same k (q % N) hk mi (.inl rfl)
      have e3 : M[q]?.getD 0 = L[q]?.getD 0 := ob_inj (by rw [ihn q hq, if_neg (by omega)])
      rw [e1, e2, e3]
      obtain ⟨a1, a2⟩ := add_eq (hlim _ (place_lt di hk)) (hlim _ (place_lt hk mi))
      have e4 : mx N L (q / N) (q % N) = ob (L[q]?.getD 0) := by unfold mx; rw [div_mod]
      have hlt := lt_iff (m := 2305843009213693952) (by omega) a2 (lim_mono (hlim q hq) (by omega))
      rw [a1] at hlt
      have e5 : mx N L (q / N) k = ob (L[q / N * N + k]?.getD 0) := rfl
      have e6 : mx N L k (q % N) = ob (L[k * N + q % N]?.getD 0) := rfl
      unfold thr
      rw [e4, e5, e6]
      by_cases hc : (Bd.add (L[q / N * N + k]?.getD 0) (L[k * N + q % N]?.getD 0)).1 < L[q]?.getD 0
      · rw [if_pos hc, if_pos (olt'_iff.2 (hlt.1 hc)), a1]
      · rw [if_neg hc, if_neg (fun h => hc (hlt.2 (olt'_iff.1 h)))]
    · rw [if_neg hqn, ihn q hq]
      by_cases h : q < n
      · rw [if_pos h, if_pos (by omega)]
      · rw [if_neg h, if_neg (by omega)]
theorem thrL_mx {N k : Nat} {L : List Int} (hk : k < N) (hL : L.length = N * N) (hkk : L[k * N + k]?.getD 0 = 1) (hlim : ∀ q, q < N * N → lim 1152921504606846976 (L[q]?.getD 0)) {i j : Nat} (hi : i < N) (hj : j < N) : mx N (thrL N k L) i j = thr k (mx N L) i j := by
  have := stage_eq hk hL hkk hlim (N * N) (Nat.le_refl _) (i * N + j) (place_lt hi hj)
  rw [if_pos (place_lt hi hj), place_div hj, place_mod hj] at this
  exact this

/-! ### how great bounds become -/
theorem nodup_len : ∀ (n : Nat) (l : List Nat), l.Nodup → (∀ a ∈ l, a < n) → l.length ≤ n := by
  intro n
  induction n with
  | zero => intro l _ h; cases l with
    | nil => simp
    | cons a l => exact absurd (h a (by simp)) (by omega)
  | succ n ih =>
    intro l hl h
    by_cases hn : n ∈ l
    · have h1 := List.length_erase_of_mem hn
      have h2 := ih (l.erase n) (hl.erase n) (fun a ha => by
        have h3 := (hl.mem_erase_iff.1 ha)
        have := h a h3.2
        omega)
      have := List.length_pos_of_mem hn
      omega
    · have := ih l hl (fun a ha => by
        have h1 := h a ha
        rcases Nat.lt_or_ge a n with h2 | h2
        · exact h2
        · exact absurd (by have : a = n := by omega
                           subst this; exact ha) hn)
      omega
theorem bsum_half (u v : Int) : bsum u v / 2 = u / 2 + v / 2 := by
  unfold bsum
  rcases parity u with h1 | h1 <;> rcases parity v with h2 | h2 <;> simp only [h1, h2] <;> omega
theorem way_lim {n : Nat} {E : Mx} {m : Int} (hm : 0 ≤ m) (hE : ∀ i j v, i < n → j < n → E i j = some v → -m ≤ v / 2 ∧ v / 2 ≤ m) : ∀ (p : List Nat) (v : Int), (∀ a ∈ p, a < n) → way E p = some v → -(m * (p.length - 1 : Nat)) ≤ v / 2 ∧ v / 2 ≤ m * (p.length - 1 : Nat)
  | [], v, _, h => by simp only [way] at h; injection h with h; subst h; simp
  | [a], v, _, h => by simp only [way] at h; injection h with h; subst h; simp
  | a :: b :: t, v, hp, h => by
    simp only [way] at h
    cases hu : E a b with
    | none => rw [hu] at h; cases h
    | some u =>
      cases hx : way E (b :: t) with
      | none => rw [hu, hx] at h; cases h
      | some x =>
        rw [hu, hx] at h
        injection h with h
        subst h
        have h1 := hE a b u (hp a (by simp)) (hp b (by simp)) hu
        have h2 := way_lim hm hE (b :: t) x (fun c hc => hp c (List.mem_cons_of_mem a hc)) hx
        rw [bsum_half]
        simp only [List.length_cons, Nat.add_sub_cancel] at h2 ⊢
        have e1 : m * ((t.length + 1 : Nat) : Int) = m * (t.length : Int) + m := by rw [Int.natCast_succ, Int.mul_add, Int.mul_one]
        omega
theorem Inv.lim {n k : Nat} {E M : Mx} (h : Inv n k E M) (hk : k ≤ n) (hn : n ≤ 4) (hE : ∀ i j v, i < n → j < n → E i j = some v → -288230376151711744 ≤ v / 2 ∧ v / 2 ≤ 288230376151711744) {i j : Nat} (hi : i < n) (hj : j < n) {v : Int} (hv : M i j = some v) : -864691128455135232 ≤ v / 2 ∧ v / 2 ≤ 864691128455135232 := by
  by_cases hij : i = j
  · subst hij; rw [h.diag i hi] at hv; injection hv with hv; subst hv; decide
  · obtain ⟨mid, h1, h2, h3⟩ := h.wit i j hi hj hij v hv
    have hlt : ∀ a ∈ i :: (mid ++ [j]), a < n := by
      intro a ha
      simp only [List.mem_cons, List.mem_append, List.not_mem_nil, or_false] at ha
      rcases ha with rfl | ha | rfl
      · exact hi
      · have := h2 a ha; omega
      · exact hj
    have hl := nodup_len n _ h1 hlt
    have hw := way_lim (by omega) hE _ v hlt h3
    have hl' : ((i :: (mid ++ [j])).length - 1 : Nat) ≤ 3 := by omega
    generalize ((i :: (mid ++ [j])).length - 1 : Nat) = x at hw hl'
    omega

/-! ### the whole -/
theorem mayC_lim {b : Int} (h : mayC b = true) : lim 288230376151711744 b := by
  unfold mayC at h
  simp only [Bool.or_eq_true, beq_iff_eq, Bool.and_eq_true, decide_eq_true_eq] at h
  exact h
theorem chk_lim {n : Int} {L : List Int} (h : chk n L = 0) (q : Nat) (hq : q < L.length) : lim 288230376151711744 (L[q]?.getD 0) := by
  obtain ⟨_, _, _, h4⟩ := chk_iff.1 h
  rw [List.any_eq_false] at h4
  have := h4 L[q] (List.getElem_mem hq)
  rw [List.getElem?_eq_getElem hq]
  exact mayC_lim (by simpa using this)
theorem diag_spec {N : Nat} {L : List Int} (hL : L.length = N * N) : ∀ (n : Nat) (Ln : List Int), n ≤ N → (List.range n).foldlM (diag1 N) L = some Ln → Ln.length = N * N ∧ (∀ i, i < n → 1 ≤ L[i * N + i]?.getD 0) ∧ ∀ i j, i < N → j < N → Ln[i * N + j]?.getD 0 = if i = j ∧ i < n then 1 else L[i * N + j]?.getD 0 := by
  intro n
  induction n with
  | zero => intro Ln _ h; simp at h; subst h; exact ⟨hL, fun i hi => by omega, fun i j _ _ => by simp⟩
  | succ n ih =>
    intro Ln hn h
    rw [List.range_succ, List.foldlM_append] at h
    cases h1 : (List.range n).foldlM (diag1 N) L with
    | none => rw [h1] at h; cases h
    | some M =>
      obtain ⟨a1, a2, a3⟩ := ih M (by omega) h1
      rw [h1] at h
      have h2 : diag1 N M n = some Ln := by simpa using h
      unfold diag1 at h2
      have e0 := a3 n n (by omega) (by omega)
      rw [if_neg (by omega)] at e0
      split at h2
      · cases h2
      · rename_i hc
        injection h2 with h2; subst h2
        rw [e0] at hc
        refine ⟨by simp [a1], fun i hi => ?_, fun i j hi hj => ?_⟩
        · by_cases e : i = n
          · subst e; omega
          · exact a2 i (by omega)
        · rw [List.getElem?_set]
          by_cases e : n * N + n = i * N + j
          · obtain ⟨rfl, rfl⟩ := place_inj (by omega) hj e
            rw [if_pos rfl, if_pos (by rw [a1]; exact place_lt (by omega) (by omega)), if_pos ⟨rfl, by omega⟩]; rfl
          · rw [if_neg e, a3 i j hi hj]
            by_cases e2 : i = j ∧ i < n
            · rw [if_pos e2, if_pos ⟨e2.1, by omega⟩]
            · rw [if_neg e2, if_neg]
              rintro ⟨rfl, h3⟩
              have : i = n := by
                rcases Nat.lt_or_ge i n with h4 | h4
                · exact absurd ⟨rfl, h4⟩ e2
                · omega
              subst this
              exact e rfl
/-- a closed matrix. -/
structure Clo (N : Nat) (C : List Int) : Prop where
  len : C.length = N * N
  diag : ∀ i, i < N → C[i * N + i]?.getD 0 = 1
  tri : ∀ i j a, i < N → j < N → a < N → ole (mx N C i j) (oadd (mx N C i a) (mx N C a j))
  lim : ∀ i j, i < N → j < N → lim 864691128455135232 (C[i * N + j]?.getD 0)
theorem mx_some {N : Nat} {L : List Int} {i j : Nat} {v : Int} (h : mx N L i j = some v) : L[i * N + j]?.getD 0 = v ∧ v ≠ NO := by
  unfold mx ob at h
  split at h
  · cases h
  · rename_i hn
    injection h with h
    exact ⟨h, h ▸ hn⟩
theorem lim_q {N : Nat} {L : List Int} {m : Int} (h : ∀ i j, i < N → j < N → lim m (L[i * N + j]?.getD 0)) : ∀ q, q < N * N → lim m (L[q]?.getD 0) := fun q hq => by
  have := h (q / N) (q % N) (div_lt hq) (mod_lt hq)
  rwa [div_mod] at this
/-- how far bounds lie under way. -/
theorem inv_lim {N n : Nat} {E : Mx} {M : List Int} (b2 : Inv N n E (mx N M)) (hn : n ≤ N) (hN4 : N ≤ 4) (hE : ∀ i j v, i < N → j < N → E i j = some v → -288230376151711744 ≤ v / 2 ∧ v / 2 ≤ 288230376151711744) : ∀ q, q < N * N → lim 864691128455135232 (M[q]?.getD 0) :=
  lim_q (fun i j hi hj => by
    cases hv : mx N M i j with
    | none =>
      unfold mx ob at hv
      split at hv
      · rename_i e; exact .inl e
      · cases hv
    | some v =>
      have h4 := b2.lim hn hN4 hE hi hj hv
      obtain ⟨e1, e2⟩ := mx_some hv
      rw [e1]; exact .inr h4)
/-- so many clocks gone through. -/
theorem fold_inv {N : Nat} {L1 : List Int} (hN4 : N ≤ 4) (a1 : L1.length = N * N) (hd1 : ∀ i, i < N → mx N L1 i i = some 1) (hE : ∀ i j v, i < N → j < N → mx N L1 i j = some v → -288230376151711744 ≤ v / 2 ∧ v / 2 ≤ 288230376151711744) :
    ∀ (n : Nat) (Cn : List Int), n ≤ N → (List.range n).foldlM (stage N) L1 = some Cn → Cn.length = N * N ∧ Inv N n (mx N L1) (mx N Cn) := by
    intro n
    induction n with
    | zero => intro Cn _ hc; simp at hc; subst hc; exact ⟨a1, Inv.start hd1⟩
    | succ n ih =>
      intro Cn hn hc
      rw [List.range_succ, List.foldlM_append] at hc
      cases h2 : (List.range n).foldlM (stage N) L1 with
      | none => rw [h2] at hc; cases hc
      | some M =>
        obtain ⟨b1, b2⟩ := ih M (by omega) h2
        rw [h2] at hc
        have h3 : stage N M n = some Cn := by simpa using hc
        unfold stage at h3
        split at h3
        case isFalse => cases h3
        rename_i hdok
        injection h3 with h3; subst h3
        have hlM := inv_lim b2 (by omega) hN4 hE
        have hMd : M[n * N + n]?.getD 0 = 1 := (mx_some (b2.diag n (by omega))).1
        have hthr : ∀ i j, i < N → j < N → mx N (thrL N n M) i j = thr n (mx N M) i j := fun i j hi hj => thrL_mx (by omega) b1 hMd (fun q hq => lim_mono (hlM q hq) (by omega)) hi hj
        have hd : ∀ i, i < N → thr n (mx N M) i i = some 1 := fun i hi => by
          rw [← hthr i i hi hi]
          have h5 : 1 ≤ (thrL N n M)[i * N + i]?.getD 0 := by
            rw [diagOk, List.all_eq_true] at hdok
            simpa using hdok i (List.mem_range.2 hi)
          have h6 := thr_le n (mx N M) i i
          rw [← hthr i i hi hi, b2.diag i hi] at h6
          unfold mx ob at h6 ⊢
          split at h6
          · exact h6.elim
          · rename_i hne
            rw [if_neg hne]
            have h7 : (thrL N n M)[i * N + i]?.getD 0 ≤ 1 := h6
            congr 1; omega
        have hstep := b2.step (by omega) hd
        refine ⟨by rw [thrL, foldl_upd_length, b1], ⟨fun i hi => by rw [hthr i i hi hi]; exact hd i hi, fun i j hi hj => by rw [hthr i j hi hj]; exact hstep.low i j hi hj, fun i j hi hj hne v hv => hstep.wit i j hi hj hne v (by rw [← hthr i j hi hj]; exact hv), fun i j a hi hj ha => by
          rw [hthr i j hi hj, hthr i a hi (by omega), hthr a j (by omega) hj]; exact hstep.closed i j a hi hj ha⟩⟩
/-- what closing answers: the theory's invariant. -/
theorem close_inv {N : Nat} {L C : List Int} (h0 : chk N L = 0) (h : closeL N L = some C) : ∃ L1, (∀ i, i < N → 1 ≤ L[i * N + i]?.getD 0) ∧ (∀ i j, i < N → j < N → L1[i * N + j]?.getD 0 = if i = j then 1 else L[i * N + j]?.getD 0) ∧ Inv N N (mx N L1) (mx N C) ∧ C.length = N * N ∧
    ∀ i j v, i < N → j < N → mx N L1 i j = some v → -288230376151711744 ≤ v / 2 ∧ v / 2 ≤ 288230376151711744 := by
  obtain ⟨c1, c2, c3, c4⟩ := chk_iff.1 h0
  have hN4 : N ≤ 4 := by omega
  have hL : L.length = N * N := by exact_mod_cast c3
  unfold closeL at h
  cases h1 : (List.range N).foldlM (diag1 N) L with
  | none => rw [h1] at h; cases h
  | some L1 =>
    rw [h1, Option.bind_some] at h
    obtain ⟨a1, a2, a3⟩ := diag_spec hL N L1 (Nat.le_refl _) h1
    have a3' : ∀ i j, i < N → j < N → L1[i * N + j]?.getD 0 = if i = j then 1 else L[i * N + j]?.getD 0 := fun i j hi hj => by
      rw [a3 i j hi hj]
      by_cases e : i = j
      · rw [if_pos ⟨e, hi⟩, if_pos e]
      · rw [if_neg (fun h => e h.1), if_neg e]
    have hd1 : ∀ i, i < N → mx N L1 i i = some 1 := fun i hi => by unfold mx; rw [a3' i i hi hi, if_pos rfl]; rfl
    have hE : ∀ i j v, i < N → j < N → mx N L1 i j = some v → -288230376151711744 ≤ v / 2 ∧ v / 2 ≤ 288230376151711744 := fun i j v hi hj hv => by
      obtain ⟨e1, e2⟩ := mx_some hv
      rw [a3' i j hi hj] at e1
      split at e1
      · subst e1; decide
      · have := chk_lim h0 (i * N + j) (by rw [hL]; exact place_lt hi hj)
        rw [e1] at this
        exact this.resolve_left e2
    obtain ⟨k1, k2⟩ := fold_inv hN4 a1 hd1 hE N C (Nat.le_refl _) h
    exact ⟨L1, a2, a3', k2, k1, hE⟩
theorem close_clo {N : Nat} {L C : List Int} (h0 : chk N L = 0) (h : closeL N L = some C) : Clo N C := by
  obtain ⟨L1, a2, a3, inv, hl, hE⟩ := close_inv h0 h
  obtain ⟨c1, c2, c3, c4⟩ := chk_iff.1 h0
  refine ⟨hl, fun i hi => (mx_some (inv.diag i hi)).1, fun i j a hi hj ha => inv.closed i j a hi hj ha, fun i j hi hj => ?_⟩
  cases hv : mx N C i j with
  | none =>
    unfold mx ob at hv
    split at hv
    · rename_i e; exact .inl e
    · cases hv
  | some v =>
    obtain ⟨e1, e2⟩ := mx_some hv
    rw [e1]; exact .inr (inv.lim (Nat.le_refl _) (by omega) hE hi hj hv)
/-- a closed one is its own. -/
theorem Clo.close {N : Nat} {C : List Int} (h : Clo N C) : closeL N C = some C := by
  have hq := lim_q h.lim
  have st : ∀ k, k < N → stage N C k = some C := fun k hk => by
    have e : thrL N k C = C := by
      apply List.ext_getElem?
      intro q
      rcases Nat.lt_or_ge q (N * N) with hq1 | hq1
      · have h1 := stage_eq hk h.len (h.diag k hk) (fun q hq' => lim_mono (hq q hq') (by omega)) (N * N) (Nat.le_refl _) q hq1
        rw [if_pos hq1] at h1
        have h2 : thr k (mx N C) (q / N) (q % N) = mx N C (q / N) (q % N) := by
          rcases thr_cases k (mx N C) (q / N) (q % N) with e | ⟨_, e⟩
          · exact e
          · exact (olt_irrefl e (h.tri _ _ k (div_lt hq1) (mod_lt hq1) hk)).elim
        have h3 : mx N C (q / N) (q % N) = ob (C[q]?.getD 0) := by unfold mx; rw [div_mod]
        rw [h2, h3] at h1
        have h4 := ob_inj h1
        have l1 : q < (thrL N k C).length := by rw [thrL, foldl_upd_length, h.len]; exact hq1
        have l2 : q < C.length := by rw [h.len]; exact hq1
        rw [List.getElem?_eq_getElem l1, List.getElem?_eq_getElem l2]
        change (thrL N k C)[q]?.getD 0 = _ at h4
        rw [List.getElem?_eq_getElem l1, List.getElem?_eq_getElem l2] at h4
        exact congrArg some h4
      · rw [List.getElem?_eq_none (by rw [thrL, foldl_upd_length, h.len]; exact hq1), List.getElem?_eq_none (by rw [h.len]; exact hq1)]
    unfold stage
    rw [e, if_pos]
    rw [diagOk, List.all_eq_true]
    intro i hi
    rw [h.diag i (List.mem_range.1 hi)]; decide
  have dg : ∀ i, i < N → diag1 N C i = some C := fun i hi => by
    unfold diag1
    rw [h.diag i hi, if_neg (by omega)]
    congr 1
    apply List.ext_getElem?
    intro q
    rw [List.getElem?_set]
    by_cases e : i * N + i = q
    · subst e
      have l2 : i * N + i < C.length := by rw [h.len]; exact place_lt hi hi
      have h1 := h.diag i hi
      rw [List.getElem?_eq_getElem l2] at h1
      rw [if_pos rfl, if_pos l2, List.getElem?_eq_getElem l2]
      exact congrArg some h1.symm
    · rw [if_neg e]
  have all : ∀ (f : List Int → Nat → Option (List Int)) (n : Nat), (∀ i, i < n → f C i = some C) → (List.range n).foldlM f C = some C := by
    intro f n
    induction n with
    | zero => intro _; rfl
    | succ n ih =>
      intro hf
      rw [List.range_succ, List.foldlM_append, ih (fun i hi => hf i (by omega))]
      simp [hf n (by omega)]
  unfold closeL
  rw [all _ N dg, Option.bind_some, all _ N st]
end Go.Proofs.Ytodpgcdandechaa.Dbm

/-
  The contract of the document's comparison of matrices (rallentandoref04.Same), by the engine.
-/
namespace Go.Proofs.Ytodpgcdandechaa
set_option linter.unusedVariables false
set_option linter.unusedSimpArgs false
set_option maxRecDepth 100000
open Go.RowKit Go.Proofs.Ytodpgcdandechaa.Eng Enc

def sameB (m n : Int) (L M : List Int) : Bool := decide (m = n) && decide (L = M)
theorem same04_any (m n : Int) (L M : List Int) (a b : Option Addr) (ca cb : Nat) (w : World) (hA : Sl w.heap.size w (.slice a L.length ca) L) (hB : Sl w.heap.size w (.slice b M.length cb) M) :
    Calls Try.prog 11 #[.agg #[.int .i64 m, .slice a L.length ca], .agg #[.int .i64 n, .slice b M.length cb]] w fun e w' => e = .returned (.bool (sameB m n L M)) ∧ Below w.heap.size w w' := by
  obtain ⟨_, _, ea, hca, hma, _⟩ := hA.form
  injection ea with e1 e2 e3
  subst e1; subst e3
  unfold maxLen at hma
  refine fun_eq 0 w Try.func11 (args := [.agg [.val (.int .i64 m), .val (.slice a L.length ca)], .agg [.val (.int .i64 n), .val (.slice b M.length cb)]]) rfl rfl ?_
  refine NewI.mk fun b1 hb1 => ?_
  refine NewI.mk fun b2 hb2 => ?_
  refine Branch.mk (fun hc => ?_) (fun hc => ?_)
  · refine EndI.mk fun w1 h1 => ?_
    have : m ≠ n := by simpa using hc
    simp [sameB, this]
  have hmn : m = n := by simpa using hc
  refine Branch.mk (fun hc => ?_) (fun hc => ?_)
  · refine EndI.mk fun w1 h1 => ?_
    have h1 : (L.length : Int) ≠ M.length := by simpa using hc
    have : L ≠ M := fun e => h1 (by rw [e])
    simp [sameB, this]
  have hlm : L.length = M.length := by have : (L.length : Int) = M.length := by simpa using hc
                                       omega
  refine LoopI.invC (α := Nat × World) (fun y => [(5, .val (.int .i64 y.1))]) (fun y => y.2) (fun y => y.1 ≤ L.length ∧ Below w.heap.size w y.2 ∧ ∀ j, j < y.1 → L[j]? = M[j]?) (fun y => L.length - y.1) ?_ ?_
  · intro w1 h1
    exact ⟨(0, w1), Cov.mk (by repeat' (first | exact trivial | refine And.intro rfl ?_)) rfl rfl rfl rfl rfl, rfl, Nat.zero_le _, h1.below, fun j hj => by omega⟩
  rintro ⟨k, W⟩ ⟨hk, hW, hall⟩
  refine Branch.mk (fun hb => ?_) (fun hb => ?_)
  · have hlt : k < L.length := by simpa using hb
    have hkm : k < M.length := by omega
    refine DrawI.go (.tk 0 (.tk 1 (.tk 2 (.tk 3 (.tk 4 (.tk 5 (.tk 6 (.tk 7 (.tk 8 (.tk 9 (.tk 10 .done))))))))))) (by kernel_rfl) fun w2 h2 => ?_
    refine hA.idx (List.getElem?_eq_getElem hlt) fun ad had => ?_
    refine hA.ld1 (List.getElem?_eq_getElem hlt) had h2.below (by simp) ?_
    refine hB.idx (List.getElem?_eq_getElem hkm) fun bd hbd => ?_
    refine hB.ld1 (List.getElem?_eq_getElem hkm) hbd h2.below (by simp) ?_
    refine Branch.mk (fun hc => ?_) (fun hc => ?_)
    · refine EndI.mk fun w3 h3 => ?_
      have h1 : L[k] ≠ M[k] := by simpa using hc
      have : L ≠ M := fun e => by subst e; exact h1 rfl
      simp [sameB, this]
    · have h1 : L[k] = M[k] := by simpa using hc
      refine Need.mk (by show _ ∧ _; omega) (EndI.mk fun w3 h3 => ⟨(k + 1, w3), Cov.mk (by repeat' (first | exact trivial | refine And.intro rfl ?_)) rfl rfl rfl rfl rfl, rfl, ⟨hlt, h3.below, fun j hj => ?_⟩, by simp only; omega⟩)
      by_cases hjk : j = k
      · subst hjk; rw [List.getElem?_eq_getElem hlt, List.getElem?_eq_getElem hkm, h1]
      · exact hall j (by omega)
  · have hge : k = L.length := by have : ¬ k < L.length := by simpa using hb
                                  omega
    refine EndI.mk fun w3 h3 => ?_
    have : L = M := by
      apply List.ext_getElem?
      intro j
      rcases Nat.lt_or_ge j L.length with h | h
      · exact hall j (by omega)
      · rw [List.getElem?_eq_none h, List.getElem?_eq_none (by omega)]
    simp [sameB, this, hmn]
end Go.Proofs.Ytodpgcdandechaa

/-
  Plain laws of clocks that come and go: a matrix without a clock is closed again, and of two clocks that go it turns nothing which goes first. No program is in sight.
-/
namespace Go.Proofs.Ytodpgcdandechaa.Proj
set_option linter.unusedVariables false
open Go.Proofs.Ytodpgcdandechaa.Dbm

theorem sk_lt {N k j : Nat} (hj : j < N - 1) : sk k j < N := by unfold sk; split <;> omega
theorem dropL_len (N k : Nat) (C : List Int) : (dropL N k C).length = (N - 1) * (N - 1) := by simp [dropL]
theorem dropL_get {N k : Nat} (C : List Int) {i j : Nat} (hi : i < N - 1) (hj : j < N - 1) : (dropL N k C)[i * (N - 1) + j]?.getD 0 = C[sk k i * N + sk k j]?.getD 0 := by
  unfold dropL
  rw [List.getElem?_map, List.getElem?_range (place_lt hi hj)]
  simp only [Option.map_some, Option.getD_some]
  unfold dropAt
  rw [place_div hj, place_mod hj]
theorem clo_drop {N k : Nat} {C : List Int} (h : Clo N C) : Clo (N - 1) (dropL N k C) := by
  have hm : ∀ i j, i < N - 1 → j < N - 1 → mx (N - 1) (dropL N k C) i j = mx N C (sk k i) (sk k j) := fun i j hi hj => by
    unfold mx; rw [dropL_get C hi hj]
  refine ⟨dropL_len _ _ _, fun i hi => ?_, fun i j a hi hj ha => ?_, fun i j hi hj => ?_⟩
  · rw [dropL_get C hi hi]; exact h.diag _ (sk_lt hi)
  · rw [hm i j hi hj, hm i a hi ha, hm a j ha hj]
    exact h.tri _ _ _ (sk_lt hi) (sk_lt hj) (sk_lt ha)
  · rw [dropL_get C hi hj]; exact h.lim _ _ (sk_lt hi) (sk_lt hj)
theorem ext_get {A B : List Int} {n : Nat} (ha : A.length = n) (hb : B.length = n) (h : ∀ q, q < n → A[q]?.getD 0 = B[q]?.getD 0) : A = B := by
  apply List.ext_getElem?
  intro q
  rcases Nat.lt_or_ge q n with hq | hq
  · have := h q hq
    rw [List.getElem?_eq_getElem (by omega), List.getElem?_eq_getElem (by omega)] at this ⊢
    exact congrArg some this
  · rw [List.getElem?_eq_none (by omega), List.getElem?_eq_none (by omega)]
theorem sk_sk {j k i : Nat} (hjk : j < k) : sk j (sk (k - 1) i) = sk k (sk j i) := by
  unfold sk
  by_cases h1 : i < k - 1 <;> by_cases h2 : i < j <;> simp only [h1, h2, if_true, if_false] <;> (repeat' split) <;> omega
theorem dropL_dropL {N j k : Nat} (C : List Int) (hjk : j < k) : dropL (N - 1) (k - 1) (dropL N j C) = dropL (N - 1) j (dropL N k C) := by
  refine ext_get (dropL_len _ _ _) (dropL_len _ _ _) fun q hq => ?_
  have h1 := div_lt hq
  have h2 := mod_lt hq
  rw [← div_mod (p := q) (N := N - 1 - 1)]
  rw [dropL_get _ h1 h2, dropL_get _ h1 h2, dropL_get _ (sk_lt h1) (sk_lt h2), dropL_get _ (sk_lt h1) (sk_lt h2), sk_sk hjk, sk_sk hjk]

/-- a clock goes, where one may. -/
theorem drop_ok {n : Int} {L : List Int} {k : Int} (h : (drop n L k).2.2 = 0) : chk n L = 0 ∧ 1 ≤ k ∧ k < n ∧ ∃ C, closeL n.toNat L = some C ∧ drop n L k = (n - 1, dropL n.toNat k.toNat C, 0) := by
  unfold drop at h ⊢
  split at h
  · rename_i h0
    split at h
    · cases h
    · rename_i h1
      split at h
      · rename_i C hC
        refine ⟨h0, by omega, by omega, C, hC, ?_⟩
        rw [if_pos h0, if_neg h1]
      · cases h
  · cases h
theorem drop_closed {N K : Nat} {A : List Int} (h0 : chk N A = 0) (hA : Clo N A) (h1 : 1 ≤ K) (h2 : K < N) : drop N A K = ((N : Int) - 1, dropL N K A, 0) := by
  unfold drop
  rw [if_pos h0, if_neg (by omega), Int.toNat_natCast, Int.toNat_natCast, hA.close]
/-- of two clocks that go it turns nothing which goes first. -/
theorem two {n : Int} {L : List Int} {j k : Int} (hjk : j < k) (ha : (drop n L j).2.2 = 0) (hb : (drop n L k).2.2 = 0) (ca : chk (drop n L j).1 (drop n L j).2.1 = 0) (cb : chk (drop n L k).1 (drop n L k).2.1 = 0) :
    drop (drop n L j).1 (drop n L j).2.1 (k - 1) = drop (drop n L k).1 (drop n L k).2.1 j := by
  obtain ⟨h0, j1, j2, C, hC, ea⟩ := drop_ok ha
  obtain ⟨_, k1, k2, C', hC', eb⟩ := drop_ok hb
  rw [hC] at hC'; injection hC' with hC'; subst hC'
  obtain ⟨N, rfl⟩ : ∃ N : Nat, n = N := ⟨n.toNat, by omega⟩
  obtain ⟨J, rfl⟩ : ∃ J : Nat, j = J := ⟨j.toNat, by omega⟩
  obtain ⟨K, rfl⟩ : ∃ K : Nat, k = K := ⟨k.toNat, by omega⟩
  rw [Int.toNat_natCast] at hC
  have hclo := close_clo h0 hC
  rw [ea] at ca ⊢
  rw [eb] at cb ⊢
  simp only [Int.toNat_natCast] at ca cb ⊢
  have en : (N : Int) - 1 = ((N - 1 : Nat) : Int) := by omega
  have ek : (K : Int) - 1 = ((K - 1 : Nat) : Int) := by omega
  rw [en] at ca cb ⊢
  rw [ek, drop_closed ca (clo_drop hclo) (by omega) (by omega), drop_closed cb (clo_drop hclo) (by omega) (by omega), dropL_dropL C (by omega)]
end Go.Proofs.Ytodpgcdandechaa.Proj

/-
  Fractions in plain words (no program here).
-/
namespace Go.Proofs.Ytodpgcdandechaa
set_option linter.unusedVariables false

namespace Fr
/-- may a fraction be? -/
def inB (n d : Int) : Bool := decide (-2305843009213693952 ≤ n / d) && (decide (n / d < 2305843009213693952) || (decide (n / d = 2305843009213693952) && decide (n % d = 0)))
def okB (n d : Int) : Bool := decide (1 ≤ d) && decide (d ≤ 1048576) && inB n d && decide (Nat.gcd n.natAbs d.natAbs = 1)
def chk (n d : Int) : Int := if okB n d = true then 0 else 8
theorem chk_yes {n d : Int} (h : okB n d = true) : chk n d = 0 := if_pos h
theorem chk_no {n d : Int} (h : okB n d = false) : chk n d = 8 := if_neg (by simp [h])
end Fr
end Go.Proofs.Ytodpgcdandechaa

/-
  The contracts of package rat that ask whether fractions may be, by the engine.
-/
namespace Go.Proofs.Ytodpgcdandechaa
set_option linter.unusedVariables false
set_option linter.unusedSimpArgs false
set_option maxRecDepth 100000
open Go.RowKit Go.Proofs.Ytodpgcdandechaa.Eng Enc

def Rt.ok (x : Rt) : Bool := Fr.okB x.num x.den

def cmpI (a b : Int) : Int := if a < b then -1 else if b < a then 1 else 0
namespace Fr
def sign (x y c : Int) : Int := if cmpI x y ≠ 0 then cmpI x y else c
/-- the last of three comparisons: of what is left over. -/
def rest (a b : Rt) : Int := cmpI (a.num % a.den * b.den) (b.num % b.den * a.den)
def kept (a b : Rt) (x : Int) : Bool :=
  decide (sign (a.num / a.den - b.num / b.den) (x / 2) (rest a b) < 0) || (decide (sign (a.num / a.den - b.num / b.den) (x / 2) (rest a b) = 0) && !(Bd.st x))
end Fr
end Go.Proofs.Ytodpgcdandechaa

/-
  slices.IndexFunc and ContainsFunc at a list of api.Rat: with a function that answers p of an element, and goes from T k to T (k + 1).
-/
namespace Go.Proofs.Ytodpgcdandechaa
set_option linter.unusedVariables false
set_option linter.unusedSimpArgs false
set_option maxRecDepth 100000
open Go.RowKit Go.Proofs.Ytodpgcdandechaa.Eng Enc

end Go.Proofs.Ytodpgcdandechaa

/-
  The contract of dbm.Keeps, by the engine.
-/
namespace Go.Proofs.Ytodpgcdandechaa
set_option linter.unusedVariables false
set_option linter.unusedSimpArgs false
set_option maxRecDepth 100000
open Go.RowKit Go.Proofs.Ytodpgcdandechaa.Eng Enc

namespace Dbm
end Dbm

theorem Own.own {α : Type} [Enc α] {w0 : Base} {hp : List LB} {r L : List Nat} {w w1 : World} {l : List α} (h : At w0 hp r L w w1) (i : Nat) {b n : Nat} {c : LB} (hi : r[i]? = some b) (hc : hget hp i = some c) (hm : denL r c.cells = cellsL l) (hb : w0.B ≤ b) (hn : n = l.length := by rfl) (hmax : n ≤ maxLen := by decide) : Own c.ty w0.B w1 (.slice (some ⟨b, 0, none⟩) n n) l := by
  subst hn
  have h1 := h.blk i b c hi hc
  refine ⟨cellsL_len l, .inr ⟨b, _, _, rfl, hb, h1, Nat.le_refl _, hmax, ?_, ?_⟩⟩
  · rw [hm, List.size_toArray, cellsL_len]
  · rw [hm, List.take_of_length_le (by rw [cellsL_len]; exact Nat.le_refl _)]
end Go.Proofs.Ytodpgcdandechaa

/-
  Plain laws of a clock more: closing goes alike, and what is kept. No program is in sight.
-/
namespace Go.Proofs.Ytodpgcdandechaa.Proj
set_option linter.unusedVariables false
open Go.Proofs.Ytodpgcdandechaa.Dbm

/-- G is L with a clock more. -/
structure Sim (N : Nat) (L G : List Int) : Prop where
  l : L.length = N * N
  g : G.length = (N + 1) * (N + 1)
  in_ : ∀ i j, i < N → j < N → G[i * (N + 1) + j]?.getD 0 = L[i * N + j]?.getD 0
  row : ∀ j, j < N → G[N * (N + 1) + j]?.getD 0 = NO
  col : ∀ i, i < N → G[i * (N + 1) + N]?.getD 0 = NO
  own : G[N * (N + 1) + N]?.getD 0 = 1

theorem growL_len (N : Nat) (L : List Int) : (growL N L).length = (N + 1) * (N + 1) := by simp [growL, madeL_len]
theorem growL_get {N : Nat} (L : List Int) {i j : Nat} (hi : i < N + 1) (hj : j < N + 1) : (growL N L)[i * (N + 1) + j]?.getD 0 = if i = N ∧ j = N then 1 else if i = N ∨ j = N then NO else L[i * N + j]?.getD 0 := by
  have hp := place_lt hi hj
  have hl : N * (N + 1) + N = (N + 1) * (N + 1) - 1 := by rw [Nat.succ_mul]; omega
  unfold growL
  rw [List.getElem?_set]
  by_cases h : i = N ∧ j = N
  · obtain ⟨rfl, rfl⟩ := h
    rw [if_pos hl.symm, if_pos (by rw [madeL_len]; omega), if_pos ⟨rfl, rfl⟩]; rfl
  · rw [if_neg (fun e => h (place_inj hj (by omega : N < N + 1) (e.symm.trans hl.symm))), if_neg h]
    unfold madeL
    rw [List.getElem?_map, List.getElem?_range hp]
    simp only [Option.map_some, Option.getD_some]
    have hF : growF N (i * (N + 1) + j) = if max i j = N then -1 else ((i * N + j : Nat) : Int) := by unfold growF; rw [place_div hj, place_mod hj]
    rw [hF]
    by_cases h2 : i = N ∨ j = N
    · rw [if_pos h2, if_pos (by omega : max i j = N), if_neg (by omega)]; rfl
    · rw [if_neg h2, if_neg (by omega : ¬ max i j = N), if_pos (Int.natCast_nonneg _), Int.toNat_natCast]
theorem Sim.start {N : Nat} {L : List Int} (hL : L.length = N * N) : Sim N L (growL N L) := by
  refine ⟨hL, growL_len N L, fun i j hi hj => ?_, fun j hj => ?_, fun i hi => ?_, ?_⟩
  · rw [growL_get L (by omega) (by omega), if_neg (by omega), if_neg (by omega)]
  · rw [growL_get L (by omega) (by omega), if_neg (by omega), if_pos (by omega)]
  · rw [growL_get L (by omega) (by omega), if_neg (by omega), if_pos (by omega)]
  · rw [growL_get L (by omega) (by omega), if_pos ⟨rfl, rfl⟩]

theorem get_set {L : List Int} {p q : Nat} {x : Int} (hp : p < L.length) : (L.set p x)[q]?.getD 0 = if p = q then x else L[q]?.getD 0 := by
  rw [List.getElem?_set]
  by_cases h : p = q
  · rw [if_pos h, if_pos hp, if_pos h]; rfl
  · rw [if_neg h, if_neg h]
theorem Sim.set {N : Nat} {L G : List Int} (h : Sim N L G) {a : Nat} (ha : a < N) (x : Int) : Sim N (L.set (a * N + a) x) (G.set (a * (N + 1) + a) x) := by
  have p1 : a * N + a < L.length := by rw [h.l]; exact place_lt ha ha
  have p2 : a * (N + 1) + a < G.length := by rw [h.g]; exact place_lt (by omega) (by omega)
  refine ⟨by simp [h.l], by simp [h.g], fun i j hi hj => ?_, fun j hj => ?_, fun i hi => ?_, ?_⟩
  · rw [get_set p1, get_set p2, h.in_ i j hi hj]
    by_cases e : a = i ∧ a = j
    · obtain ⟨rfl, rfl⟩ := e; rw [if_pos rfl, if_pos rfl]
    · rw [if_neg (fun e' => e (place_inj (by omega) (by omega) e')), if_neg (fun e' => e (place_inj ha hj e'))]
  · rw [get_set p2, if_neg (fun e' => by have := place_inj (by omega) (by omega) e'; omega)]; exact h.row j hj
  · rw [get_set p2, if_neg (fun e' => by have := place_inj (by omega) (by omega) e'; omega)]; exact h.col i hi
  · rw [get_set p2, if_neg (fun e' => by have := place_inj (by omega) (by omega) e'; omega)]; exact h.own

theorem ob_NO : ob NO = none := if_pos rfl
theorem ob_none {x : Int} (h : ob x = none) : x = NO := by unfold ob at h; split at h; assumption; cases h
theorem Sim.mx {N : Nat} {L G : List Int} (h : Sim N L G) : (∀ i j, i < N → j < N → Dbm.mx (N + 1) G i j = Dbm.mx N L i j) ∧ (∀ j, j < N → Dbm.mx (N + 1) G N j = none) ∧ (∀ i, i < N → Dbm.mx (N + 1) G i N = none) ∧ Dbm.mx (N + 1) G N N = some 1 := by
  refine ⟨fun i j hi hj => ?_, fun j hj => ?_, fun i hi => ?_, ?_⟩ <;> unfold Dbm.mx
  · rw [h.in_ i j hi hj]
  · rw [h.row j hj, ob_NO]
  · rw [h.col i hi, ob_NO]
  · rw [h.own]; rfl
theorem Sim.lim {N : Nat} {L G : List Int} (h : Sim N L G) {m : Int} (hm : 1 ≤ m) (hl : ∀ q, q < N * N → lim m (L[q]?.getD 0)) : ∀ q, q < (N + 1) * (N + 1) → Dbm.lim m (G[q]?.getD 0) := by
  refine lim_q fun i j hi hj => ?_
  by_cases h1 : i = N
  · by_cases h2 : j = N
    · subst h1; subst h2; rw [h.own]; exact .inr (by omega)
    · subst h1; rw [h.row j (by omega)]; exact .inl rfl
  · by_cases h2 : j = N
    · subst h2; rw [h.col i (by omega)]; exact .inl rfl
    · rw [h.in_ i j (by omega) (by omega)]; exact hl _ (place_lt (by omega) (by omega))

/-- one clock of those that there were. -/
theorem Sim.thr {N : Nat} {L G : List Int} (h : Sim N L G) {k : Nat} (hk : k < N) (hd : L[k * N + k]?.getD 0 = 1) (hl : ∀ q, q < N * N → Dbm.lim 864691128455135232 (L[q]?.getD 0)) : Sim N (thrL N k L) (thrL (N + 1) k G) := by
  have hlL : ∀ q, q < N * N → Dbm.lim 1152921504606846976 (L[q]?.getD 0) := fun q hq => lim_mono (hl q hq) (by omega)
  have hlG := h.lim (by omega) hlL
  have hdG : G[k * (N + 1) + k]?.getD 0 = 1 := by rw [h.in_ k k hk hk, hd]
  obtain ⟨m1, m2, m3, m4⟩ := h.mx
  have tL : ∀ i j, i < N → j < N → Dbm.mx N (thrL N k L) i j = Dbm.thr k (Dbm.mx N L) i j := fun i j hi hj => thrL_mx hk h.l hd hlL hi hj
  have tG : ∀ i j, i < N + 1 → j < N + 1 → Dbm.mx (N + 1) (thrL (N + 1) k G) i j = Dbm.thr k (Dbm.mx (N + 1) G) i j := fun i j hi hj => thrL_mx (by omega) h.g hdG hlG hi hj
  refine ⟨by rw [thrL, foldl_upd_length, h.l], by rw [thrL, foldl_upd_length, h.g], fun i j hi hj => ?_, fun j hj => ?_, fun i hi => ?_, ?_⟩
  · have e : Dbm.mx (N + 1) (thrL (N + 1) k G) i j = Dbm.mx N (thrL N k L) i j := by
      rw [tG i j (by omega) (by omega), tL i j hi hj]
      unfold Dbm.thr
      rw [m1 i j hi hj, m1 i k hi hk, m1 k j hk hj]
    exact ob_inj e
  · refine ob_none ?_
    show Dbm.mx (N + 1) (thrL (N + 1) k G) N j = none
    rw [tG N j (by omega) (by omega)]
    unfold Dbm.thr
    rw [m2 k hk, m2 j hj]; rfl
  · refine ob_none ?_
    show Dbm.mx (N + 1) (thrL (N + 1) k G) i N = none
    rw [tG i N (by omega) (by omega)]
    unfold Dbm.thr
    rw [m3 k hk, m3 i hi, oadd_none]; rfl
  · refine ob_inj (u := (thrL (N + 1) k G)[N * (N + 1) + N]?.getD 0) (v := 1) ?_
    show Dbm.mx (N + 1) (thrL (N + 1) k G) N N = some 1
    rw [tG N N (by omega) (by omega)]
    unfold Dbm.thr
    rw [m2 k hk, m4]; rfl
theorem Sim.diagOk {N : Nat} {L G : List Int} (h : Sim N L G) : diagOk (N + 1) G = Dbm.diagOk N L := by
  have e : ∀ i, i ∈ List.range N → decide (1 ≤ G[i * (N + 1) + i]?.getD 0) = decide (1 ≤ L[i * N + i]?.getD 0) := fun i hi => by
    rw [h.in_ i i (List.mem_range.1 hi) (List.mem_range.1 hi)]
  unfold Dbm.diagOk
  rw [List.range_succ, List.all_append]
  have : ([N].all fun i => decide (1 ≤ G[i * (N + 1) + i]?.getD 0)) = true := by simp [h.own]
  rw [this, Bool.and_true]
  rw [Bool.eq_iff_iff, List.all_eq_true, List.all_eq_true]
  exact ⟨fun h' i hi => (e i hi) ▸ h' i hi, fun h' i hi => (e i hi).symm ▸ h' i hi⟩

end Go.Proofs.Ytodpgcdandechaa.Proj

/-
  Plain laws of a matrix with its clocks in another order: there and back, and what is kept. No program is in sight.
-/
namespace Go.Proofs.Ytodpgcdandechaa.Proj
set_option linter.unusedVariables false
open Go.Proofs.Ytodpgcdandechaa.Dbm

def sortI (l : List Int) : List Int := l.mergeSort fun x y => decide (x ≤ y)
def og (O : List Int) (i : Nat) : Int := O[i]?.getD 0
def moveF (N : Nat) (O : List Int) (k : Nat) : Int := og O (k / N) * N + og O (k % N)
def moveL (N : Nat) (L O : List Int) : List Int := madeL L (moveF N O) (N * N)
def moveOk (n : Int) (O : List Int) : Bool := decide ((O.length : Int) = n) && decide (O[0]?.getD 1 = 0) && decide (sortI O = upto n.toNat)
/-- Move: the clocks, the bounds, and the error. -/
def move (n : Int) (L O : List Int) : Int × List Int × Int :=
  if chk n L = 0 then (if moveOk n O = true then (n, moveL n.toNat L O, 0) else (0, [], 2)) else (0, [], 8)

/-- an order of so many clocks: where each goes, and whence. -/
structure Ord (N : Nat) (O : List Int) : Prop where
  len : O.length = N
  zero : og O 0 = 0
  lt : ∀ i, i < N → 0 ≤ og O i ∧ og O i < N
  inj : ∀ i j, i < N → j < N → og O i = og O j → i = j
  surj : ∀ k : Nat, k < N → ∃ i, i < N ∧ og O i = k

theorem sortI_perm (l : List Int) : (sortI l).Perm l := List.mergeSort_perm l _
theorem upto_nodup (N : Nat) : (upto N).Nodup := by
  unfold upto
  rw [List.nodup_iff_pairwise_ne, List.pairwise_map]
  exact (List.nodup_iff_pairwise_ne.1 List.nodup_range).imp fun h e => h (Int.ofNat.inj e)
theorem mem_upto {N : Nat} {x : Int} : x ∈ upto N ↔ 0 ≤ x ∧ x < N := by
  unfold upto
  rw [List.mem_map]
  constructor
  · rintro ⟨k, hk, rfl⟩
    have := List.mem_range.1 hk
    exact ⟨Int.natCast_nonneg _, by show (k : Int) < N; omega⟩
  · rintro ⟨h0, h1⟩
    exact ⟨x.toNat, List.mem_range.2 (by omega), by show ((x.toNat : Nat) : Int) = x; omega⟩
theorem upto_sorted (N : Nat) : (upto N).Pairwise fun a b => (decide (a ≤ b)) = true := by
  unfold upto
  rw [List.pairwise_map]
  exact List.pairwise_lt_range.imp fun h => decide_eq_true (by show (Int.ofNat _ : Int) ≤ Int.ofNat _; exact Int.ofNat_le.2 (Nat.le_of_lt h))
theorem sortI_sorted (l : List Int) : (sortI l).Pairwise fun a b => (decide (a ≤ b)) = true :=
  List.pairwise_mergeSort (fun a b c h1 h2 => by simp at *; omega) (fun a b => by simp; omega) l
theorem sortI_upto {N : Nat} {O : List Int} : sortI O = upto N ↔ O.Perm (upto N) := by
  constructor
  · intro h; exact (sortI_perm O).symm.trans (h ▸ List.Perm.refl _)
  · intro h
    exact List.Perm.eq_of_pairwise (fun a b _ _ h1 h2 => by simp at h1 h2; omega) (sortI_sorted O) (upto_sorted N) ((sortI_perm O).trans h)
theorem og_get {O : List Int} {i : Nat} (hi : i < O.length) : O[i]? = some (og O i) := by
  unfold og; rw [List.getElem?_eq_getElem hi]; rfl
theorem ord_perm {N : Nat} {O : List Int} (hl : O.length = N) (h0 : og O 0 = 0) (hp : O.Perm (upto N)) : Ord N O := by
  have hn : O.Nodup := hp.symm.nodup (upto_nodup N)
  refine ⟨hl, h0, fun i hi => ?_, fun i j hi hj e => ?_, fun k hk => ?_⟩
  · exact mem_upto.1 (hp.subset (List.mem_of_getElem? (og_get (by omega))))
  · have key : ∀ i j, i < j → j < N → og O i ≠ og O j := fun i j h1 h2 e => by
      have := List.pairwise_iff_getElem.1 hn i j (by omega) (by omega) h1
      have h1 := og_get (O := O) (i := i) (by omega)
      have h2 := og_get (O := O) (i := j) (by omega)
      rw [List.getElem?_eq_getElem (by omega)] at h1 h2
      rw [Option.some.inj h1, Option.some.inj h2] at this
      exact this e
    rcases Nat.lt_trichotomy i j with h | h | h
    · exact absurd e (key i j h hj)
    · exact h
    · exact absurd e.symm (key j i h hi)
  · obtain ⟨i, hi, e⟩ := List.getElem_of_mem (hp.symm.subset (mem_upto.2 ⟨Int.natCast_nonneg k, by omega⟩))
    refine ⟨i, by omega, ?_⟩
    unfold og; rw [List.getElem?_eq_getElem hi, e]; rfl
theorem Ord.perm {N : Nat} {O : List Int} (h : Ord N O) : O.Perm (upto N) := by
  have hn : O.Nodup := by
    refine List.pairwise_iff_getElem.2 fun i j hi hj hij e => ?_
    have h1 := og_get (O := O) (i := i) hi
    have h2 := og_get (O := O) (i := j) hj
    rw [List.getElem?_eq_getElem (by omega)] at h1 h2
    have := h.inj i j (by have := h.len; omega) (by have := h.len; omega) (by rw [← Option.some.inj h1, ← Option.some.inj h2, e])
    omega
  refine (List.perm_ext_iff_of_nodup hn (upto_nodup N)).2 fun a => ?_
  rw [mem_upto]
  constructor
  · intro ha
    obtain ⟨i, hi, e⟩ := List.getElem_of_mem ha
    have := h.lt i (by have := h.len; omega)
    have e2 := og_get hi
    rw [List.getElem?_eq_getElem hi, e] at e2
    rw [Option.some.inj e2]; exact this
  · rintro ⟨h0, h1⟩
    obtain ⟨i, hi, e⟩ := h.surj a.toNat (by omega)
    have := List.mem_of_getElem? (og_get (O := O) (i := i) (by have := h.len; omega))
    rwa [e, Int.toNat_of_nonneg h0] at this
theorem moveOk_iff {n : Int} {O : List Int} (hn : 1 ≤ n) : moveOk n O = true ↔ ∃ N : Nat, n = N ∧ Ord N O := by
  unfold moveOk
  simp only [Bool.and_eq_true, decide_eq_true_eq]
  constructor
  · rintro ⟨⟨h1, h2⟩, h3⟩
    refine ⟨n.toNat, by omega, ord_perm (by omega) ?_ (sortI_upto.1 h3)⟩
    unfold og
    rw [List.getElem?_eq_getElem (by omega)] at h2 ⊢
    exact h2
  · rintro ⟨N, rfl, h⟩
    refine ⟨⟨by rw [h.len], ?_⟩, by rw [Int.toNat_natCast]; exact sortI_upto.2 h.perm⟩
    rw [og_get (by have := h.len; omega), Option.getD_some, h.zero]

theorem moveL_len (N : Nat) (L O : List Int) : (moveL N L O).length = N * N := madeL_len _ _ _
theorem moveF_lt {N : Nat} {O : List Int} (h : Ord N O) {k : Nat} (hk : k < N * N) : 0 ≤ moveF N O k ∧ moveF N O k < (N * N : Nat) := by
  have h1 := h.lt _ (div_lt hk)
  have h2 := h.lt _ (mod_lt hk)
  have e : moveF N O k = (((og O (k / N)).toNat * N + (og O (k % N)).toNat : Nat) : Int) := by
    unfold moveF
    rw [Int.natCast_add, Int.natCast_mul, Int.toNat_of_nonneg h1.1, Int.toNat_of_nonneg h2.1]
  rw [e]
  exact ⟨Int.natCast_nonneg _, Int.ofNat_lt.2 (place_lt (by omega) (by omega))⟩
theorem move_ok {n : Int} {L O : List Int} (h : (move n L O).2.2 = 0) : ∃ N : Nat, n = N ∧ chk N L = 0 ∧ Ord N O ∧ move n L O = ((N : Int), moveL N L O, 0) := by
  unfold move at h ⊢
  split at h
  · rename_i h0
    split at h
    · rename_i h1
      obtain ⟨N, rfl, hO⟩ := (moveOk_iff (chk_iff.1 h0).1).1 h1
      exact ⟨N, rfl, h0, hO, by rw [if_pos h0, if_pos h1]; rfl⟩
    · cases h
  · cases h
theorem move_of {N : Nat} {L O : List Int} (h0 : chk N L = 0) (h : Ord N O) : move N L O = ((N : Int), moveL N L O, 0) := by
  unfold move
  rw [if_pos h0, if_pos ((moveOk_iff (chk_iff.1 h0).1).2 ⟨N, rfl, h⟩)]; rfl

/-- the way back: i stands at the place where i went. -/
structure Inverse (N : Nat) (O B : List Int) : Prop where
  len : B.length = N
  at_ : ∀ i, i < N → og B (og O i).toNat = i
theorem Ord.pos {N : Nat} {O : List Int} (h : Ord N O) {i : Nat} (h0 : i ≠ 0) (hi : i < N) : 1 ≤ og O i := by
  have h1 := h.lt i hi
  have h2 : og O i ≠ 0 := fun e => h0 (h.inj i 0 hi (by omega) (e.trans h.zero.symm))
  omega
end Go.Proofs.Ytodpgcdandechaa.Proj

