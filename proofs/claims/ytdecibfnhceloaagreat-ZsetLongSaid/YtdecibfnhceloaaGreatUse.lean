/-
  How the engine is used: the ways out of each of its stops, and a function's contract.
-/
import Derived.Test.YtdecibfnhceloaaGreatCx
import Derived.Test.YtdecibfnhceloaaGreatEngM
namespace Go.Proofs.YtdecibfnhceloaaGreat.Eng
set_option linter.unusedVariables false
set_option linter.unusedSimpArgs false
open Go Go.RowKit Go.Shelf Go.Proofs

/-- a call's end: it has returned, nothing that was there has turned, and R. -/
def Ret (W : World) (R : Value → World → Prop) (e : Ending) (w' : World) : Prop := ∃ v, e = .returned v ∧ Below W.heap.size W w' ∧ R v w'

section
variable {P : Program} {w0 : Base} {kp : List Nat → World → World → Prop} {g : FuncId} {args : Array Value} {hp : List LB} {r L : List Nat} {w : World} {K : Value → World → Prop}

/-- a call that answers x. -/
theorem CallI.to1 [hkp : KpOk w0 kp] {x : Value} (hc : ∀ w1, Calls P g args w1 fun e w2 => e = .returned x ∧ Below w1.heap.size w1 w2) (hk : ∀ w2, K x w2) : CallI P w0 kp g args hp r L w K :=
  ⟨fun w1 h1 => (hc w1).mono fun e w2 ⟨he, hB⟩ => ⟨hkp.ok h1 hB, x, he, hk w2⟩⟩
theorem CallI.use1 [hkp : KpOk w0 kp] {x : Value} (hc : ∀ w1, At w0 hp r L w w1 → Calls P g args w1 fun e w2 => e = .returned x ∧ Below w1.heap.size w1 w2) (hk : ∀ w1 w2, At w0 hp r L w w1 → Below w1.heap.size w1 w2 → K x w2) : CallI P w0 kp g args hp r L w K :=
  ⟨fun w1 h1 => (hc w1 h1).mono fun e w2 ⟨he, hB⟩ => ⟨hkp.ok h1 hB, x, he, hk w1 w2 h1 hB⟩⟩
/-- a call that answers x and leaves the world alone. -/
theorem CallI.to0 [hkp : KpOk w0 kp] {x : Value} (hc : ∀ w1, Calls P g args w1 fun e w2 => e = .returned x ∧ w1 = w2) (hk : ∀ w2, K x w2) : CallI P w0 kp g args hp r L w K :=
  ⟨fun w1 h1 => (hc w1).mono fun e w2 ⟨he, hB⟩ => ⟨hkp.ok h1 (hB ▸ Below.refl _ _), x, he, hk w2⟩⟩
/-- a call that answers some value. -/
theorem CallI.use [hkp : KpOk w0 kp] {R : World → Value → World → Prop} (hc : ∀ w1, At w0 hp r L w w1 → Calls P g args w1 (Ret w1 (R w1))) (hk : ∀ v w1 w2, At w0 hp r L w w1 → Below w1.heap.size w1 w2 → R w1 v w2 → K v w2) : CallI P w0 kp g args hp r L w K :=
  ⟨fun w1 h1 => (hc w1 h1).mono fun e w2 ⟨v, he, hB, hR⟩ => ⟨hkp.ok h1 hB, v, he, hk v w1 w2 h1 hB hR⟩⟩
theorem GenV.to [hkp : KpOk w0 kp] {m : Sem Value} {x : Value} (hc : ∀ w1, m.run P w1 = .ok x w1) (hk : ∀ w1, At w0 hp r L w w1 → K x w1) : GenV P w0 kp m hp r L w K :=
  ⟨fun w1 h1 => ⟨x, w1, hc w1, hkp.ok h1 (Below.refl _ _), hk w1 h1⟩⟩
theorem GenN.to [hkp : KpOk w0 kp] {m : Sem Next} {x : Value} (hc : ∀ w1, m.run P w1 = .ok (.value x) w1) (hk : ∀ w1, At w0 hp r L w w1 → K x w1) : GenN P w0 kp m hp r L w K :=
  ⟨fun w1 h1 => ⟨x, w1, hc w1, hkp.ok h1 (Below.refl _ _), hk w1 h1⟩⟩
end
theorem Branch.yes {b : Bool} {p q : Prop} (hb : b = true) (h : p) : Branch b p q := ⟨fun _ => h, fun e => by rw [hb] at e; cases e⟩
theorem Branch.no {b : Bool} {p q : Prop} (hb : b = false) (h : q) : Branch b p q := ⟨fun e => (by rw [hb] at e; cases e), fun _ => h⟩
/-- a loop gone through round by round: at most so many. -/
theorem LoopI.rounds {w0 : Base} {body : (Exit → St → Prop) → St → Prop} {cb : Code} {K : Exit → St → Prop} {s : St} (n : Nat) (h : unrD w0 body cb K n s) : LoopI w0 body cb K s := ⟨n, h⟩
theorem LoopI.inv {w0 : Base} {body : (Exit → St → Prop) → St → Prop} {cb : Code} {K : Exit → St → Prop} {fr : Fr} {hp : List LB} {r L : List Nat} {w : World} {df : List Deferred}
    {α : Type} (vals : α → List (Nat × SV)) (hpf : α → List LB) (wd : α → World) (Φ : α → Prop) (μ : α → Nat)
    (h0 : ∀ w1, At w0 hp r L w w1 → ∃ x, headK cb (vals x) fr (fun fr' => Cov fr' (hpf x) r df ⟨fr, hp, r, L, w, df⟩) ∧ wd x = w1 ∧ Φ x)
    (h1 : ∀ x, Φ x → headK cb (vals x) fr fun fr' => body
        (fun e s2 => match e with
          | .normal => s2.on fun fr2 hp2 r2 L2 w2 df2 => EndI w0 hp2 r2 L2 w2 undef fun _ w1 => ∃ y, headK cb (vals y) fr (fun fr' => Cov fr' (hpf y) r df ⟨fr2, hp2, r2, L2, w2, df2⟩) ∧ wd y = w1 ∧ Φ y ∧ μ y < μ x
          | e => K e s2) ⟨fr', hpf x, r, [], wd x, df⟩) : LoopI w0 body cb K ⟨fr, hp, r, L, w, df⟩ := ⟨0, α, vals, hpf, wd, Φ, μ, h0, h1⟩
/-- where the run's own blocks stay as they are. -/
theorem LoopI.invC {w0 : Base} {body : (Exit → St → Prop) → St → Prop} {cb : Code} {K : Exit → St → Prop} {fr : Fr} {hp : List LB} {r L : List Nat} {w : World} {df : List Deferred}
    {α : Type} (vals : α → List (Nat × SV)) (wd : α → World) (Φ : α → Prop) (μ : α → Nat)
    (h0 : ∀ w1, At w0 hp r L w w1 → ∃ x, headK cb (vals x) fr (fun fr' => Cov fr' hp r df ⟨fr, hp, r, L, w, df⟩) ∧ wd x = w1 ∧ Φ x)
    (h1 : ∀ x, Φ x → headK cb (vals x) fr fun fr' => body
        (fun e s2 => match e with
          | .normal => s2.on fun fr2 hp2 r2 L2 w2 df2 => EndI w0 hp2 r2 L2 w2 undef fun _ w1 => ∃ y, headK cb (vals y) fr (fun fr' => Cov fr' hp r df ⟨fr2, hp2, r2, L2, w2, df2⟩) ∧ wd y = w1 ∧ Φ y ∧ μ y < μ x
          | e => K e s2) ⟨fr', hp, r, [], wd x, df⟩) : LoopI w0 body cb K ⟨fr, hp, r, L, w, df⟩ := ⟨0, α, vals, fun _ => hp, wd, Φ, μ, h0, h1⟩
/-- a region that draws its order, and writes no block that there was. -/
theorem DrawI.go {cx : Cx} {w0 : Base} {ops : Array Oper} {K : St → Prop} {fr : Fr} {hp : List LB} {r L : List Nat} {w : World} {df : List Deferred} (sched : Sch) (hs : schedAll ops sched = true)
    (h : ∀ w1, At w0 hp r L w w1 → drawD cx w0 w1 [] [] r.length ops.toList K sched ⟨fr, hp, r, [], w1, df⟩) : DrawI cx w0 ops K fr hp r L w df :=
  ⟨sched, [], [], hs, rfl, fun w1 h1 => ⟨fun _ _ => by simp, h w1 h1⟩⟩
/-- and writes blocks of the run's own (by their numbers), and others. -/
theorem DrawI.wr {cx : Cx} {w0 : Base} {ops : Array Oper} {K : St → Prop} {fr : Fr} {hp : List LB} {r L : List Nat} {w : World} {df : List Deferred} (sched : Sch) (Ml Mf : List Nat) (hs : schedAll ops sched = true) (hl : ltAll r.length Ml = true)
    (hf : ∀ b, b ∈ r → b ∉ Mf) (h : ∀ w1, At w0 hp r L w w1 → force (locs r Ml ++ Mf) fun M => drawD cx w0 w1 M Ml r.length ops.toList K sched ⟨fr, hp, r, [], w1, df⟩) : DrawI cx w0 ops K fr hp r L w df :=
  ⟨sched, Ml, Mf, hs, hl, fun w1 h1 => ⟨hf, h w1 h1⟩⟩

/-- A FUNCTION's CONTRACT: out of its run. -/
theorem fun_ret (n : Nat) {f : FuncId} {fn : Func} {args : List SV} {R : Value → World → Prop} (w : World) (hf : Tryz.prog.funcs[f]? = some fn)
    (hj : junkyL args = false) (hwf : wfL 0 args = true) (h : funM n YtdecibfnhceloaaGreat.cx ⟨w, w.heap.size, Nat.le_refl _⟩ fn args R) : Calls Tryz.prog f (denL [] args).toArray w (Ret w R) :=
  funM_sound n cxOk ⟨w, w.heap.size, Nat.le_refl _⟩ hf hj hwf h
/-- nothing below B has turned. -/
theorem fun_at (n : Nat) {f : FuncId} {fn : Func} {args : List SV} {R : Value → World → Prop} (B : Nat) (w : World) (hB : B ≤ w.heap.size) (hf : Tryz.prog.funcs[f]? = some fn)
    (hj : junkyL args = false) (hwf : wfL 0 args = true) (h : funM n YtdecibfnhceloaaGreat.cx ⟨w, B, hB⟩ fn args R) : Calls Tryz.prog f (denL [] args).toArray w fun e w' => ∃ v, e = .returned v ∧ Below B w w' ∧ R v w' :=
  funM_sound n cxOk ⟨w, B, hB⟩ hf hj hwf h
theorem fun_eq (n : Nat) {f : FuncId} {fn : Func} {args : List SV} {x : Value} (w : World) (hf : Tryz.prog.funcs[f]? = some fn)
    (hj : junkyL args = false) (hwf : wfL 0 args = true) (h : funM n YtdecibfnhceloaaGreat.cx ⟨w, w.heap.size, Nat.le_refl _⟩ fn args fun v _ => v = x) : Calls Tryz.prog f (denL [] args).toArray w fun e w' => e = .returned x ∧ Below w.heap.size w w' :=
  (fun_ret n w hf hj hwf h).mono fun e w' ⟨v, he, hB, hv⟩ => ⟨hv ▸ he, hB⟩
/-- the like where int's operations are taken as they are: wrapped. -/
noncomputable def cxW : Cx := { YtdecibfnhceloaaGreat.cx with wr := true }
theorem cxWOk : CxOk cxW := ⟨cxOk.mix, cxOk.T, cxOk.fld, cxOk.el, cxOk.sl, cxOk.ik, cxOk.bo, cxOk.ar, cxOk.fv, cxOk.lay, cxOk.fn⟩
theorem fun_retW (n : Nat) {f : FuncId} {fn : Func} {args : List SV} {R : Value → World → Prop} (w : World) (hf : Tryz.prog.funcs[f]? = some fn)
    (hj : junkyL args = false) (hwf : wfL 0 args = true) (h : funM n cxW ⟨w, w.heap.size, Nat.le_refl _⟩ fn args R) : Calls Tryz.prog f (denL [] args).toArray w (Ret w R) :=
  funM_sound n cxWOk ⟨w, w.heap.size, Nat.le_refl _⟩ hf hj hwf h
theorem fun_eqW (n : Nat) {f : FuncId} {fn : Func} {args : List SV} {x : Value} (w : World) (hf : Tryz.prog.funcs[f]? = some fn)
    (hj : junkyL args = false) (hwf : wfL 0 args = true) (h : funM n cxW ⟨w, w.heap.size, Nat.le_refl _⟩ fn args fun v _ => v = x) : Calls Tryz.prog f (denL [] args).toArray w fun e w' => e = .returned x ∧ Below w.heap.size w w' :=
  (fun_retW n w hf hj hwf h).mono fun e w' ⟨v, he, hB, hv⟩ => ⟨hv ▸ he, hB⟩
end Go.Proofs.YtdecibfnhceloaaGreat.Eng
