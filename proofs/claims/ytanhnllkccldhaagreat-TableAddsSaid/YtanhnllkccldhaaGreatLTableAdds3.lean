/-
  Merged texts of this law (each with its own head below).
-/
import Derived.Test.YtanhnllkccldhaaGreatLTableAdds2
import Derived.Laws.AppendOwnNone
import Derived.Laws.OwnMore
import Derived.Test.YtanhnllkccldhaaGreatLTableAdds1
import Derived.Deep.Slices
import Derived.OpenShut
import Derived.Laws.BitsLemmas
import Derived.Deep.QuietTactic
import Derived.BigQuiet
import Derived.WalkSmall
import Derived.Lib.SliceRun
import Derived.Below
import Derived.RangeFuncNested
import Derived.RangeFuncBound
import Derived.RangeFuncCalls
import Derived.RangeFuncLeaves
import Derived.RangeFuncWrites
import Derived.RangeFuncBox
import Derived.Shelf.Abstract
import Derived.Shelf.RegionOpen
import Derived.OwnWalkIn
import Derived.TacticsInMore
import Derived.LoopNIn
import Derived.LoopIn
import Derived.IntWalk
namespace Go.Proofs.YtanhnllkccldhaaGreat.Eng
set_option linter.unusedVariables false
set_option linter.unusedSimpArgs false
open Go Go.RowKit Go.Shelf Go.Proofs
def Ret (W : World) (R : Value -> World -> Prop) (e : Ending) (w' : World) : Prop := ∃ v, e = .returned v /\ Below W.heap.size W w' /\ R v w'
section
variable {P : Program} {w0 : Base} {kp : List Nat -> World -> World -> Prop} {g : FuncId} {args : Array Value} {hp : List LB} {r L : List Nat} {w : World} {K : Value -> World -> Prop}
theorem CallI.to1 [hkp : KpOk w0 kp] {x : Value} (hc : ∀ w1, Calls P g args w1 fun e w2 => e = .returned x /\ Below w1.heap.size w1 w2) (hk : ∀ w2, K x w2) : CallI P w0 kp g args hp r L w K :=
 ⟨fun w1 h1 => (hc w1).mono fun e w2 ⟨he, hB⟩ => ⟨hkp.ok h1 hB, x, he, hk w2⟩⟩
theorem CallI.use1 [hkp : KpOk w0 kp] {x : Value} (hc : ∀ w1, At w0 hp r L w w1 -> Calls P g args w1 fun e w2 => e = .returned x /\ Below w1.heap.size w1 w2) (hk : ∀ w1 w2, At w0 hp r L w w1 -> Below w1.heap.size w1 w2 -> K x w2) : CallI P w0 kp g args hp r L w K :=
 ⟨fun w1 h1 => (hc w1 h1).mono fun e w2 ⟨he, hB⟩ => ⟨hkp.ok h1 hB, x, he, hk w1 w2 h1 hB⟩⟩
theorem CallI.to0 [hkp : KpOk w0 kp] {x : Value} (hc : ∀ w1, Calls P g args w1 fun e w2 => e = .returned x /\ w1 = w2) (hk : ∀ w2, K x w2) : CallI P w0 kp g args hp r L w K :=
 ⟨fun w1 h1 => (hc w1).mono fun e w2 ⟨he, hB⟩ => ⟨hkp.ok h1 (hB ▸ Below.refl _ _), x, he, hk w2⟩⟩
theorem CallI.use [hkp : KpOk w0 kp] {R : World -> Value -> World -> Prop} (hc : ∀ w1, At w0 hp r L w w1 -> Calls P g args w1 (Ret w1 (R w1))) (hk : ∀ v w1 w2, At w0 hp r L w w1 -> Below w1.heap.size w1 w2 -> R w1 v w2 -> K v w2) : CallI P w0 kp g args hp r L w K :=
 ⟨fun w1 h1 => (hc w1 h1).mono fun e w2 ⟨v, he, hB, hR⟩ => ⟨hkp.ok h1 hB, v, he, hk v w1 w2 h1 hB hR⟩⟩
theorem GenV.to [hkp : KpOk w0 kp] {m : Sem Value} {x : Value} (hc : ∀ w1, m.run P w1 = .ok x w1) (hk : ∀ w1, At w0 hp r L w w1 -> K x w1) : GenV P w0 kp m hp r L w K :=
 ⟨fun w1 h1 => ⟨x, w1, hc w1, hkp.ok h1 (Below.refl _ _), hk w1 h1⟩⟩
theorem GenN.to [hkp : KpOk w0 kp] {m : Sem Next} {x : Value} (hc : ∀ w1, m.run P w1 = .ok (.value x) w1) (hk : ∀ w1, At w0 hp r L w w1 -> K x w1) : GenN P w0 kp m hp r L w K :=
 ⟨fun w1 h1 => ⟨x, w1, hc w1, hkp.ok h1 (Below.refl _ _), hk w1 h1⟩⟩
end
theorem Branch.yes {b : Bool} {p q : Prop} (hb : b = true) (h : p) : Branch b p q := ⟨fun _ => h, fun e => by rw [hb] at e; cases e⟩
theorem Branch.no {b : Bool} {p q : Prop} (hb : b = false) (h : q) : Branch b p q := ⟨fun e => (by rw [hb] at e; cases e), fun _ => h⟩
theorem LoopI.rounds {w0 : Base} {body : (Exit -> St -> Prop) -> St -> Prop} {cb : Code} {K : Exit -> St -> Prop} {s : St} (n : Nat) (h : unrD w0 body cb K n s) : LoopI w0 body cb K s := ⟨n, h⟩
theorem LoopI.inv {w0 : Base} {body : (Exit -> St -> Prop) -> St -> Prop} {cb : Code} {K : Exit -> St -> Prop} {fr : Fr} {hp : List LB} {r L : List Nat} {w : World} {df : List Deferred}
 {α : Type} (vals : α -> List (Nat × SV)) (hpf : α -> List LB) (wd : α -> World) (Φ : α -> Prop) (μ : α -> Nat)
 (h0 : ∀ w1, At w0 hp r L w w1 -> ∃ x, headK cb (vals x) fr (fun fr' => Cov fr' (hpf x) r df ⟨fr, hp, r, L, w, df⟩) /\ wd x = w1 /\ Φ x)
 (h1 : ∀ x, Φ x -> headK cb (vals x) fr fun fr' => body
   (fun e s2 => match e with
     | .normal => s2.on fun fr2 hp2 r2 L2 w2 df2 => EndI w0 hp2 r2 L2 w2 undef fun _ w1 => ∃ y, headK cb (vals y) fr (fun fr' => Cov fr' (hpf y) r df ⟨fr2, hp2, r2, L2, w2, df2⟩) /\ wd y = w1 /\ Φ y /\ μ y < μ x
     | e => K e s2) ⟨fr', hpf x, r, [], wd x, df⟩) : LoopI w0 body cb K ⟨fr, hp, r, L, w, df⟩ := ⟨0, α, vals, hpf, wd, fun _ => df, Φ, μ, h0, h1⟩
theorem LoopI.invC {w0 : Base} {body : (Exit -> St -> Prop) -> St -> Prop} {cb : Code} {K : Exit -> St -> Prop} {fr : Fr} {hp : List LB} {r L : List Nat} {w : World} {df : List Deferred}
 {α : Type} (vals : α -> List (Nat × SV)) (wd : α -> World) (Φ : α -> Prop) (μ : α -> Nat)
 (h0 : ∀ w1, At w0 hp r L w w1 -> ∃ x, headK cb (vals x) fr (fun fr' => Cov fr' hp r df ⟨fr, hp, r, L, w, df⟩) /\ wd x = w1 /\ Φ x)
 (h1 : ∀ x, Φ x -> headK cb (vals x) fr fun fr' => body
   (fun e s2 => match e with
     | .normal => s2.on fun fr2 hp2 r2 L2 w2 df2 => EndI w0 hp2 r2 L2 w2 undef fun _ w1 => ∃ y, headK cb (vals y) fr (fun fr' => Cov fr' hp r df ⟨fr2, hp2, r2, L2, w2, df2⟩) /\ wd y = w1 /\ Φ y /\ μ y < μ x
     | e => K e s2) ⟨fr', hp, r, [], wd x, df⟩) : LoopI w0 body cb K ⟨fr, hp, r, L, w, df⟩ := ⟨0, α, vals, fun _ => hp, wd, fun _ => df, Φ, μ, h0, h1⟩
theorem DrawI.go {cx : Cx} {w0 : Base} {ops : Array Oper} {K : St -> Prop} {fr : Fr} {hp : List LB} {r L : List Nat} {w : World} {df : List Deferred} (sched : Sch) (hs : schedAll ops sched = true)
 (h : ∀ w1, At w0 hp r L w w1 -> drawD cx w0 w1 [] [] r.length ops.toList K sched ⟨fr, hp, r, [], w1, df⟩) : DrawI cx w0 ops K fr hp r L w df :=
 ⟨sched, [], [], hs, rfl, fun w1 h1 => ⟨fun _ _ => by simp, h w1 h1⟩⟩
theorem DrawI.wr {cx : Cx} {w0 : Base} {ops : Array Oper} {K : St -> Prop} {fr : Fr} {hp : List LB} {r L : List Nat} {w : World} {df : List Deferred} (sched : Sch) (Ml Mf : List Nat) (hs : schedAll ops sched = true) (hl : ltAll r.length Ml = true)
 (hf : ∀ b, b ∈ r -> b ∉ Mf) (h : ∀ w1, At w0 hp r L w w1 -> force (locs r Ml ++ Mf) fun M => drawD cx w0 w1 M Ml r.length ops.toList K sched ⟨fr, hp, r, [], w1, df⟩) : DrawI cx w0 ops K fr hp r L w df :=
 ⟨sched, Ml, Mf, hs, hl, fun w1 h1 => ⟨hf, h w1 h1⟩⟩
theorem fun_ret (n : Nat) {f : FuncId} {fn : Func} {args : List SV} {R : Value -> World -> Prop} (w : World) (hf : Tryz.prog.funcs[f]? = some fn)
 (hj : junkyL args = false) (hwf : wfL 0 args = true) (h : funM n YtanhnllkccldhaaGreat.cx ⟨w, w.heap.size, Nat.le_refl _⟩ fn args R) : Calls Tryz.prog f (denL [] args).toArray w (Ret w R) :=
 funM_sound n cxOk ⟨w, w.heap.size, Nat.le_refl _⟩ hf hj hwf h
theorem fun_at (n : Nat) {f : FuncId} {fn : Func} {args : List SV} {R : Value -> World -> Prop} (B : Nat) (w : World) (hB : B <= w.heap.size) (hf : Tryz.prog.funcs[f]? = some fn)
 (hj : junkyL args = false) (hwf : wfL 0 args = true) (h : funM n YtanhnllkccldhaaGreat.cx ⟨w, B, hB⟩ fn args R) : Calls Tryz.prog f (denL [] args).toArray w fun e w' => ∃ v, e = .returned v /\ Below B w w' /\ R v w' :=
 funM_sound n cxOk ⟨w, B, hB⟩ hf hj hwf h
theorem fun_eq (n : Nat) {f : FuncId} {fn : Func} {args : List SV} {x : Value} (w : World) (hf : Tryz.prog.funcs[f]? = some fn)
 (hj : junkyL args = false) (hwf : wfL 0 args = true) (h : funM n YtanhnllkccldhaaGreat.cx ⟨w, w.heap.size, Nat.le_refl _⟩ fn args fun v _ => v = x) : Calls Tryz.prog f (denL [] args).toArray w fun e w' => e = .returned x /\ Below w.heap.size w w' :=
 (fun_ret n w hf hj hwf h).mono fun e w' ⟨v, he, hB, hv⟩ => ⟨hv ▸ he, hB⟩
theorem fun_in (n : Nat) {f : FuncId} {fn : Func} {args : List SV} {R : Value -> World -> Prop} (B : Nat) (w : World) (hB : B <= w.heap.size) (hf : Tryz.prog.funcs[f]? = some fn)
 (hj : junkyL args = false) (hwf : wfL 0 args = true) (h : funM n YtanhnllkccldhaaGreat.cx ⟨w, B, hB⟩ fn args R) : CallsIn Fence.wide n Tryz.prog f (denL [] args).toArray w fun e w' => ∃ v, e = .returned v /\ Below B w w' /\ R v w' :=
 funM_in n cxOk ⟨w, B, hB⟩ hf hj hwf h
theorem YieldI.to {F : Fence} {n : Nat} {P : Program} {w0 : Base} {l : Nat} {args : List Value} {hp : List LB} {r L : List Nat} {w : World} {K : Value -> World -> Prop} (h : ∀ w1, At w0 hp r L w w1 -> YieldAt F (n - 1) P l args.toArray w1 fun e w2 => ∃ v, e = .returned v /\ Below w0.B w0.W w2 /\ K v w2) : YieldI F n P w0 l args hp r L w K := ⟨h⟩
end Go.Proofs.YtanhnllkccldhaaGreat.Eng
namespace Go.Proofs.YtanhnllkccldhaaGreat
set_option linter.unusedVariables false
set_option linter.unusedSimpArgs false
set_option maxRecDepth 100000
section
open Go.RowKit Go.Proofs.YtanhnllkccldhaaGreat.Eng
class Enc (α : Type) where
 enc : α -> List Value
 size : Nat
 len : ∀ x, (enc x).length = size
 pos : 0 < size
 one : ∀ x, ∀ v ∈ enc x, v.oneCell' = true
 val : α -> Value
open Enc
instance encInt : Enc Int := ⟨fun n => [.int .i64 n], 1, fun _ => rfl, by decide, fun _ v hv => by rw [List.mem_singleton.1 hv]; rfl, fun n => .int .i64 n⟩
structure Rt where
 num : Int
 den : Int
deriving DecidableEq
structure Zn where
 a : Int
 b : Int
 c : Int
 d : Int
 e : Int
 f : Int
deriving DecidableEq
instance encRt : Enc Rt := ⟨fun x => [.int .i64 x.num, .int .i64 x.den], 2, fun _ => rfl, by decide, fun _ v hv => by simp only [List.mem_cons, List.not_mem_nil, or_false] at hv; rcases hv with rfl | rfl <;> rfl, fun x => .agg #[.int .i64 x.num, .int .i64 x.den]⟩
instance encZn : Enc Zn := ⟨fun x => [.int .i64 x.a, .int .i64 x.b, .int .i64 x.c, .int .i64 x.d, .int .i64 x.e, .int .i64 x.f], 6, fun _ => rfl, by decide,
 fun _ v hv => by simp only [List.mem_cons, List.not_mem_nil, or_false] at hv; rcases hv with rfl | rfl | rfl | rfl | rfl | rfl <;> rfl, fun x => .agg #[.int .i64 x.a, .int .i64 x.b, .int .i64 x.c, .int .i64 x.d, .int .i64 x.e, .int .i64 x.f]⟩
section
variable {α : Type} [Enc α]
def cellsL : List α -> List Value
 | [] => []
 | x :: l => enc x ++ cellsL l
theorem cellsL_append (l m : List α) : cellsL (l ++ m) = cellsL l ++ cellsL m := by
 induction l with
 | nil => rfl
 | cons x l ih => simp [cellsL, ih]
theorem cellsL_len (l : List α) : (cellsL l).length = l.length * size α := by
 induction l with
 | nil => simp [cellsL]
 | cons x l ih => simp only [cellsL, List.length_append, len, ih, List.length_cons, Nat.succ_mul]; omega
theorem cellsL_get (l : List α) {k i : Nat} {x : α} {c : Value} (hk : l[k]? = some x) (hi : (enc x)[i]? = some c) : (cellsL l)[k * size α + i]? = some c := by
 have hil : i < size α := by have := (List.getElem?_eq_some_iff.1 hi).1; rwa [len] at this
 induction l generalizing k with
 | nil => cases hk
 | cons y l ih =>
   cases k with
   | zero =>
     injection hk with hk; subst hk;simp only [cellsL, Nat.zero_mul, Nat.zero_add];rw [List.getElem?_append_left (by rw [len]; exact hil)]; exact hi
   | succ k =>
     simp only [cellsL];rw [List.getElem?_append_right (by rw [len, Nat.succ_mul]; omega), len, show (k + 1) * size α + i - size α = k * size α + i by rw [Nat.succ_mul]; omega];exact ih hk
theorem cellsL_one (l : List α) : ∀ u ∈ cellsL l, u.oneCell' = true := by
 induction l with
 | nil => intro u hu; cases hu
 | cons x l ih =>
   intro u hu;rcases List.mem_append.1 hu with h | h
   ·exact Enc.one x u h
   ·exact ih u h
def Sl (n : Nat) (W : World) (sv : Value) (l : List α) : Prop :=
 ∃ (a : Option Addr) (cap : Nat), sv = .slice a l.length cap /\ l.length <= cap /\ cap <= maxLen /\ (a = none -> cap = 0) /\
  ∀ k x, l[k]? = some x -> ∃ b o, a = some ⟨b, o, none⟩ /\ b < n /\ ∀ i c, (enc x)[i]? = some c -> W.cell? ⟨b, o + (k * size α + i), none⟩ = some c
theorem Sl.form {n : Nat} {W : World} {sv : Value} {l : List α} (h : Sl n W sv l) : ∃ a cap, sv = .slice a l.length cap /\ l.length <= cap /\ cap <= maxLen /\ (a = none -> cap = 0) := by
 obtain ⟨a, cap, e, h1, h2, h3, _⟩ := h; exact ⟨a, cap, e, h1, h2, h3⟩
theorem Sl.below {n : Nat} {A B : World} {sv : Value} {l : List α} (h : Sl n A sv l) (hB : Below n A B) : Sl n B sv l := by
 obtain ⟨a, cap, e, h1, h2, h3, h4⟩ := h;refine ⟨a, cap, e, h1, h2, h3, fun k x hk => ?_⟩;obtain ⟨b, o, ha, hb, hc⟩ := h4 k x hk;exact ⟨b, o, ha, hb, fun i c hi => (hB.cell (p := ⟨b, _, none⟩) hb).trans (hc i c hi)⟩
theorem Sl.upto {n m : Nat} {A : World} {sv : Value} {l : List α} (h : Sl n A sv l) (hm : n <= m) : Sl m A sv l := by
 obtain ⟨a, cap, e, h1, h2, h3, h4⟩ := h;refine ⟨a, cap, e, h1, h2, h3, fun k x hk => ?_⟩;obtain ⟨b, o, ha, hb, hc⟩ := h4 k x hk;exact ⟨b, o, ha, Nat.lt_of_lt_of_le hb hm, hc⟩
theorem Sl.go {n : Nat} {A B : World} {sv : Value} {l : List α} (h : Sl n A sv l) (hB : Below n A B) (hn : n <= B.heap.size) : Sl B.heap.size B sv l := (h.below hB).upto hn
theorem Sl.at {w0 : Base} {hp : List LB} {r L : List Nat} {w w1 : World} (h1 : At w0 hp r L w w1) {sv : Value} {l : List α} (h : Sl w0.B w0.W sv l) : Sl w1.heap.size w1 sv l := h.go h1.below (Nat.le_trans w0.le h1.below.size)
theorem Sl.nil {n : Nat} {A : World} : Sl n A (.slice none 0 0) ([] : List α) := ⟨none, 0, rfl, Nat.le_refl _, by simp [maxLen], fun _ => rfl, fun k x hk => by simp at hk⟩
theorem addr_addL (b o j : Nat) : (⟨b, o, none⟩ : Addr).add j = ⟨b, o + j, none⟩ := Addr.add_lit ..
theorem Sl.idx {n : Nat} {W : World} {a : Option Addr} {m cap : Nat} {l : List α} (h : Sl n W (.slice a m cap) l) {k : Nat} {x : α} (hk : l[k]? = some x) {K : Addr -> Prop} (hK : ∀ ad, a = some ad -> K ad) : IdxI a (k : Int) (m : Int) K := by
 obtain ⟨a', cap', e, h1, h2, h3, h4⟩ := h;injection e with e1 e2 e3;subst e1; subst e2; subst e3;obtain ⟨b, o, ha, hb, hc⟩ := h4 k x hk;have := (List.getElem?_eq_some_iff.1 hk).1;exact ⟨⟨_, ⟨ha, by omega, by omega⟩, hK _ ha⟩⟩
theorem Sl.cell {n : Nat} {W W' : World} {ad : Addr} {m cap : Nat} {l : List α} (h : Sl n W (.slice (some ad) m cap) l) {k : Nat} {x : α} (hk : l[k]? = some x) (hB : Below n W W') : ad.block < n /\ ∀ i c, (enc x)[i]? = some c -> W'.cell? ((ad.add ((k : Int).toNat * size α)).add i) = some c := by
 obtain ⟨a', cap', e, h1, h2, h3, h4⟩ := h;injection e with e1 e2 e3;subst e1; subst e2; subst e3;obtain ⟨b, o, ha, hb, hc⟩ := h4 k x hk;injection ha with ha; subst ha;refine ⟨hb, fun i c hi => ?_⟩;rw [addr_addL, addr_addL, Int.toNat_natCast, Nat.add_assoc];exact (hB.cell (p := ⟨b, _, none⟩) hb).trans (hc i c hi)
theorem Sl.ld {n : Nat} {W w : World} {L : List Nat} {a : Option Addr} {ad : Addr} {m cap : Nat} {l : List α} (h : Sl n W (.slice a m cap) l) {k : Nat} {x : α} (hk : l[k]? = some x) (had : a = some ad) (hB : Below n W w) (hL : ∀ b, b ∈ L -> n <= b) {K : List Value -> Prop} (hK : K (enc x)) :
 LoadA w L (size α) (ad.add ((k : Int).toNat * size α)) K := by
 subst had;obtain ⟨h1, h2⟩ := h.cell hk hB;refine ⟨⟨enc x, ⟨len x, pos, fun e => ?_, fun j c hj => h2 j c hj⟩, hK⟩⟩;have hb : (ad.add ((k : Int).toNat * size α)).block = ad.block := by unfold Addr.add; split <;> rfl
 rw [hb] at e;have := hL _ e; omega
end
theorem Sl.ld1 {n : Nat} {W w : World} {L : List Nat} {a : Option Addr} {ad : Addr} {m cap : Nat} {l : List Int} (h : Sl n W (.slice a m cap) l) {k : Nat} {x : Int} (hk : l[k]? = some x) (had : a = some ad) (hB : Below n W w) (hL : ∀ b, b ∈ L -> n <= b) {K : Value -> Prop} (hK : K (.int .i64 x)) :
 LoadI w L (ad.add ((k : Int).toNat * 1)) K := by
 subst had;obtain ⟨h1, h2⟩ := h.cell hk hB;have h3 := h2 0 (.int .i64 x) rfl;have h0 : ∀ q : Addr, q.add 0 = q := fun q => by simp [Addr.add]
 rw [h0] at h3;refine ⟨⟨_, ⟨h3, fun e => ?_⟩, hK⟩⟩;have hb : (ad.add ((k : Int).toNat * 1)).block = ad.block := by unfold Addr.add; split <;> rfl
 rw [hb] at e;have := hL _ e; omega
section
variable {α : Type} [Enc α]
theorem Sl.sub {n : Nat} {W : World} {a : Option Addr} {m cap : Nat} {l : List α} (h : Sl n W (.slice a m cap) l) (lo hi : Nat) (h1 : lo <= hi) (h2 : hi <= l.length) :
 Sl n W (.slice (if cap = lo then a else a.map (·.add (lo * size α))) (hi - lo) (cap - lo)) ((l.drop lo).take (hi - lo)) := by
 obtain ⟨a', cap', e, c1, c2, c3, c4⟩ := h;injection e with e1 e2 e3;subst e1; subst e2; subst e3;have hl : ((l.drop lo).take (hi - lo)).length = hi - lo := by simp; omega
 refine ⟨_, _, by rw [hl], by rw [hl]; omega, by omega, ?_, fun k x hk => ?_⟩
 ·intro e
  split at e
  ·have := c3 e; omega
  ·cases a with
   | none => have := c3 rfl; omega
   | some ad => cases e
 ·rw [List.getElem?_take] at hk
  split at hk
  case isFalse => cases hk
  rename_i hkl;rw [List.getElem?_drop] at hk;have hlt := (List.getElem?_eq_some_iff.1 hk).1;obtain ⟨b, o, ha, hb, hc⟩ := c4 _ x hk;subst ha;rw [if_neg (by omega)];refine ⟨b, o + lo * size α, by simp [addr_addL], hb, fun i c hi => ?_⟩;have := hc i c hi;rw [Nat.add_mul] at this;rw [show o + lo * size α + (k * size α + i) = o + (lo * size α + k * size α + i) by omega];exact this
def Own (e : TypeId) (base : Nat) (W : World) (sv : Value) (l : List α) : Prop := W.ownsRow base e (size α) sv l.length (cellsL l)
theorem Own.nil {e : TypeId} {base : Nat} {W : World} : Own e base W (.slice none 0 0) ([] : List α) := World.ownsRow_nil _ _ _ _
theorem Own.sl {e : TypeId} {base : Nat} {W : World} {sv : Value} {l : List α} (h : Own e base W sv l) : Sl W.heap.size W sv l := by
 obtain ⟨_, ⟨rfl, h0⟩ | ⟨g, cap, cur, rfl, _, hg, hc, hm, _, _⟩⟩ := id h
 ·obtain rfl := List.eq_nil_of_length_eq_zero h0
  exact Sl.nil
 ·refine ⟨_, _, rfl, hc, hm, (fun e => nomatch e), fun k x hk => ⟨g, 0, rfl, (Array.getElem?_eq_some_iff.1 hg).1, fun i c hi => ?_⟩⟩
  have := World.ownsRow.cells h (g := g) rfl _ c (cellsL_get l hk hi)
  rwa [addr_addL] at this
theorem Own.kept {e : TypeId} {base : Nat} {W W' : World} {row : Option Nat} {sv : Value} {l : List α} (h : Own e base W sv l) (hg : W.grownBy W' row) (hne : sv.ownBlock = none \/ sv.ownBlock ≠ row) : Own e base W' sv l := World.ownsRow.kept h hg hne
theorem Own.below {e : TypeId} {base : Nat} {W W' : World} {sv : Value} {l : List α} (h : Own e base W sv l) (hB : Below W.heap.size W W') : Own e base W' sv l :=
 World.ownsRow.kept (row := none) h ⟨hB.os, hB.tape, hB.output, hB.size, fun k hk _ => hB.block k hk⟩ (by cases sv.ownBlock <;> simp)
theorem Own.lower {e : TypeId} {base base' : Nat} {W : World} {sv : Value} {l : List α} (h : Own e base W sv l) (hb : base' <= base) : Own e base' W sv l := by
 obtain ⟨hl, h0 | ⟨g, cap, cur, e1, e2, e3⟩⟩ := h
 ·exact ⟨hl, .inl h0⟩
 ·exact ⟨hl, .inr ⟨g, cap, cur, e1, Nat.le_trans hb e2, e3⟩⟩
theorem Own.at {w0 : Base} {hp : List LB} {r L : List Nat} {w w1 : World} {e : TypeId} {base : Nat} {sv : Value} {l : List α} (h1 : At w0 hp r L w w1) (h : Own e base w sv l) (hL : ∀ b, b ∈ L -> b < base) : Own e base w1 sv l := by
 obtain ⟨hl, h0 | ⟨g, cap, cur, e1, e2, e3, e4⟩⟩ := h
 ·exact ⟨hl, .inl h0⟩
 ·exact ⟨hl, .inr ⟨g, cap, cur, e1, e2, (h1.step g (Array.getElem?_eq_some_iff.1 e3).1 (fun e => by have := hL g e; omega)).trans e3, e4⟩⟩
theorem Own.form {e : TypeId} {base : Nat} {W : World} {sv : Value} {l : List α} (h : Own e base W sv l) : ∃ a cap, sv = .slice a l.length cap := by
 obtain ⟨_, ⟨rfl, h0⟩ | ⟨g, cap, cur, rfl, _⟩⟩ := h
 ·exact ⟨_, _, by rw [h0]⟩
 ·exact ⟨_, _, rfl⟩
theorem Own.lt {e : TypeId} {base : Nat} {W : World} {sv : Value} {l : List α} (h : Own e base W sv l) : ∀ k, sv.ownBlock = some k -> base <= k /\ k < W.heap.size := World.ownsRow.lt h
structure ElOk (P : Program) (t e : TypeId) (sz bytes : Nat) : Prop where
 ht : P.underlying t = some (.slice e)
 hi : ∃ i z, P.info? e = some i /\ i.zero = some z /\ i.size = sz /\ i.bytes = bytes /\ z.cells.size = sz
 pos : 0 < sz
theorem elOk {P : Program} {t e : TypeId} {sz bytes : Nat} {z : Value} (ht : P.underlying t = some (.slice e)) (hi : (P.info? e).map (fun i => (i.zero, i.size, i.bytes)) = some (some z, sz, bytes)) (hz : z.cells.size = sz) (hp : 0 < sz) : ElOk P t e sz bytes := by
 refine ⟨ht, ?_, hp⟩;cases h : P.info? e with
 | none => rw [h] at hi; cases hi
 | some i =>
   rw [h] at hi;injection hi with hi;injection hi with h1 h2;injection h2 with h2 h3;exact ⟨i, z, rfl, h1, h2, h3, hz⟩
def SrcC (w : World) (sv : Value) (sz m : Nat) (news : List Value) : Prop :=
 news.length = m * sz /\ ((sv = .slice none 0 0 /\ m = 0) \/ ∃ ad c, sv = .slice (some ad) m c /\ ∀ j u, news[j]? = some u -> w.cell? (ad.add j) = some u)
theorem Sl.src {n : Nat} {W : World} {sv : Value} {l : List α} (h : Sl n W sv l) : SrcC W sv (size α) l.length (cellsL l) := by
 obtain ⟨a, cap, rfl, h1, h2, h3, h4⟩ := h;refine ⟨cellsL_len l, ?_⟩;cases a with
 | none =>
   have h5 := h3 rfl;have h6 : l.length = 0 := by omega
   exact .inl ⟨by rw [h5, h6], h6⟩
 | some ad =>
   refine .inr ⟨ad, cap, rfl, fun j u hu => ?_⟩;have hj := (List.getElem?_eq_some_iff.1 hu).1;rw [cellsL_len] at hj;have hp := pos (α := α);have hk : j / size α < l.length := (Nat.div_lt_iff_lt_mul hp).2 hj;have hm : j % size α < size α := Nat.mod_lt _ hp;obtain ⟨b, o, ha, hb, hc⟩ := h4 _ _ (List.getElem?_eq_getElem hk);injection ha with ha; subst ha;have hx : (enc l[j / size α])[j % size α]? = some ((enc l[j / size α])[j % size α]'(by rw [len]; exact hm)) := List.getElem?_eq_getElem _;have h6 := cellsL_get l (List.getElem?_eq_getElem hk) hx;rw [Nat.div_add_mod' j (size α)] at h6;rw [h6] at hu;injection hu with hu;have h7 := hc _ _ hx;rw [Nat.div_add_mod' j (size α)] at h7;rw [addr_addL, h7, hu]
theorem run_append_src {P : Program} {w : World} {t ty e : TypeId} {sz bytes : Nat} (hE : ElOk P t e sz bytes) (base : Nat) (v : Value) (n : Nat) (xs : List Value) (hown : w.ownsRow base e sz v n xs)
 (sv : Value) (m : Nat) (news : List Value) (hsrc : SrcC w sv sz m news) (h1 : ∀ u ∈ news, u.oneCell' = true) (h63 : n + m <= maxLen) (hbytes : (n + m) * bytes <= 140737488355328) (hbase : base <= w.heap.size) :
 ∃ v' w', (Builtin.append_ #[t, t] ty #[v, sv]).run P w = .ok v' w' /\ w'.ownsRow base e sz v' (n + m) (xs ++ news) /\ w.grownBy w' v.ownBlock := by
 obtain ⟨ht, ⟨i, z, hi, hz, hs, hb, hzs⟩, hp⟩ := hE;obtain ⟨hl, ⟨rfl, rfl⟩ | ⟨ad, c, rfl, hc⟩⟩ := hsrc
 ·have hn : news = [] := List.eq_nil_of_length_eq_zero (by simpa using hl)
  subst hn;exact ⟨v, w, run_append_owned_none w base t ty e i sz ht hi v n xs hown, by simpa using hown, ⟨rfl, rfl, rfl, Nat.le_refl _, fun _ _ _ => rfl⟩⟩
 ·obtain ⟨v', w', a1, a2, a3, _⟩ := run_append_own w base t ty e i z sz bytes ht hi hz hs hb hzs hp v n xs hown ad m c news hl hc h1 h63 hbytes hbase
  exact ⟨v', w', a1, a2, a3⟩
end
theorem keep_grown {w0 : Base} {hp : List LB} {r L : List Nat} {w w1 w2 : World} {row : Option Nat} (h : At w0 hp r L w w1) (hg : w1.grownBy w2 row) (hr : ∀ k, row = some k -> w0.B <= k /\ k ∉ r) : Keep w0 r w1 w2 :=
 ⟨⟨hg.os, hg.tape, hg.output, hg.size, fun k hk => hg.block k (Nat.lt_of_lt_of_le hk (Nat.le_trans w0.le h.below.size)) (fun e => by have := (hr k e.symm).1; omega)⟩,
  fun b hb => hg.block b (h.lt b hb) (fun e => (hr b e.symm).2 hb)⟩
theorem kpD_grown {w0 : Base} {wr : World} {M : List Nat} {hp : List LB} {r L : List Nat} {w w1 w2 : World} {row : Option Nat} (h : At w0 hp r L w w1) (hg : w1.grownBy w2 row) (hr : ∀ k, row = some k -> w0.B <= k /\ k ∉ r /\ (k ∈ M \/ wr.heap.size <= k)) : kpD w0 wr M r w1 w2 := fun hs =>
 ⟨keep_grown h hg fun k hk => ⟨(hr k hk).1, (hr k hk).2.1⟩, fun k hk hm => hg.block k (Nat.lt_of_lt_of_le hk hs) (fun e => by rcases (hr k e.symm).2.2 with h | h; exact hm h; omega)⟩
theorem GenN.app {α : Type} [Enc α] {P : Program} {w0 : Base} {kp : List Nat -> World -> World -> Prop} {hp : List LB} {r L : List Nat} {w : World} {K : Value -> World -> Prop} {t ty e : TypeId} {bytes : Nat} {consts : Array Bool} {v sv : Value}
 (hE : ElOk P t e (size α) bytes) (l m : List α) (base : Nat) (hown : ∀ w1, At w0 hp r L w w1 -> Own e base w1 v l) (hsrc : ∀ w1, At w0 hp r L w w1 -> SrcC w1 sv (size α) m.length (cellsL m))
 (h63 : l.length + m.length <= maxLen) (hbytes : (l.length + m.length) * bytes <= 140737488355328) (hbase : ∀ w1, At w0 hp r L w w1 -> base <= w1.heap.size)
 (hkp : ∀ w1 w2, At w0 hp r L w w1 -> w1.grownBy w2 v.ownBlock -> kp r w1 w2) (hk : ∀ v' w1 w2, At w0 hp r L w w1 -> w1.grownBy w2 v.ownBlock -> Own e base w2 v' (l ++ m) -> K v' w2) :
 GenN P w0 kp (builtin .append #[t, t] ty consts #[v, sv]) hp r L w K := ⟨fun w1 h1 => by
 obtain ⟨v', w2, hrun, ho, hg⟩ := run_append_src (ty := ty) hE base v _ _ (hown w1 h1) sv _ _ (hsrc w1 h1) (cellsL_one m) h63 hbytes (hbase w1 h1);refine ⟨v', w2, ?_, hkp w1 w2 h1 hg, hk v' w1 w2 h1 hg ?_⟩
 ·simp only [builtin, Sem.run_bind, hrun, Result.andThen, Sem.run_pure]
 ·unfold Own; rw [cellsL_append, List.length_append]; exact ho⟩
theorem src_own {α : Type} [Enc α] {w0 : Base} {hp : List LB} {r L : List Nat} {w w1 : World} {m : List α} (h : At w0 hp r L w w1) (i : Nat) {b : Nat} {c : LB} {k : Nat} (hi : r[i]? = some b) (hc : hget hp i = some c) (hm : denL r c.cells = cellsL m) (hk : k = m.length) : SrcC w1 (.slice (some ⟨b, 0, none⟩) k k) (size α) m.length (cellsL m) := by
 subst hk;refine ⟨cellsL_len m, .inr ⟨_, _, rfl, fun j u hu => ?_⟩⟩;have h1 := h.blk i b c hi hc;rw [addr_addL, Nat.zero_add];simp only [World.cell?, h1, hm]
 simpa using hu
theorem Sl.own {α : Type} [Enc α] {w0 : Base} {hp : List LB} {r L : List Nat} {w w1 : World} {l : List α} (h : At w0 hp r L w w1) (i : Nat) {b : Nat} {c : LB} (hi : r[i]? = some b) (hc : hget hp i = some c) (hm : denL r c.cells = cellsL l) {cap : Nat} (hcap : l.length <= cap) (hmax : cap <= maxLen) : Sl w1.heap.size w1 (.slice (some ⟨b, 0, none⟩) l.length cap) l := by
 refine ⟨_, _, rfl, hcap, hmax, (fun e => nomatch e), fun k x hk => ⟨b, 0, rfl, h.lt b (List.mem_of_getElem? hi), fun j u hu => ?_⟩⟩;have h1 := h.blk i b c hi hc;rw [Nat.zero_add];simp only [World.cell?, h1, hm]
 simpa using cellsL_get l hk hu
theorem run_append_full {P : Program} {w : World} {t ty e : TypeId} {sz bytes : Nat} (hE : ElOk P t e sz bytes) (base b n : Nat) (xs : List Value) (hown : w.ownsRow base e sz (.slice (some ⟨b, 0, none⟩) n n) n xs)
 (sv : Value) (m : Nat) (news : List Value) (hsrc : SrcC w sv sz m news) (h1 : ∀ u ∈ news, u.oneCell' = true) (h63 : n + m <= maxLen) (hbytes : (n + m) * bytes <= 140737488355328) (hbase : base <= w.heap.size) :
 ∃ v' w', (Builtin.append_ #[t, t] ty #[.slice (some ⟨b, 0, none⟩) n n, sv]).run P w = .ok v' w' /\ w'.ownsRow base e sz v' (n + m) (xs ++ news) /\ w.grownBy w' none := by
 obtain ⟨ht, ⟨i, z, hi, hz, hs, hb, hzs⟩, hp⟩ := hE;obtain ⟨hl, ⟨rfl, rfl⟩ | ⟨ad, c, rfl, hc⟩⟩ := hsrc
 ·have hn : news = [] := List.eq_nil_of_length_eq_zero (by simpa using hl)
  subst hn;exact ⟨_, w, run_append_owned_none w base t ty e i sz ht hi _ n xs hown, by simpa using hown, ⟨rfl, rfl, rfl, Nat.le_refl _, fun _ _ _ => rfl⟩⟩
 ·by_cases hm : m = 0
  ·subst hm
   have hn : news = [] := List.eq_nil_of_length_eq_zero (by simpa using hl);subst hn;refine ⟨.slice (some ⟨b, 0, none⟩) n n, w, ?_, by simpa using hown, ⟨rfl, rfl, rfl, Nat.le_refl _, fun _ _ _ => rfl⟩⟩;simp [Builtin.append_, run_underlying ht, sizeOf, typeInfo, hi, Builtin.lenOf, Builtin.firstCells, loadCells, loadCellsFrom, storeCells]
  ·subst hs; subst hb
   have hsmall : n + m <= 9223372036854775807 := by simp only [maxLen] at h63; omega
   have hlen : (xs ++ news).length = (n + m) * i.size := by rw [List.length_append, hown.1, hl, Nat.add_mul]
   have holds : ∀ j u, xs[j]? = some u -> w.cell? ((⟨b, 0, none⟩ : Addr).add j) = some u := World.ownsRow.cells hown (g := b) rfl;have hr := run_append_grow (P := P) w t ty e i z ht hi hz ⟨b, 0, none⟩ n n xs hown.1 holds ad m c news hl hc (by omega) (by omega) (growslice_fits (by omega) hbytes);have hge := grownCap_ge w (n + m) n e;have hcm : grownCap w (n + m) n e <= maxLen := grownCap_le_maxLen w (n + m) n e h63;refine ⟨_, _, hr, ⟨hlen, .inr ⟨w.heap.size, _, _, rfl, hbase, World.alloc_heap_new w.drew _, hge, hcm, ?_, ?_⟩⟩, ⟨rfl, rfl, rfl, by simp, fun k hk _ => Below.heap_alloc w.drew _ k hk⟩⟩
   ·simp only [Array.size_append, List.size_toArray, size_zeroCells, hzs, hown.1, hl, <- Nat.add_mul]
    congr 1
    omega
   ·simp only [Array.toList_append, List.append_assoc]
    rw [<- List.append_assoc, <- hlen];exact List.take_left
theorem GenN.appF {α : Type} [Enc α] {P : Program} {w0 : Base} {kp : List Nat -> World -> World -> Prop} [hkp : KpOk w0 kp] {hp : List LB} {r L : List Nat} {w : World} {K : Value -> World -> Prop} {t ty e : TypeId} {bytes : Nat} {consts : Array Bool} {b n : Nat} {sv : Value}
 (hE : ElOk P t e (size α) bytes) (l m : List α) (base : Nat) (hn : n = l.length) (hown : ∀ w1, At w0 hp r L w w1 -> Own e base w1 (.slice (some ⟨b, 0, none⟩) n n) l) (hsrc : ∀ w1, At w0 hp r L w w1 -> SrcC w1 sv (size α) m.length (cellsL m))
 (h63 : l.length + m.length <= maxLen) (hbytes : (l.length + m.length) * bytes <= 140737488355328) (hbase : ∀ w1, At w0 hp r L w w1 -> base <= w1.heap.size)
 (hk : ∀ v' w1 w2, At w0 hp r L w w1 -> Below w1.heap.size w1 w2 -> Own e base w2 v' (l ++ m) -> K v' w2) :
 GenN P w0 kp (builtin .append #[t, t] ty consts #[.slice (some ⟨b, 0, none⟩) n n, sv]) hp r L w K := ⟨fun w1 h1 => by
 subst hn;obtain ⟨v', w2, hrun, ho, hg⟩ := run_append_full (ty := ty) hE base b _ _ (hown w1 h1) sv _ _ (hsrc w1 h1) (cellsL_one m) h63 hbytes (hbase w1 h1);have hB : Below w1.heap.size w1 w2 := ⟨hg.os, hg.tape, hg.output, hg.size, fun k hk => hg.block k hk (by simp)⟩;refine ⟨v', w2, ?_, hkp.ok h1 hB, hk v' w1 w2 h1 hB ?_⟩
 ·simp only [builtin, Sem.run_bind, hrun, Result.andThen, Sem.run_pure]
 ·unfold Own; rw [cellsL_append, List.length_append]; exact ho⟩
end
section
open Go.ChangeShapes Go.WideShapes Go.ChangeAt Go.RowKit Go.Deep Go.Proofs.YtanhnllkccldhaaGreat.Eng
theorem inK_wf {n : Int} (h : (Lit.int .i64 n).wf = true) : inK .i64 n := wf_i64 h
section
variable {H : Type} {en : TypeId × Value -> H} {P : Program}
def Opens (en : TypeId × Value -> H) (P : Program) (e : TypeId) (α : Type) [Enc α] (G : α -> Prop) : Prop :=
 P.cellsOf e = Enc.size α /\ ∀ (W : World) (b : Nat) (sp : Nat -> Bool) (hl : Bool) (fuel : Nat) (cs : List Value) (x : DataW H × List MemPlace), DataW.trod en P W b sp hl fuel e cs = some x -> ∃ y : α, cs = Enc.enc y /\ G y
def Zn.ins (z : Zn) : Prop := inK .i64 z.a /\ inK .i64 z.b /\ inK .i64 z.c /\ inK .i64 z.d /\ inK .i64 z.e /\ inK .i64 z.f
theorem open_list {α : Type} [Enc α] {G : α -> Prop} {t e : TypeId} (ht : P.underlying t = some (.slice e)) (ho : Opens en P e α G) {W : World} {sp : Nat -> Bool} {hl : Bool} {fuel : Nat} {cs : List Value} {x : DataW H × List MemPlace}
 (h : DataW.trod en P W 0 sp hl fuel t cs = some x) :
 ∃ (a : Option Addr) (l : List α) (cap : Nat), cs = [.slice a l.length cap] /\ Sl W.heap.size W (.slice a l.length cap) l /\ ∀ y ∈ l, G y := by
 obtain ⟨hc, ho⟩ := ho;rcases open_slice ht h with ⟨rfl, rfl⟩ | ⟨a, len, cap, m, n, D, Pl, rfl, hb, hl1, hm, hmm, rfl, hx⟩
 ·exact ⟨none, [], 0, rfl, Sl.nil, by simp⟩
 have hle : len <= m := by rw [hmm]; split <;> omega
 have key : ∀ i, i < len -> ∃ y : α, G y /\ ∀ j c, (Enc.enc y)[j]? = some c -> W.cell? ((a.add (i * Enc.size α)).add j) = some c := by
  intro i hi;obtain ⟨cs', h1, h2⟩ := hx i (by omega);obtain ⟨y, rfl, hy⟩ := ho _ _ _ _ _ _ _ h2;obtain ⟨_, hlen, hcell⟩ := World.cells?_some h1;rw [hc] at hcell hlen;exact ⟨y, hy, fun j c hj => by rw [hcell j (by rw [<- Enc.len y]; exact (List.getElem?_eq_some_iff.1 hj).1), hj]⟩
 by_cases h0 : len = 0
 ·subst h0
  refine ⟨some a, [], cap, rfl, ⟨some a, cap, rfl, by simp, hm, by simp, by simp⟩, by simp⟩
 obtain ⟨y0, _⟩ := key 0 (by omega)
 haveI : Inhabited α := ⟨y0⟩
 obtain ⟨f, hf⟩ := choose_lt key;have hll : ((List.range len).map f).length = len := by simp
 obtain ⟨b, o, spot⟩ := a;have hsp : spot = none := by
  obtain ⟨_, h2⟩ := hf 0 (by omega);have hp := Enc.pos (α := α);rw [<- Enc.len (f 0)] at hp;have := World.cell?_spot (h2 0 _ (List.getElem?_eq_getElem hp))
  simpa [Addr.add] using this
 subst hsp;refine ⟨some ⟨b, o, none⟩, (List.range len).map f, cap, by rw [hll], ?_, ?_⟩
 ·refine ⟨some ⟨b, o, none⟩, cap, rfl, by rw [hll]; exact hl1, hm, by simp, fun k x hk => ?_⟩
  have hk' : k < len := by have := (List.getElem?_eq_some_iff.1 hk).1; simpa using this
  have hx' : x = f k := by simp [hk'] at hk; exact hk.symm
  subst hx';obtain ⟨_, h2⟩ := hf k hk';refine ⟨b, o, rfl, ?_, fun i c hi => ?_⟩
  ·have hp := Enc.pos (α := α)
   rw [<- Enc.len (f k)] at hp;have := World.block_lt_of_cell? W _ (h2 0 _ (List.getElem?_eq_getElem hp))
   simpa [addr_addL] using this
  ·have := h2 i c hi
   rw [addr_addL, addr_addL, Nat.add_assoc] at this;exact this
 ·intro y hy
  obtain ⟨i, hi, rfl⟩ := List.mem_map.1 hy;exact (hf i (List.mem_range.1 hi)).1
theorem open_two {t : TypeId} {f0 f1 : Field} {r : Reach} {b0 : Nat} {v : Value} {d : DataW H} {ps : List MemPlace} {W : World} {sp : Nat -> Bool} {hl : Bool} (ht : P.underlying t = some (.struct #[f0, f1])) (hc : P.cellsOf t = 2) (h0 : f0.offset = 0) (h1 : f1.offset = 1) (c0 : P.cellsOf f0.type = 1) (c1 : P.cellsOf f1.type = 1)
 (hval : Value.okWide P W r b0 t v) (hd : DataW.Trod en P W 0 sp hl t v d ps) :
 ∃ v0 v1 y0 y1 n, v = .agg #[v0, v1] /\ DataW.trod en P W 0 sp hl n f0.type [v0] = some y0 /\ DataW.trod en P W 0 sp hl n f1.type [v1] = some y1 := by
 obtain ⟨cs, rfl, hn⟩ := okWide_struct ht hval;rw [hc] at hn;obtain ⟨l⟩ := cs;obtain ⟨fuel, hf⟩ := hd
 match l, hn with
 | [a, b], _ =>
   obtain ⟨y0, y1, n, _, _, k0, k1⟩ := trod_struct2 ht hf;rw [h0, c0] at k0;rw [h1, c1] at k1;exact ⟨a, b, y0, y1, n, rfl, by simpa [Value.cells] using k0, by simpa [Value.cells] using k1⟩
theorem open_lst {α : Type} [Enc α] {G : α -> Prop} {t e : TypeId} {r : Reach} {b0 : Nat} {v : Value} {d : DataW H} {ps : List MemPlace} {W : World} {sp : Nat -> Bool} {hl : Bool} (ht : P.underlying t = some (.slice e)) (ho : Opens en P e α G)
 (hval : Value.okWide P W r b0 t v) (hd : DataW.Trod en P W 0 sp hl t v d ps) :
 ∃ a l cap, v = .slice a (l : List α).length cap /\ Sl W.heap.size W (.slice a l.length cap) l /\ ∀ y ∈ l, G y := by
 obtain ⟨a', len, cap', rfl⟩ := okWide_slice ht hval;obtain ⟨fuel, hf⟩ := hd;obtain ⟨a, l, cap, e1, hS, hG⟩ := open_list ht ho hf;simp [Value.cells] at e1;obtain ⟨rfl, rfl, rfl⟩ := e1;exact ⟨_, l, _, rfl, hS, hG⟩
end
section
variable {H : Type} {en : TypeId × Value -> H} {P : Program}
theorem opens_zn {t e : TypeId} (ht : P.underlying t = some (.array 6 e)) (hc : P.cellsOf t = 6) (he : P.underlying e = some (.int .i64)) (hce : P.cellsOf e = 1) : Opens en P t Zn Zn.ins := by
 refine ⟨hc, fun W b sp hl fuel cs x h => ?_⟩;obtain ⟨xs, m, rfl, rfl, hlen, hxs, hf⟩ := DataW.trod_array ht h;rw [hc] at hlen;have g : ∀ i, i < 6 -> ∃ n, (cs.drop i).take 1 = [.int .i64 n] /\ inK .i64 n := fun i hi => by
  have h1 := hf i hi;rw [hce, Nat.mul_one, List.getElem?_eq_getElem (by omega)] at h1;obtain ⟨n, e1, _, hw⟩ := DataW.trod_int he h1;exact ⟨n, e1, inK_wf hw⟩
 obtain ⟨n0, e0, w0⟩ := g 0 (by omega);obtain ⟨n1, e1, w1⟩ := g 1 (by omega);obtain ⟨n2, e2, w2⟩ := g 2 (by omega);obtain ⟨n3, e3, w3⟩ := g 3 (by omega);obtain ⟨n4, e4, w4⟩ := g 4 (by omega);obtain ⟨n5, e5, w5⟩ := g 5 (by omega)
 match cs, hlen with
 | [c0, c1, c2, c3, c4, c5], _ =>
   simp at e0 e1 e2 e3 e4 e5;subst e0; subst e1; subst e2; subst e3; subst e4; subst e5;exact ⟨⟨n0, n1, n2, n3, n4, n5⟩, rfl, w0, w1, w2, w3, w4, w5⟩
end
end
end Go.Proofs.YtanhnllkccldhaaGreat
namespace Go.Proofs.YtanhnllkccldhaaGreat.Num
set_option linter.unusedVariables false
def okB (a : Int) : Bool := decide (-2305843009213693952 <= a) && decide (a <= 2305843009213693952)
theorem okB_iff {a : Int} : okB a = true ↔ -2305843009213693952 <= a /\ a <= 2305843009213693952 := by
 simp [okB]
theorem okB_no {a : Int} : okB a = false ↔ (a < -2305843009213693952 \/ 2305843009213693952 < a) := by
 have h := @okB_iff a;cases h2 : okB a
 ·simp [h2] at h; simp; omega
 ·simp [h2] at h; simp; omega
def chk (a : Int) : Int := if okB a then 0 else 10
theorem chk_yes {a : Int} (h : okB a = true) : chk a = 0 := by simp [chk, h]
theorem chk_no {a : Int} (h : okB a = false) : chk a = 10 := by simp [chk, h]
def sumFrom (s : Int) : List Int -> Int × Int
 | [] => (s, 0)
 | a :: l => if okB a && okB (s + a) then sumFrom (s + a) l else (0, 10)
theorem sumFrom_ok (s : Int) (l : List Int) (hs : okB s = true) : okB (sumFrom s l).1 = true := by
 induction l generalizing s with
 | nil => simpa [sumFrom] using hs
 | cons a l ih =>
   simp only [sumFrom]
   by_cases c : (okB a && okB (s + a)) = true
   ·rw [if_pos c]; simp at c; exact ih _ c.2
   ·rw [if_neg c]; rfl
theorem sumFrom_append (s : Int) (l m : List Int) : sumFrom s (l ++ m) = if (sumFrom s l).2 = 0 then sumFrom (sumFrom s l).1 m else (0, 10) := by
 induction l generalizing s with
 | nil => simp [sumFrom]
 | cons a l ih =>
   by_cases c : (okB a && okB (s + a)) = true
   ·simp only [List.cons_append, sumFrom, c, if_true, ih]
   ·simp [sumFrom, c]
def add (a b : Int) : Int × Int := if okB a && okB b && okB (a + b) then (a + b, 0) else (0, 10)
def sub (a b : Int) : Int × Int := if okB b then add a (-b) else (0, 10)
theorem sumFrom_one (s a : Int) (h : okB s = true) : sumFrom s [a] = add s a := by
 cases h1 : okB a <;> cases h2 : okB (s + a) <;> simp [sumFrom, add, h, h1, h2]
theorem parts (l : List Int) (a : Int) : sumFrom 0 (l ++ [a]) = if (sumFrom 0 l).2 = 0 then add (sumFrom 0 l).1 a else (0, 10) := by
 rw [sumFrom_append, sumFrom_one _ _ (sumFrom_ok 0 l rfl)]
end Go.Proofs.YtanhnllkccldhaaGreat.Num
namespace Go.Proofs.YtanhnllkccldhaaGreat
set_option linter.unusedVariables false
set_option linter.unusedSimpArgs false
set_option maxRecDepth 100000
section
open Go.RowKit
theorem check_yes (a : Int) (h1 : -2305843009213693952 <= a) (h2 : a <= 2305843009213693952) (w : World) :
 Calls Tryz.prog 195 #[.int .i64 a] w fun e w' => e = .returned (.int .i64 0) /\ w = w' := by
 go_enter Tryz.func195, Tryz.ntmps195
 go_wp2
 go_ret
 exact ⟨rfl, rfl⟩
theorem check_no (a : Int) (h : a < -2305843009213693952 \/ 2305843009213693952 < a) (w : World) :
 Calls Tryz.prog 195 #[.int .i64 a] w fun e w' => e = .returned (.int .i64 10) /\ w = w' := by
 rcases h with h | h
 ·go_enter Tryz.func195, Tryz.ntmps195
  go_wp2
  go_ret
  exact ⟨rfl, rfl⟩
 ·have h' : ¬ a < -2305843009213693952 := by omega
  go_enter Tryz.func195, Tryz.ntmps195
  go_wp2
  go_ret
  exact ⟨rfl, rfl⟩
theorem check_any (a : Int) (w : World) :
 Calls Tryz.prog 195 #[.int .i64 a] w fun e w' => e = .returned (.int .i64 (Num.chk a)) /\ w = w' := by
 by_cases h : Num.okB a = true
 ·rw [Num.chk_yes h]; exact check_yes a (Num.okB_iff.1 h).1 (Num.okB_iff.1 h).2 w
 ·rw [Num.chk_no (by simpa using h)]; exact check_no a (Num.okB_no.1 (by simpa using h)) w
end
section
theorem i64_and1 (n : Int) : bits .and .i64 n 1 = n % 2 := by
 have h1 : (BitVec.ofInt 64 1).toNat = 2 ^ 1 - 1 := by decide
 have key : (BitVec.ofInt 64 n &&& BitVec.ofInt 64 1).toNat = (n % ((2 ^ 64 : Nat) : Int)).toNat % 2 ^ 1 := by
  rw [BitVec.toNat_and, BitVec.toNat_ofInt, h1, Nat.and_two_pow_sub_one_eq_mod]
 show IntKind.i64.wrap ((BitVec.ofInt 64 n &&& BitVec.ofInt 64 1).toNat : Nat) = n % 2;rw [key, IntKind.wrap_i64];omega
theorem i64_or1 (c : Int) (h1 : -4611686018427387904 <= c) (h2 : c <= 4611686018427387903) : bits .or .i64 (c * 2) 1 = c * 2 + 1 := by
 rw [Int.mul_comm c 2];have e1 : (BitVec.ofInt 64 1).toNat = 1 := by decide
 obtain ⟨m, hm⟩ : ∃ m : Nat, ((2 * c) % ((2 ^ 64 : Nat) : Int)).toNat = 2 * m := ⟨(((2 * c) % ((2 ^ 64 : Nat) : Int)).toNat) / 2, by omega⟩;have or1 : 2 * m ||| 1 = 2 * m + 1 := by
  have := Nat.shiftLeft_add_eq_or_of_lt (b := 1) (i := 1) (by decide) m;rw [Nat.shiftLeft_eq] at this;rw [Nat.mul_comm 2 m]
  simpa using this.symm
 have key : (BitVec.ofInt 64 (2 * c) ||| BitVec.ofInt 64 1).toNat = 2 * m + 1 := by
  rw [BitVec.toNat_or, BitVec.toNat_ofInt, e1, hm, or1]
 show IntKind.i64.wrap ((BitVec.ofInt 64 (2 * c) ||| BitVec.ofInt 64 1).toNat : Nat) = 2 * c + 1;rw [key, IntKind.wrap_i64];omega
namespace Bd
open Num
def st (b : Int) : Bool := b % 2 == 0
def may (b : Int) : Bool := b == 9223372036854775807 || okB (b / 2)
def chk (b : Int) : Int := if may b then 0 else 8
def mk (c : Int) (s : Bool) : Int := if s then c * 2 else c * 2 + 1
def made (c : Int) (s : Bool) : Int × Int := if okB c then (mk c s, 0) else (0, 10)
def value (b : Int) : Int × Bool × Int := if may b then (if b = 9223372036854775807 then (0, false, 6) else (b / 2, st b, 0)) else (0, false, 8)
def add (a b : Int) : Int × Int :=
 if may a && may b then (if a = 9223372036854775807 \/ b = 9223372036854775807 then (9223372036854775807, 0) else made (a / 2 + b / 2) (st a || st b)) else (0, 8)
def not (b : Int) : Int × Int := if (value b).2.2 = 0 then made (-(value b).1) (!(value b).2.1) else (0, (value b).2.2)
def keeps (d b : Int) : Bool × Int := if okB d then (if may b then (decide (mk d false <= b), 0) else (false, 8)) else (false, 10)
theorem chk_yes {b : Int} (h : may b = true) : chk b = 0 := by simp [chk, h]
theorem chk_no {b : Int} (h : may b = false) : chk b = 8 := by simp [chk, h]
theorem may_none : may 9223372036854775807 = true := by decide
theorem may_of {b : Int} (h : okB (b / 2) = true) : may b = true := by simp [may, h]
theorem made_yes {c : Int} {s : Bool} (h : okB c = true) : made c s = (mk c s, 0) := by simp [made, h]
theorem made_no {c : Int} {s : Bool} (h : okB c = false) : made c s = (0, 10) := by simp [made, h]
theorem value_bad {b : Int} (h : may b = false) : value b = (0, false, 8) := by simp [value, h]
theorem value_none : value 9223372036854775807 = (0, false, 6) := by decide
theorem value_yes {b : Int} (h : may b = true) (hn : b ≠ 9223372036854775807) : value b = (b / 2, st b, 0) := by simp [value, h, hn]
theorem okB_of_may {b : Int} (h : may b = true) (hn : b ≠ 9223372036854775807) : okB (b / 2) = true := by simpa [may, hn] using h
theorem add_bad {a b : Int} (h : may a = false \/ may b = false) : add a b = (0, 8) := by rcases h with h | h <;> simp [add, h]
theorem add_none {a b : Int} (ha : may a = true) (hb : may b = true) (h : a = 9223372036854775807 \/ b = 9223372036854775807) : add a b = (9223372036854775807, 0) := by simp [add, ha, hb, h]
theorem add_yes {a b : Int} (ha : may a = true) (hb : may b = true) (na : a ≠ 9223372036854775807) (nb : b ≠ 9223372036854775807) : add a b = made (a / 2 + b / 2) (st a || st b) := by simp [add, ha, hb, na, nb]
theorem half_mk (c : Int) (s : Bool) : mk c s / 2 = c := by cases s <;> simp [mk] <;> omega
end Bd
end
section
open Go.RowKit
theorem of_any (b : Int) (w : World) :
 Calls Tryz.prog 193 #[.int .i64 b] w fun e w' => e = .returned (.agg #[.int .i64 (b / 2), .bool (Bd.st b)]) /\ Below w.heap.size w w' := by
 have h1 := i64_and1 b
 go_enter Tryz.func193, Tryz.ntmps193
 go_wp2
 exact bodyPost_ret (v := .agg #[.int .i64 (b / 2), .bool (Bd.st b)]) (by simp [results, Tryz.results193, Bd.st, go_sem]) rfl ⟨rfl, (Below.refl _ _).alloc (Nat.le_refl _) _⟩
theorem told_any (c : Int) (s : Bool) (h : Num.okB c = true) (w : World) :
 Calls Tryz.prog 209 #[.agg #[.int .i64 c, .bool s]] w fun e w' => e = .returned (.int .i64 (Bd.mk c s)) /\ Below w.heap.size w w' := by
 obtain ⟨c1, c2⟩ := Num.okB_iff.1 h;have h1 := i64_or1 c (by omega) (by omega);clear h;cases s
 ·go_enter Tryz.func209, Tryz.ntmps209
  go_wp2
  go_ret
  exact ⟨ret_int (by simp [Bd.mk]), (Below.refl _ _).alloc (Nat.le_refl _) _⟩
 ·go_enter Tryz.func209, Tryz.ntmps209
  go_wp2
  go_ret
  exact ⟨ret_int (by simp [Bd.mk]), (Below.refl _ _).alloc (Nat.le_refl _) _⟩
theorem made_any (c : Int) (s : Bool) (w : World) :
 Calls Tryz.prog 194 #[.agg #[.int .i64 c, .bool s]] w fun e w' => e = .returned (.tuple #[.int .i64 (Bd.made c s).1, .int .i64 (Bd.made c s).2]) /\ Below w.heap.size w w' := by
 have hB := (Below.refl w.heap.size w).alloc (Nat.le_refl _) (.cells #[.int .i64 c, .bool s] 233);cases h : Num.okB c with
 | true =>
   have e1 := Num.chk_yes h;have hr := Lib.hid (Bd.made_yes (s := s) h);have H := Lib.hid h;clear h
   go_enter Tryz.func194, Tryz.ntmps194
   go_wp2_with (first
    | (go_at_call 195; refine (check_any _ _).mono ?_; rintro e w' ⟨rfl, rfl⟩)
    | (go_at_call 209; refine (from_here (told_any _ _ H.out _) hB).mono ?_; rintro e w' ⟨rfl, hB1⟩))
   go_ret2
   exact ⟨tup2 hr.out rfl rfl, by assumption⟩
 | false =>
   have e1 := Num.chk_no h;have hr := Lib.hid (Bd.made_no (s := s) h);clear h
   go_enter Tryz.func194, Tryz.ntmps194
   go_wp2_with (first
    | (go_at_call 195; refine (check_any _ _).mono ?_; rintro e w' ⟨rfl, rfl⟩))
   go_ret2
   exact ⟨tup2 hr.out rfl rfl, by assumption⟩
theorem field_c (c : Int) (s : Bool) : ∀ w : World, (Instr.field 233 (.agg #[.int .i64 c, .bool s]) 0).run Tryz.prog w = .ok (.int .i64 c) w := fun _ => by kernel_rfl
theorem bcheck_any (b : Int) (w : World) :
 Calls Tryz.prog 170 #[.int .i64 b] w fun e w' => e = .returned (.int .i64 (Bd.chk b)) /\ Below w.heap.size w w' := by
 have hB := Below.refl w.heap.size w
 by_cases hn : b = 9223372036854775807
 ·subst hn
  have hr := Lib.hid (Bd.chk_yes Bd.may_none)
  go_enter Tryz.func170, Tryz.ntmps170
  go_wp2
  go_ret
  exact ⟨ret_int hr.out.symm, by assumption⟩
 ·have hn1 : (b == 9223372036854775807) = false := by simpa using hn
  have hn2 : (b != 9223372036854775807) = true := by simpa using hn
  have hf := field_c (b / 2) (Bd.st b);cases h : Num.okB (b / 2) with
  | true =>
    have e1 := Num.chk_yes h;have hr := Lib.hid (Bd.chk_yes (Bd.may_of h));clear h hn
    go_enter Tryz.func170, Tryz.ntmps170
    go_wp2_with (first
     | (go_at_call 195; refine (check_any _ _).mono ?_; rintro e w' ⟨rfl, rfl⟩)
     | (go_at_call 193; refine (from_here (of_any _ _) (by assumption)).mono ?_; rintro e w' ⟨rfl, hB1⟩))
    go_ret
    exact ⟨ret_int hr.out.symm, by assumption⟩
  | false =>
    have e1 := Num.chk_no h;have hr := Lib.hid (Bd.chk_no (b := b) (by simp [Bd.may, h, hn]));clear h hn
    go_enter Tryz.func170, Tryz.ntmps170
    go_wp2_with (first
     | (go_at_call 195; refine (check_any _ _).mono ?_; rintro e w' ⟨rfl, rfl⟩)
     | (go_at_call 193; refine (from_here (of_any _ _) (by assumption)).mono ?_; rintro e w' ⟨rfl, hB1⟩))
    go_ret
    exact ⟨ret_int hr.out.symm, by assumption⟩
theorem value_any (b : Int) (w : World) :
 Calls Tryz.prog 164 #[.int .i64 b] w fun e w' => e = .returned (.tuple #[.int .i64 (Bd.value b).1, .bool (Bd.value b).2.1, .int .i64 (Bd.value b).2.2]) /\ Below w.heap.size w w' := by
 have hB := Below.refl w.heap.size w;cases h : Bd.may b with
 | false =>
   have e1 := Bd.chk_no h;have hr := Lib.hid (Bd.value_bad h);clear h
   go_enter Tryz.func164, Tryz.ntmps164
   go_wp2_with (go_at_call 170; refine (from_here (bcheck_any _ _) (by assumption)).mono ?_; rintro e w' ⟨rfl, hB1⟩)
   go_ret3
   exact ⟨tup3 hr.out rfl rfl rfl, by assumption⟩
 | true =>
   have e1 := Bd.chk_yes h
   by_cases hn : b = 9223372036854775807
   ·subst hn
    have hr := Lib.hid Bd.value_none;clear h
    go_enter Tryz.func164, Tryz.ntmps164
    go_wp2_with (go_at_call 170; refine (from_here (bcheck_any _ _) (by assumption)).mono ?_; rintro e w' ⟨rfl, hB1⟩)
    go_ret3
    exact ⟨tup3 hr.out rfl rfl rfl, by assumption⟩
   ·have hn1 : (b == 9223372036854775807) = false := by simpa using hn
    have hr := Lib.hid (Bd.value_yes h hn);clear h hn
    go_enter Tryz.func164, Tryz.ntmps164
    go_wp2_with (first
     | (go_at_call 170; refine (from_here (bcheck_any _ _) (by assumption)).mono ?_; rintro e w' ⟨rfl, hB1⟩)
     | (go_at_call 193; refine (from_here (of_any _ _) (by assumption)).mono ?_; rintro e w' ⟨rfl, hB2⟩))
    go_quiet (fail)
    go_wp2
    go_ret3
    exact ⟨tup3 hr.out rfl rfl rfl, below_drewN (hB2.alloc hB2.size _) _⟩
theorem badd_any (a b : Int) (w : World) :
 Calls Tryz.prog 166 #[.int .i64 a, .int .i64 b] w fun e w' => e = .returned (.tuple #[.int .i64 (Bd.add a b).1, .int .i64 (Bd.add a b).2]) /\ Below w.heap.size w w' := by
 have hB := Below.refl w.heap.size w;cases ha : Bd.may a with
 | false =>
   have e1 := Bd.chk_no ha;have hr := Lib.hid (Bd.add_bad (b := b) (.inl ha));clear ha
   go_enter Tryz.func166, Tryz.ntmps166
   go_wp2_with (go_at_call 170; refine (from_here (bcheck_any _ _) (by assumption)).mono ?_; rintro e w' ⟨rfl, hB1⟩)
   go_ret2
   exact ⟨tup2 hr.out rfl rfl, by assumption⟩
 | true =>
   have e1 := Bd.chk_yes ha;cases hb : Bd.may b with
   | false =>
     have e2 := Bd.chk_no hb;have hr := Lib.hid (Bd.add_bad (a := a) (.inr hb));clear ha hb
     go_enter Tryz.func166, Tryz.ntmps166
     go_wp2_with (go_at_call 170; refine (from_here (bcheck_any _ _) (by assumption)).mono ?_; rintro e w' ⟨rfl, hB1⟩)
     go_ret2
     exact ⟨tup2 hr.out rfl rfl, by assumption⟩
   | true =>
     have e2 := Bd.chk_yes hb
     by_cases na : a = 9223372036854775807
     ·have hr := Lib.hid (Bd.add_none ha hb (.inl na))
      subst na;clear ha hb
      go_enter Tryz.func166, Tryz.ntmps166
      go_wp2_with (go_at_call 170; refine (from_here (bcheck_any _ _) (by assumption)).mono ?_; rintro e w' ⟨rfl, hB1⟩)
      go_ret2
      exact ⟨tup2 hr.out rfl rfl, by assumption⟩
     ·have na1 : (a == 9223372036854775807) = false := by simpa using na
      by_cases nb : b = 9223372036854775807
      ·have hr := Lib.hid (Bd.add_none ha hb (.inr nb))
       subst nb;clear ha hb na
       go_enter Tryz.func166, Tryz.ntmps166
       go_wp2_with (go_at_call 170; refine (from_here (bcheck_any _ _) (by assumption)).mono ?_; rintro e w' ⟨rfl, hB1⟩)
       go_ret2
       exact ⟨tup2 hr.out rfl rfl, by assumption⟩
      ·have nb1 : (b == 9223372036854775807) = false := by simpa using nb
       have hr := Lib.hid (Bd.add_yes ha hb na nb);obtain ⟨a1, a2⟩ := Num.okB_iff.1 (Bd.okB_of_may ha na);obtain ⟨b1, b2⟩ := Num.okB_iff.1 (Bd.okB_of_may hb nb);clear ha hb na nb;cases hs : Bd.st a
       all_goals
        go_enter Tryz.func166, Tryz.ntmps166
        go_wp2_with (first
         | (go_at_call 170; refine (from_here (bcheck_any _ _) (by assumption)).mono ?_; rintro e w' ⟨rfl, hB1⟩)
         | (go_at_call 193; refine (from_here (of_any _ _) (by assumption)).mono ?_; rintro e w' ⟨rfl, hB1⟩)
         | (go_at_call 194; refine (from_here (made_any _ _ _) (by repeat (first | assumption | apply below_al))).mono ?_; rintro e w' ⟨rfl, hB3⟩))
        go_ret2
        exact ⟨by rw [hr.out, hs]; rfl, by assumption⟩
end
section
namespace Fr
def inB (n d : Int) : Bool := decide (-2305843009213693952 <= n / d) && (decide (n / d < 2305843009213693952) || (decide (n / d = 2305843009213693952) && decide (n % d = 0)))
def okB (n d : Int) : Bool := decide (1 <= d) && decide (d <= 1048576) && inB n d && decide (Nat.gcd n.natAbs d.natAbs = 1)
def chk (n d : Int) : Int := if okB n d = true then 0 else 8
theorem ok_den {n d : Int} (h : okB n d = true) : 1 <= d /\ d <= 1048576 := by simp [okB] at h; exact h.1.1
theorem ok_in {n d : Int} (h : okB n d = true) : inB n d = true := by simp [okB] at h; exact h.1.2
theorem in_iff {n d : Int} : inB n d = true ↔ -2305843009213693952 <= n / d /\ (n / d < 2305843009213693952 \/ (n / d = 2305843009213693952 /\ n % d = 0)) := by simp [inB]
theorem floor_eq {n d : Int} (hd : 1 <= d) : (n.tmod d < 0 -> n.tdiv d - 1 = n / d /\ n.tmod d + d = n % d) /\ (¬ n.tmod d < 0 -> n.tdiv d = n / d /\ n.tmod d = n % d) := by
 have e := Int.mul_tdiv_add_tmod n d;have h2 := Int.emod_add_mul_ediv n d;have h3 := Int.emod_nonneg n (by omega : d ≠ 0);have h4 := Int.emod_lt_of_pos n (by omega : 0 < d);have h5 : n.tmod d < d := Int.tmod_lt_of_pos _ (by omega);have h6 : -d < n.tmod d := Int.lt_tmod_of_pos n (by omega : 0 < d);have key : ∀ q r : Int, d * q + r = n -> 0 <= r -> r < d -> q = n / d /\ r = n % d := by
  intro q r e1 e2 e3;have : n / d = q := by
   rw [<- e1, Int.mul_add_ediv_left _ _ (by omega), Int.ediv_eq_zero_of_lt e2 e3]; omega
  refine ⟨this.symm, ?_⟩;have := h2;rw [‹n / d = q›] at this;omega
 constructor
 ·intro h
  exact key _ _ (by rw [Int.mul_sub]; omega) (by omega) (by omega)
 ·intro h
  exact key _ _ e (by omega) h5
end Fr
end
section
open Go.RowKit Go.Proofs.YtanhnllkccldhaaGreat.Eng Enc
theorem Fr.ediv_in {n d : Int} (hd : 1 <= d) (hn : inK .i64 n) : inK .i64 (n / d) := by
 simp only [inK] at hn ⊢;have e := Int.emod_add_mul_ediv n d;have h3 := Int.emod_nonneg n (by omega : d ≠ 0);have h4 := Int.emod_lt_of_pos n (by omega : 0 < d);constructor
 ·have : (-9223372036854775808) / d <= n / d := Int.ediv_le_ediv (by omega) hn.1
  have h5 : (-9223372036854775808) * 1 <= (-9223372036854775808) / d := by
   rw [Int.le_ediv_iff_mul_le (by omega)];have : 1 <= d := hd;omega
  omega
 ·have : n / d <= 9223372036854775807 / d := Int.ediv_le_ediv (by omega) hn.2
  have h5 : 9223372036854775807 / d <= 9223372036854775807 := Int.ediv_le_self _ (by omega);omega
def Rt.ins (x : Rt) : Prop := inK .i64 x.num /\ inK .i64 x.den
def Rt.ok (x : Rt) : Bool := Fr.okB x.num x.den
def cmpI (a b : Int) : Int := if a < b then -1 else if b < a then 1 else 0
namespace Fr
def sign (x y c : Int) : Int := if cmpI x y ≠ 0 then cmpI x y else c
def rest (a b : Rt) : Int := cmpI (a.num % a.den * b.den) (b.num % b.den * a.den)
def kept (a b : Rt) (x : Int) : Bool :=
 decide (sign (a.num / a.den - b.num / b.den) (x / 2) (rest a b) < 0) || (decide (sign (a.num / a.den - b.num / b.den) (x / 2) (rest a b) = 0) && !(Bd.st x))
def keeps (a b : Rt) (x : Int) : Bool × Int :=
 if a.ok && b.ok && Bd.may x then (if x = 9223372036854775807 then (true, 0) else (kept a b x, 0)) else (false, 8)
end Fr
end
section
namespace Fr
def low (n d : Int) : Rt × Int := if okB (n / Int.gcd n d) (d / Int.gcd n d) = true then (⟨n / Int.gcd n d, d / Int.gcd n d⟩, 0) else (⟨0, 0⟩, 10)
def of (n d : Int) : Rt × Int := if d < 1 then (⟨0, 0⟩, 30) else low n d
def inI (z : Int) : Bool := decide (-9223372036854775808 <= z) && decide (z <= 9223372036854775807)
def tn (a b : Rt) : Int := a.num * b.den + b.num * a.den
def dn (a b : Rt) (k : Int) : Int := a.den * b.den * k
def sum (a b : Rt) (k : Int) : Rt × Int :=
 if okB (tn a b / Int.gcd (tn a b) (dn a b k)) (dn a b k / Int.gcd (tn a b) (dn a b k)) = true /\ inI (tn a b / Int.gcd (tn a b) (dn a b k)) = true
 then (⟨tn a b / Int.gcd (tn a b) (dn a b k), dn a b k / Int.gcd (tn a b) (dn a b k)⟩, 0) else (⟨0, 0⟩, 10)
def add (a b : Rt) : Rt × Int := if a.ok = true /\ b.ok = true then sum a b 1 else (⟨0, 0⟩, 8)
def mid (a b : Rt) : Rt × Int := if a.ok = true /\ b.ok = true then sum a b 2 else (⟨0, 0⟩, 8)
def cmpR (a b : Rt) : Int := cmpI (a.num * b.den) (b.num * a.den)
def cmp (a b : Rt) : Int × Int := if a.ok = true /\ b.ok = true then (cmpR a b, 0) else (0, 8)
def floor (a : Rt) : Int × Bool × Int := if a.ok = true then (a.num / a.den, decide (a.num % a.den = 0), 0) else (0, false, 8)
-- the code's own steps
theorem mul_bd {u v m n : Int} (h0 : 0 <= u) (h1 : u <= m) (h2 : 0 <= v) (h3 : v <= n) : 0 <= u * v /\ u * v <= m * n :=
 ⟨Int.mul_nonneg h0 h2, Int.mul_le_mul h1 h3 h2 (Int.le_trans h0 h1)⟩
theorem ok_bd {a : Rt} (h : a.ok = true) : 1 <= a.den /\ a.den <= 1048576 /\ -2305843009213693952 <= a.num / a.den /\ a.num / a.den <= 2305843009213693952 /\ 0 <= a.num % a.den /\ a.num % a.den < a.den := by
 have h1 := ok_den h;have h2 := in_iff.1 (ok_in h);have h3 := Int.emod_nonneg a.num (b := a.den) (by omega);have h4 := Int.emod_lt_of_pos a.num (b := a.den) (by omega);omega
end Fr
end
end Go.Proofs.YtanhnllkccldhaaGreat
namespace Go.Proofs.YtanhnllkccldhaaGreat.Dbm
set_option linter.unusedVariables false
abbrev OB := Option Int
def bsum (u v : Int) : Int := (u / 2 + v / 2) * 2 + (u % 2) * (v % 2)
def oadd : OB -> OB -> OB
 | some u, some v => some (bsum u v)
 | _, _ => none
def ole : OB -> OB -> Prop
 | _, none => True
 | some u, some v => u <= v
 | none, some _ => False
def olt : OB -> OB -> Prop
 | some u, some v => u < v
 | some _, none => True
 | none, _ => False
theorem parity (u : Int) : u % 2 = 0 \/ u % 2 = 1 := by omega
theorem bsum_comm (u v : Int) : bsum u v = bsum v u := by simp only [bsum, Int.add_comm, Int.mul_comm]
theorem bsum_one (u : Int) : bsum u 1 = u := by unfold bsum; omega
theorem bsum_assoc (u v x : Int) : bsum (bsum u v) x = bsum u (bsum v x) := by
 unfold bsum;rcases parity u with h1 | h1 <;> rcases parity v with h2 | h2 <;> rcases parity x with h3 | h3 <;> simp only [h1, h2, h3, Int.zero_mul, Int.mul_zero, Int.mul_one, Int.add_zero] <;> omega
theorem bsum_mono {u u' v v' : Int} (h : u <= u') (k : v <= v') : bsum u v <= bsum u' v' := by
 unfold bsum;rcases parity u with h1 | h1 <;> rcases parity v with h2 | h2 <;> rcases parity u' with h3 | h3 <;> rcases parity v' with h4 | h4 <;> simp only [h1, h2, h3, h4, Int.mul_zero, Int.mul_one, Int.add_zero] <;> omega
theorem ole_refl (a : OB) : ole a a := by cases a <;> simp [ole]
theorem ole_trans {a b c : OB} (h : ole a b) (k : ole b c) : ole a c := by
 cases a <;> cases b <;> cases c <;> simp_all [ole]; omega
theorem ole_antisymm {a b : OB} (h : ole a b) (k : ole b a) : a = b := by
 cases a <;> cases b <;> simp_all [ole]; omega
theorem not_olt {a b : OB} : ¬ olt a b ↔ ole b a := by cases a <;> cases b <;> simp [ole, olt]
theorem ole_of_olt {a b : OB} (h : olt a b) : ole a b := by cases a <;> cases b <;> simp_all [ole, olt]; omega
theorem olt_irrefl {a b : OB} (h : olt a b) (k : ole b a) : False := not_olt.2 k h
theorem oadd_comm (a b : OB) : oadd a b = oadd b a := by cases a <;> cases b <;> simp [oadd, bsum_comm]
theorem oadd_assoc (a b c : OB) : oadd (oadd a b) c = oadd a (oadd b c) := by cases a <;> cases b <;> cases c <;> simp [oadd, bsum_assoc]
theorem oadd_one (a : OB) : oadd a (some 1) = a := by cases a <;> simp [oadd, bsum_one]
theorem one_oadd (a : OB) : oadd (some 1) a = a := by rw [oadd_comm, oadd_one]
theorem oadd_mono {a a' b b' : OB} (h : ole a a') (k : ole b b') : ole (oadd a b) (oadd a' b') := by
 cases a <;> cases b <;> cases a' <;> cases b' <;> simp_all [ole, oadd, bsum_mono]
theorem oadd_none (a : OB) : oadd a none = none := by cases a <;> rfl
abbrev Mx := Nat -> Nat -> OB
def way (E : Mx) : List Nat -> OB
 | [] => some 1
 | [_] => some 1
 | a :: b :: t => oadd (E a b) (way E (b :: t))
theorem way_two (E : Mx) (a b : Nat) : way E [a, b] = E a b := by simp [way, oadd_one]
theorem way_split (E : Mx) (p : List Nat) (a : Nat) (q : List Nat) : way E (p ++ a :: q) = oadd (way E (p ++ [a])) (way E (a :: q)) := by
 induction p with
 | nil => simp [way, one_oadd]
 | cons x p ih =>
   cases p with
   | nil => simp [way, oadd_one]
   | cons y p => simp only [List.cons_append, way] at ih ⊢; rw [ih, oadd_assoc]
def olt' (a b : OB) : Bool := match a, b with | some u, some v => decide (u < v) | some _, none => true | none, _ => false
theorem olt'_iff {a b : OB} : olt' a b = true ↔ olt a b := by cases a <;> cases b <;> simp [olt', olt]
def thr (k : Nat) (M : Mx) : Mx := fun i j => if olt' (oadd (M i k) (M k j)) (M i j) then oadd (M i k) (M k j) else M i j
theorem thr_le (k : Nat) (M : Mx) (i j : Nat) : ole (thr k M i j) (M i j) := by
 unfold thr; split
 ·rename_i h; exact ole_of_olt (olt'_iff.1 h)
 ·exact ole_refl _
theorem thr_by (k : Nat) (M : Mx) (i j : Nat) : ole (thr k M i j) (oadd (M i k) (M k j)) := by
 unfold thr; split
 ·exact ole_refl _
 ·rename_i h; exact not_olt.1 (fun e => h (olt'_iff.2 e))
theorem thr_cases (k : Nat) (M : Mx) (i j : Nat) : (thr k M i j = M i j) \/ (thr k M i j = oadd (M i k) (M k j) /\ olt (oadd (M i k) (M k j)) (M i j)) := by
 unfold thr; split
 ·rename_i h; exact .inr ⟨rfl, olt'_iff.1 h⟩
 ·exact .inl rfl
theorem thr_row {k : Nat} {M : Mx} (h : M k k = some 1) (j : Nat) : thr k M k j = M k j := by
 rcases thr_cases k M k j with e | ⟨_, e⟩
 ·exact e
 ·rw [h, one_oadd] at e; exact (olt_irrefl e (ole_refl _)).elim
theorem thr_col {k : Nat} {M : Mx} (h : M k k = some 1) (i : Nat) : thr k M i k = M i k := by
 rcases thr_cases k M i k with e | ⟨_, e⟩
 ·exact e
 ·rw [h, oadd_one] at e; exact (olt_irrefl e (ole_refl _)).elim
structure Inv (n k : Nat) (E M : Mx) : Prop where
 diag : ∀ i, i < n -> M i i = some 1
 low : ∀ i j, i < n -> j < n -> ole (M i j) (E i j)
 wit : ∀ i j, i < n -> j < n -> i ≠ j -> ∀ v, M i j = some v -> ∃ mid, (i :: (mid ++ [j])).Nodup /\ (∀ a ∈ mid, a < k) /\ way E (i :: (mid ++ [j])) = some v
 closed : ∀ i j a, i < n -> j < n -> a < k -> ole (M i j) (oadd (M i a) (M a j))
theorem Inv.start {n : Nat} {E : Mx} (h : ∀ i, i < n -> E i i = some 1) : Inv n 0 E E :=
 ⟨h, fun _ _ _ _ => ole_refl _, fun i j hi hj hne v hv => ⟨[], by simp [hne], by simp, by simp [way_two, hv]⟩, fun _ _ _ _ _ h => by omega⟩
theorem Inv.le_way {n k : Nat} {E M : Mx} (h : Inv n k E M) (hk : k <= n) : ∀ (mid : List Nat) (i j : Nat), i < n -> j < n -> (∀ a ∈ mid, a < k) -> ole (M i j) (way E (i :: (mid ++ [j])))
 | [], i, j, hi, hj, _ => by simpa [way_two] using h.low i j hi hj
 | a :: mid, i, j, hi, hj, hm => by
   have ha : a < k := hm a (by simp);have ih := h.le_way hk mid a j (by omega) hj (fun b hb => hm b (by simp [hb]));simp only [List.cons_append, way];exact ole_trans (h.closed i j a hi hj ha) (oadd_mono (h.low i a hi (by omega)) ih)
theorem Inv.step {n k : Nat} {E M : Mx} (h : Inv n k E M) (hk : k < n) (hd : ∀ i, i < n -> thr k M i i = some 1) : Inv n (k + 1) E (thr k M) := by
 have hkk := h.diag k hk;have cyc : ∀ a, a < n -> ole (some 1) (oadd (M a k) (M k a)) := fun a ha => by
  have := thr_by k M a a; rwa [hd a ha] at this
 refine ⟨hd, fun i j hi hj => ole_trans (thr_le k M i j) (h.low i j hi hj), ?_, ?_⟩
 ·intro i j hi hj hne v hv
  rcases thr_cases k M i j with e | ⟨e, hlt⟩
  ·rw [e] at hv
   obtain ⟨mid, h1, h2, h3⟩ := h.wit i j hi hj hne v hv;exact ⟨mid, h1, fun a ha => by have := h2 a ha; omega, h3⟩
  ·have hik : i ≠ k := fun c => by subst c; rw [hkk, one_oadd] at hlt; exact olt_irrefl hlt (ole_refl _)
   have hjk : k ≠ j := fun c => by subst c; rw [hkk, oadd_one] at hlt; exact olt_irrefl hlt (ole_refl _)
   rw [e] at hv;cases hu : M i k with
   | none => rw [hu] at hv; cases hv
   | some u =>
   cases hw : M k j with
   | none => rw [hw, hu] at hv; cases hv
   | some x =>
   obtain ⟨m1, a1, a2, a3⟩ := h.wit i k hi hk hik u hu;obtain ⟨m2, b1, b2, b3⟩ := h.wit k j hk hj hjk x hw
   -- a clock on both ways: then the sum is not below what was there
   have both : ∀ a, a < n -> ole (oadd (M i a) (M a k)) (M i k) -> ole (oadd (M k a) (M a j)) (M k j) -> ole (M i j) (oadd (M i a) (M a j)) -> False := fun a ha c1 c2 c3 => by
    have s1 : ole (oadd (oadd (M i a) (M a k)) (oadd (M k a) (M a j))) (oadd (M i k) (M k j)) := oadd_mono c1 c2;have s2 : oadd (oadd (M i a) (M a k)) (oadd (M k a) (M a j)) = oadd (M i a) (oadd (oadd (M a k) (M k a)) (M a j)) := by simp only [oadd_assoc]
    rw [s2] at s1;have s3 : ole (oadd (M i a) (oadd (some 1) (M a j))) (oadd (M i a) (oadd (oadd (M a k) (M k a)) (M a j))) := oadd_mono (ole_refl _) (oadd_mono (cyc a ha) (ole_refl _));rw [one_oadd] at s3;exact olt_irrefl hlt (ole_trans c3 (ole_trans s3 s1))
   have cut1 : ∀ p a q, m1 = p ++ a :: q -> a < k /\ ole (oadd (M i a) (M a k)) (M i k) := fun p a q e1 => by
    subst e1;have ha : a < k := a2 a (by simp);refine ⟨ha, ?_⟩;rw [hu, <- a3];have e2 : i :: ((p ++ a :: q) ++ [k]) = (i :: p) ++ a :: (q ++ [k]) := by simp
    rw [e2, way_split];exact oadd_mono (h.le_way (by omega) p i a hi (by omega) (fun b hb => a2 b (by simp [hb]))) (h.le_way (by omega) q a k (by omega) hk (fun b hb => a2 b (by simp [hb])))
   have cut2 : ∀ p a q, m2 = p ++ a :: q -> a < k /\ ole (oadd (M k a) (M a j)) (M k j) := fun p a q e1 => by
    subst e1;have ha : a < k := b2 a (by simp);refine ⟨ha, ?_⟩;rw [hw, <- b3];have e2 : k :: ((p ++ a :: q) ++ [j]) = (k :: p) ++ a :: (q ++ [j]) := by simp
    rw [e2, way_split];exact oadd_mono (h.le_way (by omega) p k a hk (by omega) (fun b hb => b2 b (by simp [hb]))) (h.le_way (by omega) q a j (by omega) hj (fun b hb => b2 b (by simp [hb])))
   have d12 : ∀ a ∈ m1, a ∉ m2 := fun a h1 h2 => by
    obtain ⟨p, q, e1⟩ := List.append_of_mem h1;obtain ⟨p', q', e2⟩ := List.append_of_mem h2;obtain ⟨ha, c1⟩ := cut1 p a q e1;obtain ⟨_, c2⟩ := cut2 p' a q' e2;exact both a (by omega) c1 c2 (h.closed i j a hi hj ha)
   have i2 : i ∉ m2 := fun h2 => by
    obtain ⟨p', q', e2⟩ := List.append_of_mem h2;obtain ⟨_, c2⟩ := cut2 p' i q' e2;have c1 : ole (oadd (M i i) (M i k)) (M i k) := by rw [h.diag i hi, one_oadd]; exact ole_refl _
    exact both i hi c1 c2 (by rw [h.diag i hi, one_oadd]; exact ole_refl _)
   have j1 : j ∉ m1 := fun h1 => by
    obtain ⟨p, q, e1⟩ := List.append_of_mem h1;obtain ⟨_, c1⟩ := cut1 p j q e1;have c2 : ole (oadd (M k j) (M j j)) (M k j) := by rw [h.diag j hj, oadd_one]; exact ole_refl _
    exact both j hj c1 c2 (by rw [h.diag j hj, oadd_one]; exact ole_refl _)
   have k1 : k ∉ m1 := fun c => by have := a2 k c; omega
   have k2 : k ∉ m2 := fun c => by have := b2 k c; omega
   refine ⟨m1 ++ k :: m2, ?_, ?_, ?_⟩
   ·simp only [List.nodup_cons, List.mem_append, List.nodup_append, List.mem_cons, List.not_mem_nil, or_false, List.append_assoc, List.cons_append, ne_eq] at a1 b1 ⊢
    grind
   ·intro a ha
    simp only [List.mem_append, List.mem_cons] at ha;rcases ha with ha | rfl | ha
    ·have := a2 a ha; omega
    ·omega
    ·have := b2 a ha; omega
   ·have e2 : i :: ((m1 ++ k :: m2) ++ [j]) = (i :: m1) ++ k :: (m2 ++ [j]) := by simp
    rw [e2, way_split, <- hv, hu, hw];have a3' : way E ((i :: m1) ++ [k]) = some u := a3;rw [a3', b3]
 ·intro i j a hi hj ha
  have hck : ∀ x y, x < n -> y < n -> ∀ b, b < k -> ole (M x y) (oadd (M x b) (M b y)) := fun x y hx hy b hb => h.closed x y b hx hy hb
  by_cases hak : a = k
  ·subst hak
   rw [thr_col hkk, thr_row hkk];exact thr_by a M i j
  ·have hak' : a < k := by omega
   have han : a < n := by omega
   have c0 := h.closed i j a hi hj hak';have cik := h.closed i k a hi hk hak';have ckj := h.closed k j a hk hj hak';rcases thr_cases k M i a with e1 | ⟨e1, _⟩ <;> rcases thr_cases k M a j with e2 | ⟨e2, _⟩ <;> rw [e1, e2]
   ·exact ole_trans (thr_le k M i j) c0
   ·-- by a to k to j
    refine ole_trans (thr_by k M i j) ?_;rw [<- oadd_assoc];exact oadd_mono cik (ole_refl _)
   ·refine ole_trans (thr_by k M i j) ?_
    rw [oadd_assoc];exact oadd_mono (ole_refl _) ckj
   ·refine ole_trans (thr_by k M i j) ?_
    have s2 : oadd (oadd (M i k) (M k a)) (oadd (M a k) (M k j)) = oadd (M i k) (oadd (oadd (M k a) (M a k)) (M k j)) := by simp only [oadd_assoc]
    rw [s2];have s3 : ole (oadd (M i k) (oadd (some 1) (M k j))) (oadd (M i k) (oadd (oadd (M k a) (M a k)) (M k j))) := oadd_mono (ole_refl _) (oadd_mono (by rw [oadd_comm]; exact cyc a han) (ole_refl _))
    rwa [one_oadd] at s3
def upd (n k : Nat) (L : List Int) (p : Nat) : List Int :=
 if (Bd.add (L[p / n * n + k]?.getD 0) (L[k * n + p % n]?.getD 0)).1 < L[p]?.getD 0 then L.set p (Bd.add (L[p / n * n + k]?.getD 0) (L[k * n + p % n]?.getD 0)).1 else L
def thrL (n k : Nat) (L : List Int) : List Int := (List.range (n * n)).foldl (upd n k) L
theorem upd_length (n k : Nat) (L : List Int) (p : Nat) : (upd n k L p).length = L.length := by unfold upd; split <;> simp
theorem foldl_upd_length (n k : Nat) (ps : List Nat) (L : List Int) : (ps.foldl (upd n k) L).length = L.length := by
 induction ps generalizing L with
 | nil => rfl
 | cons p ps ih => rw [List.foldl_cons, ih, upd_length]
def diagOk (n : Nat) (L : List Int) : Bool := (List.range n).all fun i => decide (1 <= L[i * n + i]?.getD 0)
def mayC (b : Int) : Bool := b == 9223372036854775807 || (decide (-288230376151711744 <= b / 2) && decide (b / 2 <= 288230376151711744))
def chk (n : Int) (L : List Int) : Int := if 1 <= n /\ n <= 4 /\ (L.length : Int) = n * n /\ L.any (fun b => !(mayC b)) = false then 0 else 8
def diag1 (n : Nat) (L : List Int) (i : Nat) : Option (List Int) := if L[i * n + i]?.getD 0 < 1 then none else some (L.set (i * n + i) 1)
def stage (n : Nat) (L : List Int) (k : Nat) : Option (List Int) := if diagOk n (thrL n k L) then some (thrL n k L) else none
def closeL (n : Nat) (L : List Int) : Option (List Int) := ((List.range n).foldlM (diag1 n) L).bind fun L1 => (List.range n).foldlM (stage n) L1
def close (n : Int) (L : List Int) : Int × List Int × Int :=
 if chk n L = 0 then (match closeL n.toNat L with | some L' => (n, L', 0) | none => (0, [], 6)) else (0, [], 8)
theorem diag1_len {n : Nat} {L L' : List Int} {i : Nat} (h : diag1 n L i = some L') : L'.length = L.length := by
 unfold diag1 at h; split at h
 ·cases h
 ·injection h with h; subst h; simp
theorem stage_len {n : Nat} {L L' : List Int} {k : Nat} (h : stage n L k = some L') : L'.length = L.length := by
 unfold stage at h; split at h
 ·injection h with h; subst h; rw [thrL, foldl_upd_length]
 ·cases h
theorem foldlM_len {f : List Int -> Nat -> Option (List Int)} (hf : ∀ {L L' i}, f L i = some L' -> L'.length = L.length) : ∀ {l : List Nat} {L L' : List Int}, l.foldlM f L = some L' -> L'.length = L.length
 | [], L, L', h => by simp at h; rw [h]
 | i :: l, L, L', h => by
   simp only [List.foldlM_cons] at h;cases h1 : f L i with
   | none => rw [h1] at h; cases h
   | some L1 => rw [h1] at h; exact (foldlM_len hf h).trans (hf h1)
theorem chk_iff {n : Int} {L : List Int} : chk n L = 0 ↔ (1 <= n /\ n <= 4 /\ (L.length : Int) = n * n /\ L.any (fun b => !(mayC b)) = false) := by
 unfold chk; split <;> simp_all
theorem chk_cases (n : Int) (L : List Int) : chk n L = 0 \/ chk n L = 8 := by unfold chk; split <;> simp
theorem foldlM_none {f : List Int -> Nat -> Option (List Int)} {L : List Int} {i N : Nat} (h : (List.range (i + 1)).foldlM f L = none) (hi : i < N) : (List.range N).foldlM f L = none := by
 obtain ⟨d, rfl⟩ : ∃ d, N = i + 1 + d := ⟨N - (i + 1), by omega⟩;rw [List.range_add, List.foldlM_append, h]; rfl
end Go.Proofs.YtanhnllkccldhaaGreat.Dbm
namespace Go.Proofs.YtanhnllkccldhaaGreat.Dbm
set_option linter.unusedVariables false
def NO : Int := 9223372036854775807
def ob (b : Int) : OB := if b = NO then none else some b
def mx (N : Nat) (L : List Int) : Mx := fun i j => ob (L[i * N + j]?.getD 0)
def lim (m : Int) (b : Int) : Prop := b = NO \/ (-m <= b / 2 /\ b / 2 <= m)
theorem lim_mono {m m' b : Int} (h : lim m b) (hm : m <= m') : lim m' b := by
 rcases h with h | h
 ·exact .inl h
 ·exact .inr (by omega)
theorem add_eq {u v : Int} (hu : lim 1152921504606846976 u) (hv : lim 1152921504606846976 v) : ob (Bd.add u v).1 = oadd (ob u) (ob v) /\ lim 2305843009213693952 (Bd.add u v).1 := by
 have mu : Bd.may u = true := by
  rcases hu with rfl | h
  ·rfl
  ·exact Bd.may_of (Num.okB_iff.2 (by omega))
 have mv : Bd.may v = true := by
  rcases hv with rfl | h
  ·rfl
  ·exact Bd.may_of (Num.okB_iff.2 (by omega))
 by_cases nu : u = NO
 ·have := Bd.add_none mu mv (.inl nu)
  rw [this]; subst nu; exact ⟨by simp [ob, NO, oadd], .inl rfl⟩
 ·by_cases nv : v = NO
  ·have := Bd.add_none mu mv (.inr nv)
   rw [this]; subst nv; exact ⟨by rw [show ob NO = none from rfl, oadd_none]; rfl, .inl rfl⟩
  ·have hu' := hu.resolve_left nu
   have hv' := hv.resolve_left nv;have := Bd.add_yes mu mv nu nv;rw [this, Bd.made_yes (Num.okB_iff.2 (by omega))];have e1 : Bd.mk (u / 2 + v / 2) (Bd.st u || Bd.st v) = bsum u v := by
    unfold Bd.mk Bd.st bsum;rcases parity u with h1 | h1 <;> rcases parity v with h2 | h2 <;> simp [h1, h2]
   simp only [e1];have e2 : bsum u v ≠ NO := by
    unfold bsum NO;rcases parity u with h1 | h1 <;> rcases parity v with h2 | h2 <;> simp only [h1, h2] <;> omega
   refine ⟨by simp [ob, nu, nv, e2, oadd], .inr ?_⟩;unfold bsum;rcases parity u with h1 | h1 <;> rcases parity v with h2 | h2 <;> simp only [h1, h2] <;> omega
theorem lt_iff {m : Int} (hm : m <= 2305843009213693952) {u v : Int} (hu : lim m u) (hv : lim m v) : u < v ↔ olt (ob u) (ob v) := by
 unfold ob olt;rcases hu with rfl | h1 <;> rcases hv with rfl | h2
 ·simp
 ·have : v ≠ NO := by unfold NO; omega
  simp [this]; unfold NO; omega
 ·have : u ≠ NO := by unfold NO; omega
  simp [this]; unfold NO; omega
 ·have a1 : u ≠ NO := by unfold NO; omega
  have a2 : v ≠ NO := by unfold NO; omega
  simp [a1, a2]
theorem ob_inj {u v : Int} (h : ob u = ob v) : u = v := by
 unfold ob at h;split at h <;> split at h
 ·omega
 ·cases h
 ·cases h
 ·injection h
theorem place_lt {N i j : Nat} (hi : i < N) (hj : j < N) : i * N + j < N * N := by
 calc _ < i * N + N := by omega
  _ = (i + 1) * N := by rw [Nat.succ_mul]
  _ <= N * N := Nat.mul_le_mul_right _ hi
theorem place_div {N i j : Nat} (hj : j < N) : (i * N + j) / N = i := by
 rw [Nat.add_comm, Nat.add_mul_div_right _ _ (by omega), Nat.div_eq_of_lt hj]; omega
theorem place_mod {N i j : Nat} (hj : j < N) : (i * N + j) % N = j := by
 rw [Nat.add_comm, Nat.add_mul_mod_self_right, Nat.mod_eq_of_lt hj]
theorem place_inj {N i j i' j' : Nat} (hj : j < N) (hj' : j' < N) (h : i * N + j = i' * N + j') : i = i' /\ j = j' := by
 have h1 := congrArg (· / N) h;have h2 := congrArg (· % N) h;simp only [place_div hj, place_div hj', place_mod hj, place_mod hj'] at h1 h2;exact ⟨h1, h2⟩
theorem div_lt {N p : Nat} (h : p < N * N) : p / N < N := Nat.div_lt_of_lt_mul h
theorem mod_lt {N p : Nat} (h : p < N * N) : p % N < N := Nat.mod_lt _ (by
 rcases Nat.eq_zero_or_pos N with rfl | h0
 ·simp at h
 ·exact h0)
theorem div_mod {N p : Nat} : p / N * N + p % N = p := Nat.div_add_mod' p N
theorem upd_get {N k : Nat} {L : List Int} {p : Nat} (hp : p < L.length) (q : Nat) : (upd N k L p)[q]?.getD 0 = if q = p then (if (Bd.add (L[p / N * N + k]?.getD 0) (L[k * N + p % N]?.getD 0)).1 < L[p]?.getD 0 then (Bd.add (L[p / N * N + k]?.getD 0) (L[k * N + p % N]?.getD 0)).1 else L[p]?.getD 0) else L[q]?.getD 0 := by
 unfold upd;split
 ·rw [List.getElem?_set]
  by_cases h : p = q
  ·subst h; simp [hp]
  ·rw [if_neg h, if_neg (fun e => h e.symm)]
 ·by_cases h : q = p
  ·subst h; simp
  ·simp [h]
theorem stage_eq {N k : Nat} {L : List Int} (hk : k < N) (hL : L.length = N * N) (hkk : L[k * N + k]?.getD 0 = 1) (hlim : ∀ q, q < N * N -> lim 1152921504606846976 (L[q]?.getD 0)) :
 ∀ n, n <= N * N -> ∀ q, q < N * N -> ob (((List.range n).foldl (upd N k) L)[q]?.getD 0) = (if q < n then thr k (mx N L) (q / N) (q % N) else ob (L[q]?.getD 0)) := by
 intro n
 induction n with
 | zero => intro _ q hq; simp
 | succ n ih =>
   intro hn q hq;have ihn := ih (by omega);rw [List.range_succ, List.foldl_append, List.foldl_cons, List.foldl_nil];generalize hM : (List.range n).foldl (upd N k) L = M at *;have hMl : M.length = N * N := by rw [<- hM, foldl_upd_length, hL]
   have hn' : n < N * N := by omega
   have di := div_lt hn';have mi := mod_lt hn'
   -- the row and the column of k stand as they stood
   have same : ∀ i j, i < N -> j < N -> (i = k \/ j = k) -> M[i * N + j]?.getD 0 = L[i * N + j]?.getD 0 := by
    intro i j hi hj hij;have h1 := ihn (i * N + j) (place_lt hi hj);rw [place_div hj, place_mod hj] at h1;have hd : mx N L k k = some 1 := by unfold mx ob; rw [hkk]; rfl
    have h2 : ob (M[i * N + j]?.getD 0) = ob (L[i * N + j]?.getD 0) := by
     rw [h1]; split
     ·rcases hij with rfl | rfl
      ·exact thr_row hd j
      ·exact thr_col hd i
     ·rfl
    exact ob_inj h2
   rw [upd_get (by omega)]
   by_cases hqn : q = n
   ·subst hqn
    rw [if_pos rfl, show (if q < q + 1 then thr k (mx N L) (q / N) (q % N) else ob (L[q]?.getD 0)) = thr k (mx N L) (q / N) (q % N) from if_pos (by omega)];have e1 := same (q / N) k di hk (.inr rfl);have e2 := same k (q % N) hk mi (.inl rfl);have e3 : M[q]?.getD 0 = L[q]?.getD 0 := ob_inj (by rw [ihn q hq, if_neg (by omega)]);rw [e1, e2, e3];obtain ⟨a1, a2⟩ := add_eq (hlim _ (place_lt di hk)) (hlim _ (place_lt hk mi));have e4 : mx N L (q / N) (q % N) = ob (L[q]?.getD 0) := by unfold mx; rw [div_mod]
    have hlt := lt_iff (m := 2305843009213693952) (by omega) a2 (lim_mono (hlim q hq) (by omega));rw [a1] at hlt;have e5 : mx N L (q / N) k = ob (L[q / N * N + k]?.getD 0) := rfl;have e6 : mx N L k (q % N) = ob (L[k * N + q % N]?.getD 0) := rfl;unfold thr;rw [e4, e5, e6]
    by_cases hc : (Bd.add (L[q / N * N + k]?.getD 0) (L[k * N + q % N]?.getD 0)).1 < L[q]?.getD 0
    ·rw [if_pos hc, if_pos (olt'_iff.2 (hlt.1 hc)), a1]
    ·rw [if_neg hc, if_neg (fun h => hc (hlt.2 (olt'_iff.1 h)))]
   ·rw [if_neg hqn, ihn q hq]
    by_cases h : q < n
    ·rw [if_pos h, if_pos (by omega)]
    ·rw [if_neg h, if_neg (by omega)]
theorem thrL_mx {N k : Nat} {L : List Int} (hk : k < N) (hL : L.length = N * N) (hkk : L[k * N + k]?.getD 0 = 1) (hlim : ∀ q, q < N * N -> lim 1152921504606846976 (L[q]?.getD 0)) {i j : Nat} (hi : i < N) (hj : j < N) : mx N (thrL N k L) i j = thr k (mx N L) i j := by
 have := stage_eq hk hL hkk hlim (N * N) (Nat.le_refl _) (i * N + j) (place_lt hi hj);rw [if_pos (place_lt hi hj), place_div hj, place_mod hj] at this;exact this
theorem nodup_len : ∀ (n : Nat) (l : List Nat), l.Nodup -> (∀ a ∈ l, a < n) -> l.length <= n := by
 intro n
 induction n with
 | zero => intro l _ h; cases l with
   | nil => simp
   | cons a l => exact absurd (h a (by simp)) (by omega)
 | succ n ih =>
   intro l hl h
   by_cases hn : n ∈ l
   ·have h1 := List.length_erase_of_mem hn
    have h2 := ih (l.erase n) (hl.erase n) (fun a ha => by
     have h3 := (hl.mem_erase_iff.1 ha);have := h a h3.2
     omega)
    have := List.length_pos_of_mem hn;omega
   ·have := ih l hl (fun a ha => by
     have h1 := h a ha;rcases Nat.lt_or_ge a n with h2 | h2
     ·exact h2
     ·exact absurd (by (have : a = n := by omega); subst this; exact ha) hn)
    omega
theorem bsum_half (u v : Int) : bsum u v / 2 = u / 2 + v / 2 := by
 unfold bsum;rcases parity u with h1 | h1 <;> rcases parity v with h2 | h2 <;> simp only [h1, h2] <;> omega
theorem way_lim {n : Nat} {E : Mx} {m : Int} (hm : 0 <= m) (hE : ∀ i j v, i < n -> j < n -> E i j = some v -> -m <= v / 2 /\ v / 2 <= m) : ∀ (p : List Nat) (v : Int), (∀ a ∈ p, a < n) -> way E p = some v -> -(m * (p.length - 1 : Nat)) <= v / 2 /\ v / 2 <= m * (p.length - 1 : Nat)
 | [], v, _, h => by simp only [way] at h; injection h with h; subst h; simp
 | [a], v, _, h => by simp only [way] at h; injection h with h; subst h; simp
 | a :: b :: t, v, hp, h => by
   simp only [way] at h;cases hu : E a b with
   | none => rw [hu] at h; cases h
   | some u =>
     cases hx : way E (b :: t) with
     | none => rw [hu, hx] at h; cases h
     | some x =>
       rw [hu, hx] at h;injection h with h;subst h;have h1 := hE a b u (hp a (by simp)) (hp b (by simp)) hu;have h2 := way_lim hm hE (b :: t) x (fun c hc => hp c (List.mem_cons_of_mem a hc)) hx;rw [bsum_half];simp only [List.length_cons, Nat.add_sub_cancel] at h2 ⊢;have e1 : m * ((t.length + 1 : Nat) : Int) = m * (t.length : Int) + m := by rw [Int.natCast_succ, Int.mul_add, Int.mul_one]
       omega
theorem Inv.lim {n k : Nat} {E M : Mx} (h : Inv n k E M) (hk : k <= n) (hn : n <= 4) (hE : ∀ i j v, i < n -> j < n -> E i j = some v -> -288230376151711744 <= v / 2 /\ v / 2 <= 288230376151711744) {i j : Nat} (hi : i < n) (hj : j < n) {v : Int} (hv : M i j = some v) : -864691128455135232 <= v / 2 /\ v / 2 <= 864691128455135232 := by
 by_cases hij : i = j
 ·subst hij; rw [h.diag i hi] at hv; injection hv with hv; subst hv; decide
 ·obtain ⟨mid, h1, h2, h3⟩ := h.wit i j hi hj hij v hv
  have hlt : ∀ a ∈ i :: (mid ++ [j]), a < n := by
   intro a ha;simp only [List.mem_cons, List.mem_append, List.not_mem_nil, or_false] at ha;rcases ha with rfl | ha | rfl
   ·exact hi
   ·have := h2 a ha; omega
   ·exact hj
  have hl := nodup_len n _ h1 hlt;have hw := way_lim (by omega) hE _ v hlt h3;have hl' : ((i :: (mid ++ [j])).length - 1 : Nat) <= 3 := by omega
  generalize ((i :: (mid ++ [j])).length - 1 : Nat) = x at hw hl';omega
theorem mayC_lim {b : Int} (h : mayC b = true) : lim 288230376151711744 b := by
 unfold mayC at h;simp only [Bool.or_eq_true, beq_iff_eq, Bool.and_eq_true, decide_eq_true_eq] at h;exact h
theorem chk_lim {n : Int} {L : List Int} (h : chk n L = 0) (q : Nat) (hq : q < L.length) : lim 288230376151711744 (L[q]?.getD 0) := by
 obtain ⟨_, _, _, h4⟩ := chk_iff.1 h;rw [List.any_eq_false] at h4;have := h4 L[q] (List.getElem_mem hq);rw [List.getElem?_eq_getElem hq];exact mayC_lim (by simpa using this)
theorem diag_spec {N : Nat} {L : List Int} (hL : L.length = N * N) : ∀ (n : Nat) (Ln : List Int), n <= N -> (List.range n).foldlM (diag1 N) L = some Ln -> Ln.length = N * N /\ (∀ i, i < n -> 1 <= L[i * N + i]?.getD 0) /\ ∀ i j, i < N -> j < N -> Ln[i * N + j]?.getD 0 = if i = j /\ i < n then 1 else L[i * N + j]?.getD 0 := by
 intro n
 induction n with
 | zero => intro Ln _ h; simp at h; subst h; exact ⟨hL, fun i hi => by omega, fun i j _ _ => by simp⟩
 | succ n ih =>
   intro Ln hn h;rw [List.range_succ, List.foldlM_append] at h;cases h1 : (List.range n).foldlM (diag1 N) L with
   | none => rw [h1] at h; cases h
   | some M =>
     obtain ⟨a1, a2, a3⟩ := ih M (by omega) h1;rw [h1] at h;have h2 : diag1 N M n = some Ln := by simpa using h
     unfold diag1 at h2;have e0 := a3 n n (by omega) (by omega);rw [if_neg (by omega)] at e0;split at h2
     ·cases h2
     ·rename_i hc
      injection h2 with h2; subst h2;rw [e0] at hc;refine ⟨by simp [a1], fun i hi => ?_, fun i j hi hj => ?_⟩
      ·by_cases e : i = n
       ·subst e; omega
       ·exact a2 i (by omega)
      ·rw [List.getElem?_set]
       by_cases e : n * N + n = i * N + j
       ·obtain ⟨rfl, rfl⟩ := place_inj (by omega) hj e
        rw [if_pos rfl, if_pos (by rw [a1]; exact place_lt (by omega) (by omega)), if_pos ⟨rfl, by omega⟩]; rfl
       ·rw [if_neg e, a3 i j hi hj]
        by_cases e2 : i = j /\ i < n
        ·rw [if_pos e2, if_pos ⟨e2.1, by omega⟩]
        ·rw [if_neg e2, if_neg]
         rintro ⟨rfl, h3⟩;have : i = n := by
          rcases Nat.lt_or_ge i n with h4 | h4
          ·exact absurd ⟨rfl, h4⟩ e2
          ·omega
         subst this;exact e rfl
structure Clo (N : Nat) (C : List Int) : Prop where
 len : C.length = N * N
 diag : ∀ i, i < N -> C[i * N + i]?.getD 0 = 1
 tri : ∀ i j a, i < N -> j < N -> a < N -> ole (mx N C i j) (oadd (mx N C i a) (mx N C a j))
 lim : ∀ i j, i < N -> j < N -> lim 864691128455135232 (C[i * N + j]?.getD 0)
theorem mx_some {N : Nat} {L : List Int} {i j : Nat} {v : Int} (h : mx N L i j = some v) : L[i * N + j]?.getD 0 = v /\ v ≠ NO := by
 unfold mx ob at h;split at h
 ·cases h
 ·rename_i hn
  injection h with h;exact ⟨h, h ▸ hn⟩
theorem lim_q {N : Nat} {L : List Int} {m : Int} (h : ∀ i j, i < N -> j < N -> lim m (L[i * N + j]?.getD 0)) : ∀ q, q < N * N -> lim m (L[q]?.getD 0) := fun q hq => by
 have := h (q / N) (q % N) (div_lt hq) (mod_lt hq)
 rwa [div_mod] at this
theorem inv_lim {N n : Nat} {E : Mx} {M : List Int} (b2 : Inv N n E (mx N M)) (hn : n <= N) (hN4 : N <= 4) (hE : ∀ i j v, i < N -> j < N -> E i j = some v -> -288230376151711744 <= v / 2 /\ v / 2 <= 288230376151711744) : ∀ q, q < N * N -> lim 864691128455135232 (M[q]?.getD 0) :=
 lim_q (fun i j hi hj => by
  cases hv : mx N M i j with
  | none =>
    unfold mx ob at hv;split at hv
    ·rename_i e; exact .inl e
    ·cases hv
  | some v =>
    have h4 := b2.lim hn hN4 hE hi hj hv;obtain ⟨e1, e2⟩ := mx_some hv;rw [e1]; exact .inr h4)
theorem fold_inv {N : Nat} {L1 : List Int} (hN4 : N <= 4) (a1 : L1.length = N * N) (hd1 : ∀ i, i < N -> mx N L1 i i = some 1) (hE : ∀ i j v, i < N -> j < N -> mx N L1 i j = some v -> -288230376151711744 <= v / 2 /\ v / 2 <= 288230376151711744) :
 ∀ (n : Nat) (Cn : List Int), n <= N -> (List.range n).foldlM (stage N) L1 = some Cn -> Cn.length = N * N /\ Inv N n (mx N L1) (mx N Cn) := by
 intro n
 induction n with
 | zero => intro Cn _ hc; simp at hc; subst hc; exact ⟨a1, Inv.start hd1⟩
 | succ n ih =>
   intro Cn hn hc;rw [List.range_succ, List.foldlM_append] at hc;cases h2 : (List.range n).foldlM (stage N) L1 with
   | none => rw [h2] at hc; cases hc
   | some M =>
     obtain ⟨b1, b2⟩ := ih M (by omega) h2;rw [h2] at hc;have h3 : stage N M n = some Cn := by simpa using hc
     unfold stage at h3;split at h3
     case isFalse => cases h3
     rename_i hdok;injection h3 with h3; subst h3;have hlM := inv_lim b2 (by omega) hN4 hE;have hMd : M[n * N + n]?.getD 0 = 1 := (mx_some (b2.diag n (by omega))).1;have hthr : ∀ i j, i < N -> j < N -> mx N (thrL N n M) i j = thr n (mx N M) i j := fun i j hi hj => thrL_mx (by omega) b1 hMd (fun q hq => lim_mono (hlM q hq) (by omega)) hi hj;have hd : ∀ i, i < N -> thr n (mx N M) i i = some 1 := fun i hi => by
      rw [<- hthr i i hi hi];have h5 : 1 <= (thrL N n M)[i * N + i]?.getD 0 := by
       rw [diagOk, List.all_eq_true] at hdok
       simpa using hdok i (List.mem_range.2 hi)
      have h6 := thr_le n (mx N M) i i;rw [<- hthr i i hi hi, b2.diag i hi] at h6;unfold mx ob at h6 ⊢;split at h6
      ·exact h6.elim
      ·rename_i hne
       rw [if_neg hne];have h7 : (thrL N n M)[i * N + i]?.getD 0 <= 1 := h6
       congr 1; omega
     have hstep := b2.step (by omega) hd
     refine ⟨by rw [thrL, foldl_upd_length, b1], ⟨fun i hi => by rw [hthr i i hi hi]; exact hd i hi, fun i j hi hj => by rw [hthr i j hi hj]; exact hstep.low i j hi hj, fun i j hi hj hne v hv => hstep.wit i j hi hj hne v (by rw [<- hthr i j hi hj]; exact hv), fun i j a hi hj ha => by
      rw [hthr i j hi hj, hthr i a hi (by omega), hthr a j (by omega) hj]; exact hstep.closed i j a hi hj ha⟩⟩
theorem close_inv {N : Nat} {L C : List Int} (h0 : chk N L = 0) (h : closeL N L = some C) : ∃ L1, (∀ i, i < N -> 1 <= L[i * N + i]?.getD 0) /\ (∀ i j, i < N -> j < N -> L1[i * N + j]?.getD 0 = if i = j then 1 else L[i * N + j]?.getD 0) /\ Inv N N (mx N L1) (mx N C) /\ C.length = N * N /\
 ∀ i j v, i < N -> j < N -> mx N L1 i j = some v -> -288230376151711744 <= v / 2 /\ v / 2 <= 288230376151711744 := by
 obtain ⟨c1, c2, c3, c4⟩ := chk_iff.1 h0;have hN4 : N <= 4 := by omega
 have hL : L.length = N * N := by exact_mod_cast c3
 unfold closeL at h;cases h1 : (List.range N).foldlM (diag1 N) L with
 | none => rw [h1] at h; cases h
 | some L1 =>
   rw [h1, Option.bind_some] at h;obtain ⟨a1, a2, a3⟩ := diag_spec hL N L1 (Nat.le_refl _) h1;have a3' : ∀ i j, i < N -> j < N -> L1[i * N + j]?.getD 0 = if i = j then 1 else L[i * N + j]?.getD 0 := fun i j hi hj => by
    rw [a3 i j hi hj]
    by_cases e : i = j
    ·rw [if_pos ⟨e, hi⟩, if_pos e]
    ·rw [if_neg (fun h => e h.1), if_neg e]
   have hd1 : ∀ i, i < N -> mx N L1 i i = some 1 := fun i hi => by unfold mx; rw [a3' i i hi hi, if_pos rfl]; rfl
   have hE : ∀ i j v, i < N -> j < N -> mx N L1 i j = some v -> -288230376151711744 <= v / 2 /\ v / 2 <= 288230376151711744 := fun i j v hi hj hv => by
    obtain ⟨e1, e2⟩ := mx_some hv;rw [a3' i j hi hj] at e1;split at e1
    ·subst e1; decide
    ·have := chk_lim h0 (i * N + j) (by rw [hL]; exact place_lt hi hj)
     rw [e1] at this;exact this.resolve_left e2
   obtain ⟨k1, k2⟩ := fold_inv hN4 a1 hd1 hE N C (Nat.le_refl _) h;exact ⟨L1, a2, a3', k2, k1, hE⟩
theorem close_clo {N : Nat} {L C : List Int} (h0 : chk N L = 0) (h : closeL N L = some C) : Clo N C := by
 obtain ⟨L1, a2, a3, inv, hl, hE⟩ := close_inv h0 h;obtain ⟨c1, c2, c3, c4⟩ := chk_iff.1 h0;refine ⟨hl, fun i hi => (mx_some (inv.diag i hi)).1, fun i j a hi hj ha => inv.closed i j a hi hj ha, fun i j hi hj => ?_⟩;cases hv : mx N C i j with
 | none =>
   unfold mx ob at hv;split at hv
   ·rename_i e; exact .inl e
   ·cases hv
 | some v =>
   obtain ⟨e1, e2⟩ := mx_some hv;rw [e1]; exact .inr (inv.lim (Nat.le_refl _) (by omega) hE hi hj hv)
theorem Clo.close {N : Nat} {C : List Int} (h : Clo N C) : closeL N C = some C := by
 have hq := lim_q h.lim;have st : ∀ k, k < N -> stage N C k = some C := fun k hk => by
  have e : thrL N k C = C := by
   apply List.ext_getElem?;intro q;rcases Nat.lt_or_ge q (N * N) with hq1 | hq1
   ·have h1 := stage_eq hk h.len (h.diag k hk) (fun q hq' => lim_mono (hq q hq') (by omega)) (N * N) (Nat.le_refl _) q hq1
    rw [if_pos hq1] at h1;have h2 : thr k (mx N C) (q / N) (q % N) = mx N C (q / N) (q % N) := by
     rcases thr_cases k (mx N C) (q / N) (q % N) with e | ⟨_, e⟩
     ·exact e
     ·exact (olt_irrefl e (h.tri _ _ k (div_lt hq1) (mod_lt hq1) hk)).elim
    have h3 : mx N C (q / N) (q % N) = ob (C[q]?.getD 0) := by unfold mx; rw [div_mod]
    rw [h2, h3] at h1;have h4 := ob_inj h1;have l1 : q < (thrL N k C).length := by rw [thrL, foldl_upd_length, h.len]; exact hq1
    have l2 : q < C.length := by rw [h.len]; exact hq1
    rw [List.getElem?_eq_getElem l1, List.getElem?_eq_getElem l2];change (thrL N k C)[q]?.getD 0 = _ at h4;rw [List.getElem?_eq_getElem l1, List.getElem?_eq_getElem l2] at h4;exact congrArg some h4
   ·rw [List.getElem?_eq_none (by rw [thrL, foldl_upd_length, h.len]; exact hq1), List.getElem?_eq_none (by rw [h.len]; exact hq1)]
  unfold stage;rw [e, if_pos];rw [diagOk, List.all_eq_true];intro i hi;rw [h.diag i (List.mem_range.1 hi)]; decide
 have dg : ∀ i, i < N -> diag1 N C i = some C := fun i hi => by
  unfold diag1;rw [h.diag i hi, if_neg (by omega)]
  congr 1
  apply List.ext_getElem?;intro q;rw [List.getElem?_set]
  by_cases e : i * N + i = q
  ·subst e
   have l2 : i * N + i < C.length := by rw [h.len]; exact place_lt hi hi
   have h1 := h.diag i hi;rw [List.getElem?_eq_getElem l2] at h1;rw [if_pos rfl, if_pos l2, List.getElem?_eq_getElem l2];exact congrArg some h1.symm
  ·rw [if_neg e]
 have all : ∀ (f : List Int -> Nat -> Option (List Int)) (n : Nat), (∀ i, i < n -> f C i = some C) -> (List.range n).foldlM f C = some C := by
  intro f n
  induction n with
  | zero => intro _; rfl
  | succ n ih =>
    intro hf;rw [List.range_succ, List.foldlM_append, ih (fun i hi => hf i (by omega))];simp [hf n (by omega)]
 unfold closeL;rw [all _ N dg, Option.bind_some, all _ N st]
end Go.Proofs.YtanhnllkccldhaaGreat.Dbm
namespace Go.Proofs.YtanhnllkccldhaaGreat
set_option linter.unusedVariables false
set_option linter.unusedSimpArgs false
set_option maxRecDepth 100000
section
namespace Fr
open Dbm
def v (a : Rt) : Rat := (a.num : Rat) / (a.den : Rat)
def sat (d : Rat) (b : Int) : Prop := b = NO \/ (if Bd.st b = true then d < ((b / 2 : Int) : Rat) else d <= ((b / 2 : Int) : Rat))
theorem cmpI_lt {x y : Int} : cmpI x y < 0 ↔ x < y := by
 unfold cmpI; split
 ·simp [*]
 ·split <;> simp [*]
theorem cmpI_zero {x y : Int} : cmpI x y = 0 ↔ x = y := by
 unfold cmpI; split
 ·constructor <;> intro h
  ·cases h
  ·omega
 ·split
  ·constructor <;> intro h
   ·cases h
   ·omega
  ·constructor <;> intro h <;> omega
theorem sign_eq {a b : Rt} (ha : a.ok = true) (hb : b.ok = true) (c : Int) :
 (sign (a.num / a.den - b.num / b.den) c (rest a b) < 0 ↔ a.num * b.den - b.num * a.den < c * (a.den * b.den)) /\ (sign (a.num / a.den - b.num / b.den) c (rest a b) = 0 ↔ a.num * b.den - b.num * a.den = c * (a.den * b.den)) := by
 have oa := ok_bd ha;have ob := ok_bd hb;have e1 : a.num = a.den * (a.num / a.den) + a.num % a.den := (Int.mul_ediv_add_emod a.num a.den).symm;have e2 : b.num = b.den * (b.num / b.den) + b.num % b.den := (Int.mul_ediv_add_emod b.num b.den).symm;have hD : 1 <= a.den * b.den := by
  have := Int.mul_le_mul (a := 1) (b := 1) oa.1 ob.1 (by omega) (by omega);omega
 have r1 : 0 <= a.num % a.den * b.den := Int.mul_nonneg oa.2.2.2.2.1 (by omega);have r2 : 0 <= b.num % b.den * a.den := Int.mul_nonneg ob.2.2.2.2.1 (by omega);have r3 : a.num % a.den * b.den < a.den * b.den := Int.mul_lt_mul_of_pos_right oa.2.2.2.2.2 (by omega);have r4 : b.num % b.den * a.den < a.den * b.den := by rw [Int.mul_comm a.den b.den]; exact Int.mul_lt_mul_of_pos_right ob.2.2.2.2.2 (by omega)
 have key : a.num * b.den - b.num * a.den - c * (a.den * b.den) = (a.num / a.den - b.num / b.den - c) * (a.den * b.den) + (a.num % a.den * b.den - b.num % b.den * a.den) := by
  generalize a.num / a.den = x at *;generalize b.num / b.den = y at *;generalize a.num % a.den = r at *;generalize b.num % b.den = s at *;rw [e1, e2]; grind
 unfold sign rest;generalize a.num / a.den - b.num / b.den = q at *;generalize a.num % a.den * b.den = r at *;generalize b.num % b.den * a.den = s at *;generalize a.den * b.den = D at *;rcases Int.lt_trichotomy q c with h | h | h
 ·have hc : cmpI q c < 0 := cmpI_lt.2 h
  have hm : (q - c) * D <= (-1) * D := Int.mul_le_mul_of_nonneg_right (by omega) (by omega);rw [if_pos (by omega)];omega
 ·have hc : cmpI q c = 0 := cmpI_zero.2 h
  subst h;rw [hc, if_neg (by simp), cmpI_lt, cmpI_zero];rw [Int.sub_self, Int.zero_mul] at key;omega
 ·have hc : ¬ cmpI q c < 0 := fun hh => by have := cmpI_lt.1 hh; omega
  have hc2 : cmpI q c ≠ 0 := fun hh => by have := cmpI_zero.1 hh; omega
  have hm : 1 * D <= (q - c) * D := Int.mul_le_mul_of_nonneg_right (by omega) (by omega);rw [if_pos hc2];omega
theorem v_sub {a b : Rt} (ha : a.ok = true) (hb : b.ok = true) : v a - v b = ((a.num * b.den - b.num * a.den : Int) : Rat) / ((a.den * b.den : Int) : Rat) := by
 have oa := ok_bd ha;have ob := ok_bd hb;unfold v;have h1 : (a.den : Rat) ≠ 0 := by
  intro h; have : a.den = 0 := by exact_mod_cast h
  omega
 have h2 : (b.den : Rat) ≠ 0 := by
  intro h; have : b.den = 0 := by exact_mod_cast h
  omega
 rw [Rat.intCast_sub, Rat.intCast_mul, Rat.intCast_mul, Rat.intCast_mul]
 grind
theorem den_pos {a b : Rt} (ha : a.ok = true) (hb : b.ok = true) : (0 : Rat) < ((a.den * b.den : Int) : Rat) := by
 have oa := ok_bd ha;have ob := ok_bd hb;have : 0 < a.den * b.den := Int.mul_pos (by omega) (by omega)
 exact_mod_cast this
theorem keeps_sat {a b : Rt} (ha : a.ok = true) (hb : b.ok = true) {x : Int} (hx : Bd.may x = true) : (keeps a b x).1 = true ↔ sat (v a - v b) x := by
 unfold keeps sat;rw [ha, hb, hx];simp only [Bool.and_self, if_true]
 by_cases h : x = 9223372036854775807
 ·rw [if_pos h]
  exact ⟨fun _ => .inl h, fun _ => rfl⟩
 ·rw [if_neg h]
  simp only;obtain ⟨s1, s2⟩ := sign_eq ha hb (x / 2);have hD := den_pos ha hb;rw [v_sub ha hb];have e1 : ((a.num * b.den - b.num * a.den : Int) : Rat) / ((a.den * b.den : Int) : Rat) < ((x / 2 : Int) : Rat) ↔ a.num * b.den - b.num * a.den < x / 2 * (a.den * b.den) := by
   rw [Rat.div_lt_iff hD, <- Rat.intCast_mul, Rat.intCast_lt_intCast]
  have e2 : ((a.num * b.den - b.num * a.den : Int) : Rat) / ((a.den * b.den : Int) : Rat) <= ((x / 2 : Int) : Rat) ↔ a.num * b.den - b.num * a.den <= x / 2 * (a.den * b.den) := by
   rw [<- Rat.not_lt, Rat.lt_div_iff hD, <- Rat.intCast_mul, Rat.intCast_lt_intCast]; omega
  have hno : ¬ x = NO := h;unfold kept;simp only [Bool.or_eq_true, Bool.and_eq_true, decide_eq_true_eq, Bool.not_eq_true'];rw [s1, s2];cases hs : Bd.st x
  ·simp only [Bool.false_eq_true, if_false, hno, false_or, and_true]
   rw [e2]; omega
  ·simp only [if_true, hno, false_or]
   rw [e1];simp
end Fr
namespace Fr
theorem ins_zero : (⟨0, 0⟩ : Rt).ins := by simp [Rt.ins, Eng.inK]
theorem ins_den {d : Int} (h : 1 <= d /\ d <= 1048576) : Eng.inK .i64 d := by simp only [Eng.inK]; omega
theorem low_ins {n d : Int} (hn : Eng.inK .i64 n) (hd : 1 <= d) : (low n d).1.ins := by
 unfold low;split
 ·rename_i h
  have hg : 1 <= (Int.gcd n d : Int) := by
   have : 0 < Int.gcd n d := Int.gcd_pos_of_ne_zero_right _ (by omega);omega
  exact ⟨ediv_in hg hn, ins_den (ok_den h)⟩
 ·exact ins_zero
theorem of_ins {n d : Int} (hn : Eng.inK .i64 n) : (of n d).1.ins := by
 unfold of;split
 ·exact ins_zero
 ·exact low_ins hn (by omega)
theorem sum_ins {a b : Rt} {k : Int} : (sum a b k).1.ins := by
 unfold sum;split
 ·rename_i h
  refine ⟨?_, ins_den (ok_den h.1)⟩;have := h.2;simp only [inI, Bool.and_eq_true, decide_eq_true_eq] at this;simp only [Eng.inK]; exact this
 ·exact ins_zero
theorem add_ins {a b : Rt} : (add a b).1.ins := by
 unfold add;split
 ·exact sum_ins
 ·exact ins_zero
def shift (a : Rt) (n : Int) : Rt := (add a (of n 1).1).1
end Fr
namespace Incl
structure End where
 is : Bool
 at_ : Rt
 strict : Bool
def End.none : End := ⟨false, ⟨0, 0⟩, false⟩
def nearer (x : End) (b : Int) (from_ : Rt) (s : Int) : End :=
 if (Bd.value b).2.2 ≠ 0 then x
 else if x.is = false \/ 0 < (Fr.cmp (Fr.shift from_ (-s * (Bd.value b).1)) x.at_).1 * s then ⟨true, Fr.shift from_ (-s * (Bd.value b).1), (Bd.value b).2.1⟩
 else if (Fr.cmp (Fr.shift from_ (-s * (Bd.value b).1)) x.at_).1 = 0 then ⟨x.is, x.at_, x.strict || (Bd.value b).2.1⟩ else x
def ends (n : Nat) (C : List Int) (so : List Rt) : Nat -> End × End
 | 0 => (End.none, End.none)
 | k + 1 => (nearer (ends n C so k).1 (C[k * n + so.length]?.getD 0) (so[k]?.getD ⟨0, 1⟩) 1, nearer (ends n C so k).2 (C[so.length * n + k]?.getD 0) (so[k]?.getD ⟨0, 1⟩) (-1))
def choose (l h : End) : Rt :=
 if l.is = true /\ l.strict = false then l.at_ else if h.is = true /\ h.strict = false then h.at_
 else if l.is = true /\ h.is = true then (Fr.mid l.at_ h.at_).1 else if l.is = true then Fr.shift l.at_ 1 else if h.is = true then Fr.shift h.at_ (-1) else ⟨0, 1⟩
def pick (n : Nat) (C : List Int) (so : List Rt) : Rt := choose (ends n C so so.length).1 (ends n C so so.length).2
def sofar (n : Nat) (C : List Int) : Nat -> List Rt
 | 0 => [⟨0, 1⟩]
 | k + 1 => sofar n C k ++ [pick n C (sofar n C k)]
def picked (n : Nat) (C : List Int) : List Rt := (sofar n C (n - 1)).drop 1
def picks (n : Int) (L : List Int) : List Rt × Int :=
 if Dbm.chk n L = 0 then (match Dbm.closeL n.toNat L with | none => ([], 6) | some C => (picked n.toNat C, 0)) else ([], 8)
end Incl
structure Pt where
 t : Rt
 u : Rt
deriving DecidableEq
def Pt.ins (p : Pt) : Prop := p.t.ins /\ p.u.ins
namespace Rg
def fits (long : Int) : Bool := decide (1 <= long) && decide (long <= 16)
def sides (long : Int) : Int := 2 * long + 1
def many (long : Int) : Int × Int := if fits long = true then (3 * sides long * sides long, 0) else (0, 2)
def part (a : Rt) : Rt := (Fr.add a (Fr.of (-(Fr.floor a).1) 1).1).1
def place (a : Rt) : Int := if (part a).num = 0 then 2 * (Fr.floor a).1 else 2 * (Fr.floor a).1 + 1
def order (p : Pt) : Int := if place p.t % 2 = 1 /\ place p.u % 2 = 1 then 1 + (Fr.cmp (part p.t) (part p.u)).1 else 1
def number (p : Pt) (long : Int) : Int :=
 if 0 <= (Fr.cmp p.t p.u).1 \/ place p.t < 0 \/ sides long <= place p.u then -1 else 3 * (place p.t * sides long + place p.u) + order p
def askNumber (p : Pt) (long : Int) : Int × Int :=
 if fits long = true then (if p.t.ok = true /\ p.u.ok = true then (if number p long < 0 then (0, 6) else (number p long, 0)) else (0, 8)) else (0, 2)
def time (pl pa of_ : Int) : Rt := if pl % 2 = 0 then (Fr.of (pl / 2) 1).1 else (Fr.of (pl / 2 * of_ + pa) of_).1
def parts (r : Int) : Int × Int × Int := if r = 0 then (1, 2, 3) else if r = 1 then (1, 1, 2) else (2, 1, 3)
def pt (n long : Int) : Pt := ⟨time (n / 3 / sides long) (parts (n % 3)).1 (parts (n % 3)).2.2, time (n / 3 % sides long) (parts (n % 3)).2.1 (parts (n % 3)).2.2⟩
def point (n long : Int) : Pt × Bool := (pt n long, decide (number (pt n long) long = n))
def zero : Pt := ⟨⟨0, 0⟩, ⟨0, 0⟩⟩
def askPoint (n long : Int) : Pt × Int :=
 if (many long).2 ≠ 0 \/ n < 0 \/ (many long).1 <= n then (zero, 2) else if (point n long).2 = true then (pt n long, 0) else (zero, 6)
theorem part_ins (a : Rt) : (part a).ins := Fr.add_ins
theorem time_ins {pl pa of_ : Int} (h : 0 <= pl /\ pl <= 1000) (hp : 0 <= pa /\ pa <= 10) (ho : 1 <= of_ /\ of_ <= 10) : (time pl pa of_).ins := by
 have hm := Fr.mul_bd (u := pl / 2) (v := of_) (m := 1000) (n := 10) (by omega) (by omega) (by omega) (by omega);unfold time;split
 ·exact Fr.of_ins (by simp only [Eng.inK]; omega)
 ·exact Fr.of_ins (by simp only [Eng.inK]; omega)
theorem fits_iff {long : Int} : fits long = true ↔ 1 <= long /\ long <= 16 := by simp [fits]
theorem cmp_lt {a b : Rt} (h : (Fr.cmp a b).1 < 0) : a.ok = true /\ b.ok = true /\ a.num * b.den < b.num * a.den := by
 unfold Fr.cmp at h;split at h
 ·rename_i h0
  exact ⟨h0.1, h0.2, Fr.cmpI_lt.1 h⟩
 ·simp at h
theorem floor_le {a b : Rt} (h : (Fr.cmp a b).1 < 0) : (Fr.floor a).1 <= (Fr.floor b).1 := by
 obtain ⟨ha, hb, hlt⟩ := cmp_lt h;have oa := Fr.ok_bd ha;have ob := Fr.ok_bd hb;have e1 : (Fr.floor a).1 = a.num / a.den := by unfold Fr.floor; rw [if_pos ha]
 have e2 : (Fr.floor b).1 = b.num / b.den := by unfold Fr.floor; rw [if_pos hb]
 rw [e1, e2]
 -- were it not, the difference would be too great
 rcases Int.lt_or_le (b.num / b.den) (a.num / a.den) with hc | hc
 ·exfalso
  have f1 : a.num = a.den * (a.num / a.den) + a.num % a.den := (Int.mul_ediv_add_emod a.num a.den).symm;have f2 : b.num = b.den * (b.num / b.den) + b.num % b.den := (Int.mul_ediv_add_emod b.num b.den).symm;have hD : 0 < a.den * b.den := Int.mul_pos (by omega) (by omega);have r1 : 0 <= a.num % a.den * b.den := Int.mul_nonneg oa.2.2.2.2.1 (by omega);have r4 : b.num % b.den * a.den < a.den * b.den := by rw [Int.mul_comm a.den b.den]; exact Int.mul_lt_mul_of_pos_right ob.2.2.2.2.2 (by omega)
  have hm : 1 * (a.den * b.den) <= (a.num / a.den - b.num / b.den) * (a.den * b.den) := Int.mul_le_mul_of_nonneg_right (by omega) (by omega);have key : a.num * b.den - b.num * a.den = (a.num / a.den - b.num / b.den) * (a.den * b.den) + (a.num % a.den * b.den - b.num % b.den * a.den) := by
   generalize a.num / a.den = x at *;generalize b.num / b.den = y at *;generalize a.num % a.den = r at *;generalize b.num % b.den = s at *;rw [f1, f2]; grind
  omega
 ·exact hc
theorem place_bd {p : Pt} (h : (Fr.cmp p.t p.u).1 < 0) : place p.t <= place p.u + 1 := by
 have := floor_le h;unfold place;split <;> split <;> omega
end Rg
end
section
open Go.ChangeShapes Go.WideShapes Go.ChangeAt Go.RowKit Go.Deep Go.Proofs.YtanhnllkccldhaaGreat.Eng
instance encPt : Enc Pt := ⟨fun x => [.int .i64 x.t.num, .int .i64 x.t.den, .int .i64 x.u.num, .int .i64 x.u.den], 4, fun _ => rfl, by decide,
 fun _ v hv => by simp only [List.mem_cons, List.not_mem_nil, or_false] at hv; rcases hv with rfl | rfl | rfl | rfl <;> rfl, fun x => .agg #[.int .i64 x.t.num, .int .i64 x.t.den, .int .i64 x.u.num, .int .i64 x.u.den]⟩
section
variable {H : Type} {en : TypeId × Value -> H} {P : Program}
end
end
section
def idxF {α : Type} (p : α -> Bool) : List α -> Int
 | [] => -1
 | x :: l => if p x then 0 else if idxF p l < 0 then -1 else idxF p l + 1
def cntF {α : Type} (p : α -> Bool) : List α -> Nat
 | [] => 0
 | x :: l => if p x then 1 else cntF p l + 1
theorem idxF_at {α : Type} (p : α -> Bool) : ∀ (l : List α) (k : Nat) (x : α), l[k]? = some x -> p x = true -> (∀ j y, j < k -> l[j]? = some y -> p y = false) -> idxF p l = k /\ cntF p l = k + 1
 | [], k, x, h, _, _ => by simp at h
 | y :: l, 0, x, h, hp, _ => by
   injection h with h; subst h;simp [idxF, cntF, hp]
 | y :: l, k + 1, x, h, hp, hn => by
   have h0 := hn 0 y (by omega) rfl;obtain ⟨h1, h2⟩ := idxF_at p l k x h hp fun j z hj hz => hn (j + 1) z (by omega) hz;simp only [idxF, cntF, h0, h1, h2]
   simp; omega
theorem idxF_none {α : Type} (p : α -> Bool) : ∀ (l : List α), (∀ (j : Nat) y, l[j]? = some y -> p y = false) -> idxF p l = -1 /\ cntF p l = l.length
 | [], _ => by simp [idxF, cntF]
 | y :: l, hn => by
   have h0 := hn 0 y rfl;obtain ⟨h1, h2⟩ := idxF_none p l fun j z hz => hn (j + 1) z hz;simp [idxF, cntF, h0, h1, h2]
theorem idxF_iff {α : Type} (p : α -> Bool) (l : List α) : 0 <= idxF p l ↔ l.any p = true := by
 induction l with
 | nil => simp [idxF]
 | cons x l ih =>
   unfold idxF;rw [List.any_cons];split
   ·rename_i h; simp [h]
   ·rename_i h
    have h' : p x = false := by simpa using h
    rw [h', Bool.false_or, <- ih];split <;> constructor <;> intro <;> omega
theorem idxF_any {α : Type} (p : α -> Bool) (l : List α) : decide (0 <= idxF p l) = l.any p := by
 rw [Bool.eq_iff_iff, decide_eq_true_iff]; exact idxF_iff p l
end
section
open Go.RowKit Go.Proofs.YtanhnllkccldhaaGreat.Eng Enc
theorem indexB_any (l : List Int) (p : Int -> Bool) (a : Option Addr) (cap : Nat) (fid : FuncId) (caps : Array Value) (B : Nat) (w : World) (hB : B <= w.heap.size) (hS : Sl B w (.slice a l.length cap) l)
 (T : Nat -> World -> Prop) (h0 : T 0 w) (hst : ∀ k W W', T k W -> Below W.heap.size W W' -> T k W') (en : Enters Tryz.prog fid)
 (hcall : ∀ k x W, l[k]? = some x -> Below B w W -> T k W -> Calls Tryz.prog fid (val x :: caps.toList).toArray W fun e W' => e = .returned (.bool (p x)) /\ Below B W W' /\ T (k + 1) W') :
 Calls Tryz.prog 163 #[.slice a l.length cap, .func (.func fid) #[] caps] w fun e w' => ∃ v, e = .returned v /\ Below B w w' /\ v = .int .i64 (idxF p l) /\ T (cntF p l) w' := by
 obtain ⟨a', cap', e', hcap, hmax, _⟩ := hS.form;injection e' with e1 e2 e3;subst e1; subst e3;unfold maxLen at hmax;refine fun_at 0 B w hB Tryz.func163 (args := [.val (.slice a l.length cap), .val (.func (.func fid) #[] caps)]) rfl rfl ?_;refine LoopI.inv (α := Nat × World) (fun x => [(8, .val (.int .i64 x.1))]) (fun _ => []) (fun x => x.2) (fun x => x.1 <= l.length /\ T x.1 x.2 /\ Below B w x.2 /\ ∀ j y, j < x.1 -> l[j]? = some y -> p y = false) (fun x => l.length - x.1) ?_ ?_
 ·intro w1 h1
  exact ⟨(0, w1), Cov.au rfl rfl rfl rfl rfl, rfl, Nat.zero_le _, hst _ _ _ h0 h1.go, h1.below, fun j y hj => by omega⟩
 ·rintro ⟨k, W⟩ ⟨hk, hT, hBw, hno⟩
  refine Branch.mk (fun hb => ?_) (fun hb => ?_)
  ·have hlt : k < l.length := by simpa using hb
   obtain ⟨x, hx⟩ : ∃ x, l[k]? = some x := ⟨l[k], List.getElem?_eq_getElem hlt⟩;refine hS.idx hx fun ad had => ?_;refine hS.ld1 hx had hBw (by simp) ?_;refine Need.mk en ?_;refine CallI.mk fun w1 h1 => ?_;have hT1 := hst _ _ _ hT h1.go;refine (hcall k x w1 hx h1.below hT1).mono ?_;rintro e w2 ⟨rfl, hB2, hT2⟩;refine ⟨⟨hB2, by simp⟩, _, rfl, ?_⟩;refine Branch.mk (fun hp => ?_) (fun hp => ?_)
   ·refine EndI.mk fun w3 h3 => ?_
    obtain ⟨i1, i2⟩ := idxF_at p l k x hx hp hno;refine ⟨by rw [i1], by rw [i2]; exact hst _ _ _ hT2 h3.go⟩
   ·refine Need.mk (by show _ /\ _; omega) (EndI.mk fun w3 h3 => ?_)
    refine ⟨(k + 1, w3), Cov.au rfl rfl rfl rfl rfl, rfl, ⟨hlt, hst _ _ _ hT2 h3.go, h3.below, fun j y hj hy => ?_⟩, by simp only; omega⟩
    by_cases hjk : j = k
    ·subst hjk; rw [hx] at hy; injection hy with hy; subst hy; exact hp
    ·exact hno j y (by omega) hy
  ·have hge : k = l.length := by (have : ¬ k < l.length := by simpa using hb); omega
   subst hge;refine EndI.mk fun w3 h3 => ?_;obtain ⟨i1, i2⟩ := idxF_none p l fun j y hy => hno j y (List.getElem?_eq_some_iff.1 hy).1 hy;exact ⟨by rw [i1], by rw [i2]; exact hst _ _ _ hT h3.go⟩
theorem containsB_any (l : List Int) (p : Int -> Bool) (a : Option Addr) (cap : Nat) (fid : FuncId) (caps : Array Value) (B : Nat) (w : World) (hB : B <= w.heap.size) (hS : Sl B w (.slice a l.length cap) l)
 (T : Nat -> World -> Prop) (h0 : T 0 w) (hst : ∀ k W W', T k W -> Below W.heap.size W W' -> T k W') (en : Enters Tryz.prog fid)
 (hcall : ∀ k x W, l[k]? = some x -> Below B w W -> T k W -> Calls Tryz.prog fid (val x :: caps.toList).toArray W fun e W' => e = .returned (.bool (p x)) /\ Below B W W' /\ T (k + 1) W') :
 Calls Tryz.prog 115 #[.slice a l.length cap, .func (.func fid) #[] caps] w fun e w' => ∃ v, e = .returned v /\ Below B w w' /\ v = .bool (l.any p) /\ T (cntF p l) w' := by
 refine fun_at 0 B w hB Tryz.func115 (args := [.val (.slice a l.length cap), .val (.func (.func fid) #[] caps)]) rfl rfl ?_;refine CallI.mk fun w1 h1 => ?_;have hB1 : B <= w1.heap.size := Nat.le_trans hB h1.size;refine (indexB_any l p a cap fid caps B w1 hB1 (hS.below h1.below) T (hst _ _ _ h0 h1.go) hst en fun k x W hx hW hT => hcall k x W hx (h1.below.trans hW) hT).mono ?_;rintro e w2 ⟨v, rfl, hB2, rfl, hT⟩;refine ⟨⟨hB2, by simp⟩, _, rfl, ?_⟩;refine EndI.mk fun w3 h3 => ⟨?_, hst _ _ _ hT h3.go⟩;rw [<- idxF_any]
theorem containsB_pure (l : List Int) (p : Int -> Bool) (a : Option Addr) (cap : Nat) (fid : FuncId) (caps : Array Value) (w : World) (hS : Sl w.heap.size w (.slice a l.length cap) l) (en : Enters Tryz.prog fid)
 (hcall : ∀ x W, x ∈ l -> Below w.heap.size w W -> Calls Tryz.prog fid (val x :: caps.toList).toArray W fun e W' => e = .returned (.bool (p x)) /\ Below W.heap.size W W') :
 Calls Tryz.prog 115 #[.slice a l.length cap, .func (.func fid) #[] caps] w fun e w' => e = .returned (.bool (l.any p)) /\ Below w.heap.size w w' := by
 refine (containsB_any l p a cap fid caps w.heap.size w (Nat.le_refl _) hS (fun _ _ => True) trivial (fun _ _ _ _ _ => trivial) en fun k x W hx hB _ => ?_).mono ?_
 ·refine (hcall x W (List.mem_of_getElem? hx) hB).mono ?_
  rintro e W' ⟨rfl, hB'⟩;exact ⟨rfl, hB'.mono hB.size, trivial⟩
 ·rintro e w' ⟨v, rfl, hB, rfl, _⟩
  exact ⟨rfl, hB⟩
theorem elB : ElOk Tryz.prog 79 84 1 8 := elOk (z := .int .i64 0) Tryz.underlying79 (by kernel_rfl) rfl (by decide)
theorem cloneB_any (l : List Int) (a : Option Addr) (cap : Nat) (w : World) (hS : Sl w.heap.size w (.slice a l.length cap) l) (hlen : l.length <= 1000000) :
 Calls Tryz.prog 165 #[.slice a l.length cap] w (Ret w fun v w' => Own 84 w.heap.size w' v l) := by
 refine fun_ret 0 w Tryz.func165 (args := [.val (.slice a l.length cap)]) rfl rfl ?_;refine GenV.to (fun w1 => Lib.run_eql_slice_nil w1 79 84 a l.length cap 0 0 Tryz.underlying79) fun w1 h1 => ?_;refine Branch.mk (fun hb => ?_) (fun hb => ?_)
 ·refine EndI.mk fun w2 h2 => ?_
  have ha : a = none := by cases a <;> simp_all
  obtain ⟨a', cap', e', hcap, hmax, hn⟩ := hS.form;injection e' with e1 e2 e3;subst e1; subst e3;have h0 := hn ha;obtain rfl : l = [] := List.eq_nil_of_length_eq_zero (by omega);exact Own.nil
 ·refine NewI.mk fun b hb1 => ?_
  have hsrc : ∀ w2, At ⟨w, w.heap.size, Nat.le_refl _⟩ [⟨[], 84⟩] [b] [] w1 w2 -> SrcC w2 (.slice a l.length cap) 1 l.length (cellsL l) := fun w2 h2 => (hS.below h2.below).src;refine GenN.appF (α := Int) elB [] l w.heap.size rfl (fun w2 h2 => ?_) hsrc ?_ ?_ (fun w2 h2 => h2.below.size) fun v' w2 w3 h2 hB ho => ?_
  ·exact ⟨rfl, .inr ⟨b, 0, #[], rfl, h2.fresh b (by simp), h2.blk 0 b _ rfl rfl, Nat.le_refl _, by simp [maxLen], rfl, rfl⟩⟩
  ·simp [maxLen]; omega
  ·simp; omega
  ·exact EndI.mk fun w4 h4 => ho.below h4.go
theorem Dbm.value_spec (b : Int) : ((b / 2 < -2305843009213693952 \/ 2305843009213693952 < b / 2) /\ b ≠ 9223372036854775807 /\ Bd.value b = (0, false, 8)) \/ (b = 9223372036854775807 /\ Bd.value b = (0, false, 6)) \/ (b ≠ 9223372036854775807 /\ Bd.value b = (b / 2, Bd.st b, 0)) := by
 by_cases hn : b = 9223372036854775807
 ·subst hn; exact .inr (.inl ⟨rfl, Bd.value_none⟩)
 ·cases hm : Bd.may b with
  | true => exact .inr (.inr ⟨hn, Bd.value_yes hm hn⟩)
  | false =>
    refine .inl ⟨?_, hn, Bd.value_bad hm⟩;have h2 : Num.okB (b / 2) = false := by simpa [Bd.may, hn] using hm
    exact Num.okB_no.1 h2
theorem dmay_any (b : Int) (w : World) :
 Calls Tryz.prog 117 #[.int .i64 b] w fun e w' => e = .returned (.bool (Dbm.mayC b)) /\ Below w.heap.size w w' := by
 refine fun_eq 0 w Tryz.func117 (args := [.val (.int .i64 b)]) rfl rfl ?_
 repeat' (first
  | (refine CallI.to1 (value_any _) fun w2 => ?_)
  | (refine Branch.yes rfl ?_)
  | (refine Branch.no rfl ?_)
  | (refine Branch.mk (fun hb => ?_) (fun hb => ?_))
  | (refine NewI.mk fun nb hnb => ?_)
  | (refine Need.mk (by show _ /\ _; omega) ?_)
  | (refine Need.mk (by omega) ?_)
  | (refine Need.mk ?_ ?_)
  | (refine EndI.mk fun w1 h1 => ?_))
 all_goals
  congr 1
  clear h1;simp only [Dbm.mayC];rcases Dbm.value_spec b with ⟨k1, k2, hv⟩ | ⟨k1, hv⟩ | ⟨k1, hv⟩ <;> simp only [hv, decide_eq_true_eq, decide_eq_false_iff_not] at * <;> grind
theorem check1_any (b : Int) (w : World) :
 Calls Tryz.prog 116 #[.int .i64 b] w fun e w' => e = .returned (.bool (!(Dbm.mayC b))) /\ Below w.heap.size w w' := by
 refine fun_eq 0 w Tryz.func116 (args := [.val (.int .i64 b)]) rfl rfl ?_
 repeat' (first
  | (refine CallI.to1 (dmay_any _) fun w2 => ?_)
  | (refine Branch.yes rfl ?_)
  | (refine Branch.no rfl ?_)
  | (refine Branch.mk (fun hb => ?_) (fun hb => ?_))
  | (refine NewI.mk fun nb hnb => ?_)
  | (refine Need.mk (by show _ /\ _; omega) ?_)
  | (refine Need.mk (by omega) ?_)
  | (refine Need.mk ?_ ?_)
  | (refine EndI.mk fun w1 h1 => ?_))
 rfl
theorem dcheck_any (n : Int) (a : Option Addr) (cap : Nat) (L : List Int) (w : World) (hS : Sl w.heap.size w (.slice a L.length cap) L) :
 Calls Tryz.prog 74 #[.agg #[.int .i64 n, .slice a L.length cap]] w fun e w' => e = .returned (.int .i64 (Dbm.chk n L)) /\ Below w.heap.size w w' := by
 refine fun_eq 0 w Tryz.func74 (args := [.agg [.val (.int .i64 n), .val (.slice a L.length cap)]]) rfl rfl ?_;have sq : ∀ h1 : ¬ n < 1, ¬ n > 4 -> 1 <= n * n /\ n * n <= 16 := fun h1 h2 => by
  rcases (by omega : n = 1 \/ n = 2 \/ n = 3 \/ n = 4) with rfl | rfl | rfl | rfl <;> simp
 repeat' (first
  | (apply CallI.use1; (focus (exact fun w1 h1 => containsB_pure L (fun b => !(Dbm.mayC b)) a cap 116 #[] w1 (Sl.at h1 hS) Tryz.call116 fun x W _ _ => check1_any x W)); intro w1 w2 h1 hB)
  | (refine Branch.yes rfl ?_)
  | (refine Branch.no rfl ?_)
  | (refine Branch.mk (fun hb => ?_) (fun hb => ?_))
  | (refine NewI.mk fun nb hnb => ?_)
  | (refine Need.mk (by show _ /\ _; omega) ?_)
  | (refine Need.mk (by omega) ?_)
  | (refine Need.mk ?_ ?_)
  | (refine EndI.mk fun w1 h1 => ?_))
 all_goals try (show _ /\ _; have := sq (by simpa using ‹decide (n < 1) = false›) (by simpa using ‹decide (4 < n) = false›); omega)
 all_goals try (congr 1; clear hS sq; simp_all [Dbm.chk] <;> omega)
theorem twin_any (n : Int) (a : Option Addr) (cap : Nat) (L : List Int) (hlen : L.length <= 1000000) (w : World) (hS : Sl w.heap.size w (.slice a L.length cap) L) :
 Calls Tryz.prog 118 #[.agg #[.int .i64 n, .slice a L.length cap]] w (Ret w fun v w' => ∃ a' cap', v = .agg #[.int .i64 n, .slice a' L.length cap'] /\ Own 84 w.heap.size w' (.slice a' L.length cap') L) := by
 refine fun_ret 0 w Tryz.func118 (args := [.agg [.val (.int .i64 n), .val (.slice a L.length cap)]]) rfl rfl ?_;refine NewI.mk fun b1 hb1 => ?_;refine NewI.mk fun b2 hb2 => ?_;refine DrawI.wr (.tk 0 (.tk 1 (.tk 2 (.tk 3 (.ev 4 (.tk 5 (.ev 6 .done))))))) [1] [] (by kernel_rfl) rfl (fun _ _ => by simp) fun w1 h1 => ?_;apply CallI.use
 ·exact fun w2 h2 => cloneB_any L a cap w2 (Sl.at h2 hS) hlen
 intro v w2 w3 h2 hB hO;obtain ⟨a', cap', rfl⟩ := hO.form;exact EndI.mk fun w4 h4 => ⟨_, _, rfl, (hO.at h4 (by intro b hb; have := h2.lt b; simp_all)).lower h2.below.size⟩
structure Mat (W : World) (h g : Nat) (n : Int) (len cap : Nat) : Prop where
 c0 : W.cell? ⟨h, 0, none⟩ = some (.int .i64 n)
 c1 : W.cell? ⟨h, 1, none⟩ = some (.slice (some ⟨g, 0, none⟩) len cap)
theorem Mat.lt {W : World} {h g : Nat} {n : Int} {len cap : Nat} (m : Mat W h g n len cap) : h < W.heap.size := World.block_lt_of_cell? _ _ m.c0
theorem Mat.of_block {W W' : World} {h g : Nat} {n : Int} {len cap : Nat} (m : Mat W h g n len cap) (hb : W'.heap[h]? = W.heap[h]?) : Mat W' h g n len cap :=
 ⟨(World.cell?_of_block (a := ⟨h, 0, none⟩) hb).trans m.c0, (World.cell?_of_block (a := ⟨h, 1, none⟩) hb).trans m.c1⟩
theorem Mat.below {W W' : World} {h g : Nat} {n : Int} {len cap : Nat} (m : Mat W h g n len cap) (hB : Below W.heap.size W W') : Mat W' h g n len cap := m.of_block (hB.block h m.lt)
theorem at_any (n i j : Int) (h g len cap : Nat) (h0 : 0 <= i * n + j) (h1 : i * n + j < len) (hin : inK .i64 (i * n) /\ inK .i64 (i * n + j)) (w : World) (hM : Mat w h g n len cap) :
 Calls Tryz.prog 119 #[.pointer (some ⟨h, 0, none⟩), .int .i64 i, .int .i64 j] w fun e w' => e = .returned (.pointer (some ⟨g, (i * n + j).toNat, none⟩)) /\ Below w.heap.size w w' := by
 refine fun_eq 0 w Tryz.func119 (args := [.val (.pointer (some ⟨h, 0, none⟩)), .val (.int .i64 i), .val (.int .i64 j)]) rfl rfl ?_;refine DrawI.go (.tk 0 (.tk 1 (.tk 2 (.tk 3 (.tk 4 (.tk 5 (.tk 6 (.tk 7 (.tk 8 (.tk 9 (.tk 10 (.tk 11 (.tk 12 (.tk 13 (.tk 14 (.tk 15 .done)))))))))))))))) (by kernel_rfl) fun w1 k1 => ?_;have hM1 := hM.below k1.go;refine LoadI.mk ⟨_, ⟨hM1.c1, by simp⟩, ?_⟩;refine LoadI.mk ⟨_, ⟨hM1.c0, by simp⟩, ?_⟩;refine Need.mk hin.1 ?_;refine Need.mk hin.2 ?_;refine IdxI.mk ⟨_, ⟨rfl, h0, h1⟩, ?_⟩;refine EndI.mk fun w2 k2 => ?_;simp [addr_addL]
end
section
open Go.RowKit
def Ints (n : Nat) (W : World) (sv : Value) (zs : List Int) : Prop :=
 (∃ a cap, sv = .slice a 0 cap /\ (a = none -> cap = 0) /\ zs = []) \/ ∃ b off cap, sv = .slice (some ⟨b, off, none⟩) zs.length cap /\ b < n /\ ∀ j, j < zs.length -> W.cell? ⟨b, off + j, none⟩ = some (.int .i64 (zs[j]?.getD 0))
theorem Ints.below {n : Nat} {A B : World} (h : Below n A B) {sv : Value} {zs : List Int} : Ints n A sv zs -> Ints n B sv zs
 | .inl e => .inl e
 | .inr ⟨b, off, cap, e, hb, hc⟩ => .inr ⟨b, off, cap, e, hb, fun j hj => (h.cell (p := ⟨b, off + j, none⟩) hb).trans (hc j hj)⟩
def RowAt (T : TypeId) (W : World) (g : Nat) (L : List Int) : Prop :=
 ∃ cur : Array Value, W.heap[g]? = some (.cells cur T (0, 0)) /\ L.length <= cur.size /\ ∀ j, j < L.length -> cur[j]? = some (.int .i64 (L[j]?.getD 0))
theorem RowAt.lt {T : TypeId} {W : World} {g : Nat} {L : List Int} (h : RowAt T W g L) : g < W.heap.size := by
 obtain ⟨cur, hg, _⟩ := h; exact (Array.getElem?_eq_some_iff.1 hg).1
theorem RowAt.cell {T : TypeId} {W : World} {g : Nat} {L : List Int} (h : RowAt T W g L) {j : Nat} (hj : j < L.length) : W.cell? ⟨g, j, none⟩ = some (.int .i64 (L[j]?.getD 0)) := by
 obtain ⟨cur, hg, _, hc⟩ := h;simp [World.cell?, hg, hc j hj]
theorem RowAt.frozen {T : TypeId} {W : World} {g : Nat} {L : List Int} (h : RowAt T W g L) (j : Nat) : W.frozen? ⟨g, j, none⟩ = false := by
 obtain ⟨cur, hg, _, hc⟩ := h;simp [World.frozen?, hg]
theorem RowAt.kept {T : TypeId} {W W' : World} {g : Nat} {L : List Int} (h : RowAt T W g L) (hb : W'.heap[g]? = W.heap[g]?) : RowAt T W' g L := by
 obtain ⟨cur, hg, r⟩ := h; exact ⟨cur, hb.trans hg, r⟩
theorem RowAt.below {T : TypeId} {n : Nat} {W W' : World} {g : Nat} {L : List Int} (h : RowAt T W g L) (hb : Below n W W') (hn : g < n) : RowAt T W' g L := h.kept (hb.block g hn)
theorem RowAt.set {T : TypeId} {W : World} {g : Nat} {L : List Int} (h : RowAt T W g L) {j : Nat} (hj : j < L.length) (x : Int) : RowAt T (W.setCell ⟨g, j, none⟩ (.int .i64 x)) g (L.set j x) := by
 obtain ⟨cur, hg, hl, hc⟩ := h;have hlt := (Array.getElem?_eq_some_iff.1 hg).1;refine ⟨cur.setIfInBounds j (.int .i64 x), ?_, by simpa using hl, fun i hi => ?_⟩
 ·simp only [World.setCell]
  rw [Array.getElem?_modify, if_pos rfl, hg]
  rfl
 ·simp only [List.length_set] at hi
  rw [Array.getElem?_setIfInBounds, List.getElem?_set]
  by_cases hij : j = i
  ·subst hij
   rw [if_pos rfl, if_pos rfl, if_pos (by omega), if_pos hj]; rfl
  ·rw [if_neg hij, if_neg hij]
   exact hc i hi
end
section
open Go.RowKit Go.Shelf
attribute [local go_sem] Oper.semAt_some
theorem pairs_any (n : Int) (w : World) :
 CallsIn Fence.wide 8 Tryz.prog 73 #[.int .i64 n] w fun e w' => e = .returned (.func (.func 114) #[] #[.pointer (some ⟨w.heap.size, 0, none⟩)]) /\ w' = w.alloc (.cells #[.int .i64 n] 3) := by
 refine callsIn_of_wp Tryz.func73 rfl trivial ?_ rfl;simp only [Tryz.ntmps73, List.size_toArray, List.length_cons, List.length_nil, Nat.reduceAdd, Nat.reduceSub, Array.replicate_succ, Array.replicate_zero, List.push_toArray, List.append_toArray, List.nil_append, List.cons_append]
 gi_wp2
 go_ret
 exact ⟨rfl, rfl⟩
abbrev encPr (n : Int) (k : Nat) : Array Value := #[.int .i64 ((k : Int) / n), .int .i64 ((k : Int) % n)]
def KeepsBox (Bs : Nat) (W W' : World) : Prop := W'.cell? ⟨Bs, 0, none⟩ = W.cell? ⟨Bs, 0, none⟩
theorem one_bool {e : Ending} {p q : Prop} (h : (e = .returned (.bool true) /\ p) \/ (e = .returned (.bool false) /\ q)) : ∃ b, e = .returned (.bool b) /\ ((b = true /\ p) \/ (b = false /\ q)) := by
 rcases h with ⟨rfl, h⟩ | ⟨rfl, h⟩
 ·exact ⟨true, rfl, .inl ⟨rfl, h⟩⟩
 ·exact ⟨false, rfl, .inr ⟨rfl, h⟩⟩
set_option maxRecDepth 100000 in
set_option maxHeartbeats 2000000 in
theorem pairs1_in (n : Int) (hn1 : 1 <= n) (hn4 : n <= 4) (l Bs : Nat) (J Jx : List Nat -> World -> Prop)
 (hY : ∀ pre x W, J pre W -> pre.length < (n * n).toNat -> x < (n * n).toNat -> YieldAt Fence.wide 7 Tryz.prog l (encPr n x) W fun e W' =>
   (e = .returned (.bool true) /\ J (pre ++ [x]) W' /\ KeepsBox Bs W W') \/ (e = .returned (.bool false) /\ Jx (pre ++ [x]) W'))
 (hJd : ∀ pre W, J pre W -> J pre W.drew)
 (W : World) (hBs : W.cell? ⟨Bs, 0, none⟩ = some (.int .i64 n)) (h0 : J [] W) :
 CallsIn Fence.wide 8 Tryz.prog 114 #[.func (.yield l) #[] #[], .pointer (some ⟨Bs, 0, none⟩)] W fun e W' => (∃ v, e = .returned v) /\
  ((∃ ys, ys = List.range (n * n).toNat /\ J ys W') \/ (∃ pre, (∃ k, k <= (n * n).toNat /\ pre = List.range k) /\ Jx pre W')) := by
 rcases (by omega : n = 1 \/ n = 2 \/ n = 3 \/ n = 4) with rfl | rfl | rfl | rfl
 ·refine callsIn_of_wp Tryz.func114 rfl trivial ?_ rfl
  simp only [Tryz.ntmps114, List.size_toArray, List.length_cons, List.length_nil, Nat.reduceAdd, Nat.reduceSub, Array.replicate_succ, Array.replicate_zero, List.push_toArray, List.append_toArray, List.nil_append, List.cons_append];simp only [Int.reduceMul, Int.reduceToNat] at hY ⊢
  gi_wp2
  gi_loopw [7] (fun i wr => ∃ k : Nat, k <= 1 /\ i = .int .i64 k /\ J (List.range k) wr /\ wr.cell? ⟨Bs, 0, none⟩ = some (.int .i64 1)) (fun i _ => 1 - (intOf i).toNat)
  case atStart => exact ⟨0, Nat.zero_le _, rfl, h0, hBs⟩
  case round =>
   obtain ⟨k, hk, rfl, hJs, hc⟩ := hrel;have hmix : Tryz.prog.follows .mixedOrders = true := by kernel_rfl
   by_cases hlt : k < 1
   ·obtain ⟨fn, tmps, assign, body, hy, hR⟩ := hY _ k wr.drew (hJd _ _ hJs) (by simpa using hlt) hlt
    simp only [encPr, Int.ediv_one, Int.emod_one] at hy
    gi_wp2
    have hw : IntKind.i64.wrap (k : Int) = k := IntWalk.i64_in _ (by omega)
    gi_region_with_o (refine hR.mono ?_; intro e W3 h3; obtain ⟨bb, rfl, hbb⟩ := one_bool h3)
    all_goals clear hw
    all_goals rcases hbb with ⟨rfl, hJ3, hk3⟩ | ⟨rfl, hJx3⟩
    all_goals gi_wp2
    all_goals first
     | (go_roundw
        case rel => exact ⟨k + 1, by omega, by go_num, by rw [List.range_succ]; exact hJ3, hk3.trans hc⟩
        case measure => simp [intOf]; omega)
     | (refine bodyPost_ret (results_none rfl _ _ _) rfl ?_
        exact ⟨⟨_, rfl⟩, .inr ⟨_, ⟨k + 1, by omega, (List.range_succ).symm⟩, hJx3⟩⟩)
   ·obtain rfl : k = 1 := by omega
    gi_wp2
    go_end0
    exact ⟨⟨_, rfl⟩, .inl ⟨_, rfl, hJs⟩⟩
 ·refine callsIn_of_wp Tryz.func114 rfl trivial ?_ rfl
  simp only [Tryz.ntmps114, List.size_toArray, List.length_cons, List.length_nil, Nat.reduceAdd, Nat.reduceSub, Array.replicate_succ, Array.replicate_zero, List.push_toArray, List.append_toArray, List.nil_append, List.cons_append];simp only [Int.reduceMul, Int.reduceToNat] at hY ⊢
  gi_wp2
  gi_loopw [7] (fun i wr => ∃ k : Nat, k <= 4 /\ i = .int .i64 k /\ J (List.range k) wr /\ wr.cell? ⟨Bs, 0, none⟩ = some (.int .i64 2)) (fun i _ => 4 - (intOf i).toNat)
  case atStart => exact ⟨0, Nat.zero_le _, rfl, h0, hBs⟩
  case round =>
   obtain ⟨k, hk, rfl, hJs, hc⟩ := hrel;have hmix : Tryz.prog.follows .mixedOrders = true := by kernel_rfl
   by_cases hlt : k < 4
   ·obtain ⟨fn, tmps, assign, body, hy, hR⟩ := hY _ k wr.drew (hJd _ _ hJs) (by simpa using hlt) hlt
    dsimp only [encPr] at hy
    gi_wp2
    have hq : (k : Int).tdiv 2 = (k : Int) / 2 := Int.tdiv_eq_ediv_of_nonneg (by omega);have hm : (k : Int).tmod 2 = (k : Int) % 2 := Int.tmod_eq_emod_of_nonneg (by omega);have hw : IntKind.i64.wrap ((k : Int) / 2) = (k : Int) / 2 := IntWalk.i64_in _ (by omega)
    gi_region_with_o (refine hR.mono ?_; intro e W3 h3; obtain ⟨bb, rfl, hbb⟩ := one_bool h3)
    all_goals clear hw hq hm
    all_goals rcases hbb with ⟨rfl, hJ3, hk3⟩ | ⟨rfl, hJx3⟩
    all_goals gi_wp2
    all_goals first
     | (go_roundw
        case rel => exact ⟨k + 1, by omega, by go_num, by rw [List.range_succ]; exact hJ3, hk3.trans hc⟩
        case measure => simp [intOf]; omega)
     | (refine bodyPost_ret (results_none rfl _ _ _) rfl ?_
        exact ⟨⟨_, rfl⟩, .inr ⟨_, ⟨k + 1, by omega, (List.range_succ).symm⟩, hJx3⟩⟩)
   ·obtain rfl : k = 4 := by omega
    gi_wp2
    go_end0
    exact ⟨⟨_, rfl⟩, .inl ⟨_, rfl, hJs⟩⟩
 ·refine callsIn_of_wp Tryz.func114 rfl trivial ?_ rfl
  simp only [Tryz.ntmps114, List.size_toArray, List.length_cons, List.length_nil, Nat.reduceAdd, Nat.reduceSub, Array.replicate_succ, Array.replicate_zero, List.push_toArray, List.append_toArray, List.nil_append, List.cons_append];simp only [Int.reduceMul, Int.reduceToNat] at hY ⊢
  gi_wp2
  gi_loopw [7] (fun i wr => ∃ k : Nat, k <= 9 /\ i = .int .i64 k /\ J (List.range k) wr /\ wr.cell? ⟨Bs, 0, none⟩ = some (.int .i64 3)) (fun i _ => 9 - (intOf i).toNat)
  case atStart => exact ⟨0, Nat.zero_le _, rfl, h0, hBs⟩
  case round =>
   obtain ⟨k, hk, rfl, hJs, hc⟩ := hrel;have hmix : Tryz.prog.follows .mixedOrders = true := by kernel_rfl
   by_cases hlt : k < 9
   ·obtain ⟨fn, tmps, assign, body, hy, hR⟩ := hY _ k wr.drew (hJd _ _ hJs) (by simpa using hlt) hlt
    dsimp only [encPr] at hy
    gi_wp2
    have hq : (k : Int).tdiv 3 = (k : Int) / 3 := Int.tdiv_eq_ediv_of_nonneg (by omega);have hm : (k : Int).tmod 3 = (k : Int) % 3 := Int.tmod_eq_emod_of_nonneg (by omega);have hw : IntKind.i64.wrap ((k : Int) / 3) = (k : Int) / 3 := IntWalk.i64_in _ (by omega)
    gi_region_with_o (refine hR.mono ?_; intro e W3 h3; obtain ⟨bb, rfl, hbb⟩ := one_bool h3)
    all_goals clear hw hq hm
    all_goals rcases hbb with ⟨rfl, hJ3, hk3⟩ | ⟨rfl, hJx3⟩
    all_goals gi_wp2
    all_goals first
     | (go_roundw
        case rel => exact ⟨k + 1, by omega, by go_num, by rw [List.range_succ]; exact hJ3, hk3.trans hc⟩
        case measure => simp [intOf]; omega)
     | (refine bodyPost_ret (results_none rfl _ _ _) rfl ?_
        exact ⟨⟨_, rfl⟩, .inr ⟨_, ⟨k + 1, by omega, (List.range_succ).symm⟩, hJx3⟩⟩)
   ·obtain rfl : k = 9 := by omega
    gi_wp2
    go_end0
    exact ⟨⟨_, rfl⟩, .inl ⟨_, rfl, hJs⟩⟩
 ·refine callsIn_of_wp Tryz.func114 rfl trivial ?_ rfl
  simp only [Tryz.ntmps114, List.size_toArray, List.length_cons, List.length_nil, Nat.reduceAdd, Nat.reduceSub, Array.replicate_succ, Array.replicate_zero, List.push_toArray, List.append_toArray, List.nil_append, List.cons_append];simp only [Int.reduceMul, Int.reduceToNat] at hY ⊢
  gi_wp2
  gi_loopw [7] (fun i wr => ∃ k : Nat, k <= 16 /\ i = .int .i64 k /\ J (List.range k) wr /\ wr.cell? ⟨Bs, 0, none⟩ = some (.int .i64 4)) (fun i _ => 16 - (intOf i).toNat)
  case atStart => exact ⟨0, Nat.zero_le _, rfl, h0, hBs⟩
  case round =>
   obtain ⟨k, hk, rfl, hJs, hc⟩ := hrel;have hmix : Tryz.prog.follows .mixedOrders = true := by kernel_rfl
   by_cases hlt : k < 16
   ·obtain ⟨fn, tmps, assign, body, hy, hR⟩ := hY _ k wr.drew (hJd _ _ hJs) (by simpa using hlt) hlt
    dsimp only [encPr] at hy
    gi_wp2
    have hq : (k : Int).tdiv 4 = (k : Int) / 4 := Int.tdiv_eq_ediv_of_nonneg (by omega);have hm : (k : Int).tmod 4 = (k : Int) % 4 := Int.tmod_eq_emod_of_nonneg (by omega);have hw : IntKind.i64.wrap ((k : Int) / 4) = (k : Int) / 4 := IntWalk.i64_in _ (by omega)
    gi_region_with_o (refine hR.mono ?_; intro e W3 h3; obtain ⟨bb, rfl, hbb⟩ := one_bool h3)
    all_goals clear hw hq hm
    all_goals rcases hbb with ⟨rfl, hJ3, hk3⟩ | ⟨rfl, hJx3⟩
    all_goals gi_wp2
    all_goals first
     | (go_roundw
        case rel => exact ⟨k + 1, by omega, by go_num, by rw [List.range_succ]; exact hJ3, hk3.trans hc⟩
        case measure => simp [intOf]; omega)
     | (refine bodyPost_ret (results_none rfl _ _ _) rfl ?_
        exact ⟨⟨_, rfl⟩, .inr ⟨_, ⟨k + 1, by omega, (List.range_succ).symm⟩, hJx3⟩⟩)
   ·obtain rfl : k = 16 := by omega
    gi_wp2
    go_end0
    exact ⟨⟨_, rfl⟩, .inl ⟨_, rfl, hJs⟩⟩
abbrev PIdx (N : Nat) := { k : Nat // k < N }
abbrev encPI (n : Int) {N : Nat} (k : PIdx N) : Array Value := encPr n k.1
theorem pairs_stops (n : Int) (hn1 : 1 <= n) (hn4 : n <= 4) (N : Nat) (hN : N = (n * n).toNat) (Bs : Nat) (w : World) (hBs : Bs < w.heap.size) (hc : w.cell? ⟨Bs, 0, none⟩ = some (.int .i64 n)) :
 SeqStopsK Fence.wide 8 Tryz.prog 114 #[.pointer (some ⟨Bs, 0, none⟩)] (encPI n (N := N)) (KeepsBox Bs) (fun ys => ys.map (·.1) = List.range N) (fun pre => ∃ k, k <= N /\ pre.map (·.1) = List.range k) N w := fun l J Jx W hW hJ _ hY h0 => by
 subst hN;have hc' := (hW.cell (p := ⟨Bs, 0, none⟩) hBs).trans hc
 -- the numbers' own list, of those below so many
 refine (pairs1_in n hn1 hn4 l Bs (fun pre W => ∃ pre' : List (PIdx (n * n).toNat), pre'.map (·.1) = pre /\ J pre' W) (fun pre W => ∃ pre' : List (PIdx (n * n).toNat), pre'.map (·.1) = pre /\ Jx pre' W)
  ?_ ?_ W hc' ⟨[], rfl, h0⟩).mono ?_
 ·rintro pre x W1 ⟨pre', h1, h2⟩ hlen hx
  have hl : pre'.length < (n * n).toNat := by rw [<- h1] at hlen; simpa using hlen
  obtain ⟨fn, tmps, assign, body, hy, hR⟩ := hY pre' ⟨x, hx⟩ W1 h2 hl;refine ⟨fn, tmps, assign, body, hy, hR.mono ?_⟩;rintro e W' (⟨rfl, h3, h4⟩ | ⟨rfl, h3⟩)
  ·exact .inl ⟨rfl, ⟨_, by simp [h1], h3⟩, h4⟩
  ·exact .inr ⟨rfl, _, by simp [h1], h3⟩
 ·rintro pre W1 ⟨pre', h1, h2⟩
  exact ⟨pre', h1, hJ pre' W1 W1.drew none h2 ⟨rfl, rfl, rfl, Nat.le_refl _, fun _ _ _ => rfl⟩ (fun r e => by cases e)⟩
 ·rintro e W1 ⟨he, ⟨ys, rfl, pre', h1, h2⟩ | ⟨pre, ⟨k, hk, rfl⟩, pre', h1, h3⟩⟩
  ·exact ⟨he, .inl ⟨pre', h1, h2⟩⟩
  ·exact ⟨he, .inr ⟨pre', ⟨k, hk, h1⟩, h3⟩⟩
end
section
open Go.RowKit
theorem keepsBox_put {Bs : Nat} {w : World} (hb : Bs < w.heap.size) (W : World) (l : Nat) (o o' : Obj) (hl : w.heap.size <= l) (h : W.heap[l]? = some o) (_ : o.isCells = false) (_ : o.isWalk = false) : KeepsBox Bs W (W.putObj l o') :=
 World.cell?_of_block (World.putObj_heap_other (by show Bs ≠ l; omega))
theorem ownFrom_rowAt {β : Type} {B : Nat} (T : TypeId) {g : Nat} (f : β -> List Int) : OwnFrom B (fun s W => RowAt T W g (f s)) := fun s W W' row hs hg hr =>
 hs.kept (hg.block g hs.lt (fun e => by
  obtain ⟨_, o, ho, hc⟩ := hr g e.symm;obtain ⟨cur, hcur, _⟩ := hs;rw [hcur] at ho; cases ho; cases hc))
theorem ownFrom_grown {β : Type} {w : World} {B : Nat} {row0 : Option Nat} (hB : w.heap.size <= B) : OwnFrom B (fun (_ : β) W => w.grownBy W row0) := fun s W W' row hs hg hr =>
 ⟨hg.os.trans hs.os, hg.tape.trans hs.tape, hg.output.trans hs.output, Nat.le_trans hs.size hg.size, fun k hk hne =>
  (hg.block k (Nat.lt_of_lt_of_le hk hs.size) (fun e => by have := (hr k e.symm).1; omega)).trans (hs.block k hk hne)⟩
theorem grown_refl (w : World) (row : Option Nat) : w.grownBy w row := ⟨rfl, rfl, rfl, Nat.le_refl _, fun _ _ _ => rfl⟩
theorem grown_trans {a b c : World} {row : Option Nat} (h : a.grownBy b row) (k : b.grownBy c row) : a.grownBy c row :=
 ⟨k.os.trans h.os, k.tape.trans h.tape, k.output.trans h.output, Nat.le_trans h.size k.size, fun i hi hne => (k.block i (Nat.lt_of_lt_of_le hi h.size) hne).trans (h.block i hi hne)⟩
theorem grown_alloc {a b : World} {row : Option Nat} (h : a.grownBy b row) (o : Obj) : a.grownBy (b.alloc o) row := grown_trans h (World.grownBy_alloc b o row)
theorem grown_below {a b c : World} {row : Option Nat} (h : a.grownBy b row) (k : Below b.heap.size b c) : a.grownBy c row :=
 grown_trans h ⟨k.os, k.tape, k.output, k.size, fun i hi _ => k.block i hi⟩
theorem grown_set {a b : World} {g : Nat} (h : a.grownBy b (some g)) (j : Nat) (v : Value) : a.grownBy (b.setCell ⟨g, j, none⟩ v) (some g) :=
 grown_trans h ⟨rfl, rfl, rfl, by simp [World.setCell], fun i hi hne => Below.heap_setCell _ _ _ _ (fun e => hne (by rw [e]))⟩
end
section
open Go.RowKit Go.Proofs.YtanhnllkccldhaaGreat.Eng Enc
theorem idx_ik {n x k : Nat} (hn : 1 <= n) (hn4 : n <= 4) (hx : x < n * n) (hk : k < n) : 0 <= (x : Int) / n * n + k /\ (x : Int) / n * n + k < ((n * n : Nat) : Int) /\ inK .i64 ((x : Int) / n * n) /\ inK .i64 ((x : Int) / n * n + k) := by
 rcases (by omega : n = 1 \/ n = 2 \/ n = 3 \/ n = 4) with rfl | rfl | rfl | rfl <;> simp only [inK] <;> omega
theorem idx_kj {n x k : Nat} (hn : 1 <= n) (hn4 : n <= 4) (hx : x < n * n) (hk : k < n) : 0 <= (k : Int) * n + (x : Int) % n /\ (k : Int) * n + (x : Int) % n < ((n * n : Nat) : Int) /\ inK .i64 ((k : Int) * n) /\ inK .i64 ((k : Int) * n + (x : Int) % n) := by
 rcases (by omega : n = 1 \/ n = 2 \/ n = 3 \/ n = 4) with rfl | rfl | rfl | rfl <;> simp only [inK] <;> omega
theorem idx_ij {n x : Nat} (hn : 1 <= n) (hn4 : n <= 4) (hx : x < n * n) : 0 <= (x : Int) / n * n + (x : Int) % n /\ (x : Int) / n * n + (x : Int) % n < ((n * n : Nat) : Int) /\ inK .i64 ((x : Int) / n * n) /\ inK .i64 ((x : Int) / n * n + (x : Int) % n) /\ ((x : Int) / n * n + (x : Int) % n).toNat = x := by
 rcases (by omega : n = 1 \/ n = 2 \/ n = 3 \/ n = 4) with rfl | rfl | rfl | rfl <;> simp only [inK] <;> omega
theorem idx_ii {n k : Nat} (hn : 1 <= n) (hn4 : n <= 4) (hk : k < n) : 0 <= (k : Int) * n + k /\ (k : Int) * n + k < ((n * n : Nat) : Int) /\ inK .i64 ((k : Int) * n) /\ inK .i64 ((k : Int) * n + k) := by
 rcases (by omega : n = 1 \/ n = 2 \/ n = 3 \/ n = 4) with rfl | rfl | rfl | rfl <;> simp only [inK] <;> omega
theorem keepsFrom_grown {T : TypeId} {W W' : World} {g : Nat} {L : List Int} (hg : W.grownBy W' (some g)) (hr : RowAt T W g L) (B : Nat) : KeepsFrom B W W' :=
 ⟨hg.size, fun k o _ hk hc => (hg.block k (Array.getElem?_eq_some_iff.1 hk).1 (fun e => by
  injection e with e; subst e;obtain ⟨cur, hcur, _⟩ := hr;rw [hcur] at hk; cases hk; cases hc)).trans hk⟩
theorem keep_set {w0 : Base} {r : List Nat} {w1 : World} {g x : Nat} {v : Value} (hg : w0.B <= g) (hr : ∀ b, b ∈ r -> b ≠ g) : Keep w0 r w1 (w1.setCell ⟨g, x, none⟩ v) :=
 ⟨(Below.refl _ _).setCell (p := ⟨g, x, none⟩) hg _, fun b hb => Below.heap_setCell _ _ _ _ (hr b hb)⟩
abbrev TB : TypeId := 84
theorem through_any (n k : Nat) (hn : 1 <= n) (hn4 : n <= 4) (hk : k < n) (h g cap : Nat) (L : List Int) (hL : L.length = n * n) (B : Nat) (w : World) (hB : B <= w.heap.size) (hg : B <= g) (hhg : h ≠ g) (hM : Mat w h g n (n * n) cap) (hr : RowAt TB w g L) :
 Calls Tryz.prog 120 #[.pointer (some ⟨h, 0, none⟩), .int .i64 k] w fun e w' => ∃ v, e = .returned v /\ Below B w w' /\ v = .bool (Dbm.diagOk n (Dbm.thrL n k L)) /\ RowAt TB w' g (Dbm.thrL n k L) /\ w.grownBy w' (some g) := by
 refine fun_at 9 B w hB Tryz.func120 (args := [.val (.pointer (some ⟨h, 0, none⟩)), .val (.int .i64 k)]) rfl rfl ?_;refine NewI.mk fun b1 hb1 => ?_;refine NewI.mk fun b2 hb2 => ?_;refine LoadI.mk ⟨_, ⟨hM.c0, by simp⟩, ?_⟩;apply CallI.mk;intro w1 h1;refine (callsIn_wide.1 (pairs_any n w1)).mono ?_;rintro e w2 ⟨rfl, rfl⟩;have hB1 : Below w1.heap.size w1 (w1.alloc (.cells #[.int .i64 n] 3)) := below_al (Below.refl _ _);refine ⟨h1.keep hB1, _, rfl, ?_⟩;have g0 : w.grownBy (w1.alloc (.cells #[.int .i64 n] 3)) (some g) := grown_alloc (grown_below (grown_refl w _) h1.go) _;have hBs : (w1.alloc (.cells #[.int .i64 (n : Int)] 3)).cell? ⟨w1.heap.size, 0, none⟩ = some (.int .i64 n) := by simp
 have hsz : w1.heap.size < (w1.alloc (.cells #[.int .i64 (n : Int)] 3)).heap.size := by simp
 generalize hw2 : w1.alloc (.cells #[.int .i64 (n : Int)] 3) = w2 at g0 hBs hsz hB1;generalize hbs : w1.heap.size = Bs at hBs hsz;refine RawI.mk fun a w3 hR => ?_;have h3 := hR.at_;have k3 : Below w2.heap.size w2 w3 := h3.go;have hsz3 := k3.size;have hc3 : w3.cell? ⟨Bs, 0, none⟩ = some (.int .i64 n) := (k3.cell (p := ⟨Bs, 0, none⟩) hsz).trans hBs;have g3 : w.grownBy w3 (some g) := grown_below g0 k3;have hgl : g < w.heap.size := hr.lt;have hhl : h < w.heap.size := hM.lt;have hw1 : w.heap.size <= w1.heap.size := h1.size;have hr3 : RowAt TB w3 g L := (hr.below h1.go hgl).kept ((k3.block g (Nat.lt_of_lt_of_le (Nat.lt_of_lt_of_le hgl hw1) hB1.size)).trans (hB1.block g (Nat.lt_of_lt_of_le hgl hw1)));have hBs3 : Bs < w3.heap.size := by omega
 refine rangeD cxOk (by decide) hR rfl Tryz.call114 (pairs_stops n (by omega) (by omega) (n * n) rfl Bs w3 hBs3 hc3) (fun h k => k.trans h) (fun W l o o' => keepsBox_put hBs3 W l o o')
  (fun W W' hs hg => World.cell?_of_block (hg.block Bs (Nat.lt_of_lt_of_le hBs3 hs) (by rintro ⟨⟩))) (fun x => rfl) (fun _ => _) (fun pre W => w.grownBy W (some g) /\ RowAt TB W g ((pre.map (·.1)).foldl (Dbm.upd n k) L)) ?_ rfl ⟨g3, hr3⟩ (fun _ _ _ => False) (fun _ _ => []) (fun _ _ _ _ _ h _ _ => h) _
  (fun l z hp W => And.intro rfl rfl) ?_ ?_ (fun _ _ _ _ _ _ _ h => h.elim)
 ·intro pre W W' row hs hg' hr'
  exact ⟨ownFrom_grown (row0 := some g) (w := w) (Nat.le_trans g3.size (Nat.le_refl _)) pre W W' row hs.1 hg' hr', ownFrom_rowAt TB (g := g) (fun pre : List (PIdx (n * n)) => (pre.map (·.1)).foldl (Dbm.upd n k) L) pre W W' row hs.2 hg' hr'⟩
 ·rintro l pre x W ⟨gW, rW⟩ hBW hsW hlen
  obtain ⟨x, hx⟩ := x;have hMW : Mat W h g n (n * n) cap := hM.of_block (gW.block h hhl (fun e => hhg (by injection e)));generalize hLp : (pre.map (·.1)).foldl (Dbm.upd n k) L = Lp at rW;have hLl : Lp.length = n * n := by rw [<- hLp, Dbm.foldl_upd_length, hL]
  have e1 := idx_ik hn hn4 hx hk;have e2 := idx_kj hn hn4 hx hk;have e3 := idx_ij hn hn4 hx;refine DrawI.go (.tk 0 (.tk 1 (.tk 2 (.tk 6 (.tk 7 (.tk 8 (.ev 3 (.tk 4 (.tk 5 (.ev 9 (.tk 10 (.tk 11 (.ev 12 (.tk 13 (.tk 14 (.tk 15 (.tk 16 (.tk 17 .done)))))))))))))))))) (by kernel_rfl) fun w4 h4 => ?_;have hM4 := hMW.below h4.go;have r4 := rW.below h4.go rW.lt;apply CallI.use1
  ·exact fun w5 h5 => at_any n _ k h g (n * n) cap e1.1 e1.2.1 e1.2.2 w5 (hM4.below h5.go)
  intro w5 w6 h5 hB6;have k6 := h5.step2 hB6;refine LoadI.mk ⟨_, ⟨r4.cell (j := x / n * n + k) (by rw [hLl]; exact Int.ofNat_lt.1 e1.2.1), by simp⟩, ?_⟩;apply CallI.use1
  ·exact fun w7 h7 => at_any n k _ h g (n * n) cap e2.1 e2.2.1 e2.2.2 w7 ((hM4.below k6).below h7.go)
  intro w7 w8 h7 hB8;have k8 := k6.trans ((h7.step2 hB8).mono k6.size);refine LoadI.mk ⟨_, ⟨r4.cell (j := k * n + x % n) (by rw [hLl]; exact Int.ofNat_lt.1 e2.2.1), by simp⟩, ?_⟩;apply CallI.use1
  ·exact fun w9 h9 => badd_any _ _ w9
  intro w9 w10 h9 hB10;have k10 := k8.trans ((h9.step2 hB10).mono k8.size);have hM10 := hM4.below k10;have r10 := r4.below k10 r4.lt;have g10 := grown_below (grown_below gW h4.go) k10;apply CallI.use1
  ·exact fun w11 h11 => at_any n _ _ h g (n * n) cap e3.1 e3.2.1 ⟨e3.2.2.1, e3.2.2.2.1⟩ w11 (hM10.below h11.go)
  intro w11 w12 h11 hB12;rw [e3.2.2.2.2];have k12 := h11.step2 hB12;refine LoadI.mk ⟨_, ⟨(r10.below k12 r10.lt).cell (j := x) (by rw [hLl]; exact hx), by simp⟩, ?_⟩;have M12 := hM10.below k12;have r12 := r10.below k12 r10.lt;have gX := grown_below (grown_below (grown_below (grown_refl W (some g)) h4.go) k10) k12;have hgBs : Bs ≠ g := by omega
  -- what is left to be told where the row's list is L' and the world w'
  have fin : ∀ (w' : World) (L' : List Int), W.grownBy w' (some g) -> RowAt TB w' g L' -> L' = Dbm.upd n k Lp x -> KeepsFrom w3.heap.size W w' /\ KeepsBox Bs W w' /\ w.grownBy w' (some g) /\ RowAt TB w' g (((pre ++ [(⟨x, hx⟩ : PIdx (n * n))]).map (·.1)).foldl (Dbm.upd n k) L) := by
   rintro w' L' hg' hr' rfl;refine ⟨keepsFrom_grown hg' rW _, World.cell?_of_block (hg'.block Bs (by omega) (fun e => hgBs (by injection e))), grown_trans gW hg', ?_⟩;rw [List.map_append, List.foldl_append, hLp]; exact hr'
  refine Branch.mk (fun hb => ?_) (fun hb => ?_)
  ·have hu : Dbm.upd n k Lp x = Lp.set x (Bd.add (Lp[x / n * n + k]?.getD 0) (Lp[k * n + x % n]?.getD 0)).1 := if_pos (by simpa using hb)
   apply CallI.use1
   ·exact fun w13 h13 => at_any n _ _ h g (n * n) cap e3.1 e3.2.1 ⟨e3.2.2.1, e3.2.2.2.1⟩ w13 (M12.below h13.go)
   intro w13 w14 h13 hB14;rw [e3.2.2.2.2];have k14 := h13.step2 hB14;refine StoreI.mk fun w15 h15 => ?_;have r15 := (r12.below k14 r12.lt).below h15.go (r12.below k14 r12.lt).lt;refine ⟨⟨⟨_, r15.cell (j := x) (by rw [hLl]; exact hx)⟩, r15.frozen x⟩, keep_set hg (by intro b hb; simp only [List.mem_cons, List.not_mem_nil, or_false] at hb; have := hb1; have := hb2; rcases hb with rfl | rfl <;> (intro e; subst e; exact absurd hgl (Nat.not_lt.2 ‹_›))), ?_⟩;refine Need.mk (CovH.mk rfl rfl rfl) (EndI.mk fun w16 h16 => ?_);refine fin w16 _ (grown_below (grown_set (grown_below (grown_below gX k14) h15.go) x _) h16.go) ((r15.set (by rw [hLl]; exact hx) _).below h16.go (by have := r15.lt; simpa [World.setCell] using this)) hu.symm
  ·have hu : Dbm.upd n k Lp x = Lp := if_neg (by simpa using hb)
   refine Need.mk (CovH.mk rfl rfl rfl) (EndI.mk fun w16 h16 => ?_);exact fin w16 _ (grown_below gX h16.go) (r12.below h16.go r12.lt) hu.symm
 ·rintro D xs W hD hS ⟨gW, rW⟩ hmark
  have hxs : (xs.map (·.1)).foldl (Dbm.upd n k) L = Dbm.thrL n k L := by rw [hS]; rfl
  rw [hxs] at rW;have hLl : (Dbm.thrL n k L).length = n * n := by rw [Dbm.thrL, Dbm.foldl_upd_length, hL]
  have hMW : Mat W h g n (n * n) cap := hM.of_block (gW.block h hhl (fun e => hhg (by injection e)));have hDW : D < W.heap.size := (Array.getElem?_eq_some_iff.1 hmark).1;have hwD : w.heap.size <= D := Nat.le_trans g3.size hD
  -- what is told at an end in a world behind W
  have fin : ∀ (bb : Bool), bb = Dbm.diagOk n (Dbm.thrL n k L) -> ∀ w1, Below W.heap.size W w1 -> (B <= D /\ w1.heap[D]? = some (.deferred (some []))) /\ ∀ w2, unmark w1 D w2 -> Value.bool bb = .bool (Dbm.diagOk n (Dbm.thrL n k L)) /\ RowAt TB w2 g (Dbm.thrL n k L) /\ w.grownBy w2 (some g) := by
   rintro bb rfl w1 hW1;refine ⟨⟨Nat.le_trans hB hwD, (hW1.block D hDW).trans hmark⟩, fun w2 hu => ⟨rfl, (rW.below hW1 rW.lt).kept (hu.2.2.2.2 g (by omega)), ?_⟩⟩;have h1 := grown_below gW hW1;exact ⟨hu.2.1.trans h1.os, hu.2.2.1.trans h1.tape, hu.2.2.2.1.trans h1.output, by rw [hu.1]; exact h1.size, fun k hk hne => (hu.2.2.2.2 k (by omega)).trans (h1.block k hk hne)⟩
  refine LoadI.mk ⟨_, ⟨hMW.c0, by simp⟩, ?_⟩;refine LoopI.invC (α := Nat × World) (fun y => [(53, .val (.int .i64 y.1))]) (fun y => y.2) (fun y => y.1 <= n /\ Below W.heap.size W y.2 /\ ∀ i, i < y.1 -> 1 <= (Dbm.thrL n k L)[i * n + i]?.getD 0) (fun y => n - y.1) ?_ ?_
  ·intro w4 h4
   exact ⟨(0, w4), Cov.au rfl rfl rfl rfl rfl, rfl, Nat.zero_le _, h4.go, fun i hi => by omega⟩
  ·rintro ⟨i, W4⟩ ⟨hi, hW4, hno⟩
   refine Branch.mk (fun hb => ?_) (fun hb => ?_)
   ·have hlt : i < n := by simpa using hb
    have e4 := idx_ii hn hn4 hlt;apply CallI.use1
    ·exact fun w5 h5 => at_any n _ _ h g (n * n) cap e4.1 e4.2.1 e4.2.2 w5 ((hMW.below hW4).below h5.go)
    intro w5 w6 h5 hB6;have k6 := h5.step2 hB6;have W6 := hW4.trans (k6.mono hW4.size);refine LoadI.mk ⟨_, ⟨(rW.below W6 rW.lt).cell (j := i * n + i) (by rw [hLl]; exact Int.ofNat_lt.1 e4.2.1), by simp⟩, ?_⟩;refine Branch.mk (fun hc => ?_) (fun hc => ?_)
    ·refine EndM.mk fun w7 h7 => fin false ?_ w7 (W6.trans (h7.go.mono W6.size))
     symm;rw [Dbm.diagOk, List.all_eq_false];exact ⟨i, List.mem_range.2 hlt, by simp at hc ⊢; omega⟩
    ·refine Need.mk (by show _ /\ _; omega) (EndI.mk fun w7 h7 => ⟨(i + 1, w7), Cov.au rfl rfl rfl rfl rfl, rfl, ⟨hlt, W6.trans (h7.go.mono W6.size), fun i' hi' => ?_⟩, by simp only; omega⟩)
     by_cases hii : i' = i
     ·subst hii; simp at hc; omega
     ·exact hno i' (by omega)
   ·have hge : i = n := by (have : ¬ i < n := by simpa using hb); omega
    subst hge;refine EndM.mk fun w7 h7 => fin true ?_ w7 (hW4.trans (h7.go.mono hW4.size));symm;rw [Dbm.diagOk, List.all_eq_true];intro i' hi'
    simpa using hno i' (List.mem_range.1 hi')
theorem Mat.own {w0 : Base} {hp : List LB} {r L : List Nat} {w w1 : World} (h1 : At w0 hp r L w w1) (i : Nat) {b g : Nat} {n : Int} {len cap : Nat} {ty : TypeId} (hi : r[i]? = some b) (hc : hget hp i = some ⟨[.val (.int .i64 n), .val (.slice (some ⟨g, 0, none⟩) len cap)], ty⟩) : Mat w1 b g n len cap :=
 ⟨h1.own (o := 0) hi hc rfl, h1.own (o := 1) hi hc rfl⟩
theorem Own.row {e : TypeId} {base : Nat} {W : World} {a : Option Addr} {cap : Nat} {L : List Int} (h : Own e base W (.slice a L.length cap) L) (hne : 0 < L.length) : ∃ g, a = some ⟨g, 0, none⟩ /\ base <= g /\ RowAt e W g L := by
 obtain ⟨_, ⟨h0, h1⟩ | ⟨g, cap', cur, h0, hb, hg, hc, hm, hs, ht⟩⟩ := id h
 ·omega
 ·injection h0 with h0 h1 h2
  subst h0; subst h2;refine ⟨g, rfl, hb, cur, hg, ?_, fun j hj => ?_⟩
  ·rw [hs]; show _ <= cap * 1; omega
  ·have := World.ownsRow.cells h (g := g) rfl (j * 1 + 0) (.int .i64 (L[j]?.getD 0)) (cellsL_get L (k := j) (i := 0) (x := L[j]) (List.getElem?_eq_getElem hj) (by rw [List.getElem?_eq_getElem hj]; rfl))
   rw [addr_addL] at this;simp only [World.cell?, hg] at this
   simpa using this
def Fresh (e : TypeId) (base : Nat) (W : World) (sv : Value) (L : List Int) : Prop :=
 (sv = .slice none 0 0 /\ L = []) \/ ∃ g cap, sv = .slice (some ⟨g, 0, none⟩) L.length cap /\ L.length <= cap /\ cap <= maxLen /\ base <= g /\ RowAt e W g L
theorem Fresh.sl {e : TypeId} {base : Nat} {W : World} {sv : Value} {L : List Int} (h : Fresh e base W sv L) : Sl W.heap.size W sv L := by
 rcases h with ⟨rfl, rfl⟩ | ⟨g, cap, rfl, h1, h2, h3, h4⟩
 ·exact Sl.nil
 ·refine ⟨_, _, rfl, h1, h2, (fun e => nomatch e), fun k x hk => ⟨g, 0, rfl, h4.lt, fun i c hi => ?_⟩⟩
  have hk' := (List.getElem?_eq_some_iff.1 hk).1;have := h4.cell hk';rw [hk] at this
  match i, hi with
  | 0, hi =>
    injection hi with hi; subst hi;rw [show 0 + (k * size Int + 0) = k by show 0 + (k * 1 + 0) = k; omega];exact this
theorem Fresh.below {e : TypeId} {base : Nat} {W W' : World} {sv : Value} {L : List Int} (h : Fresh e base W sv L) (hB : Below W.heap.size W W') : Fresh e base W' sv L := by
 rcases h with h | ⟨g, cap, h0, h1, h2, h3, h4⟩
 ·exact .inl h
 ·exact .inr ⟨g, cap, h0, h1, h2, h3, h4.below hB h4.lt⟩
theorem Fresh.at {w0 : Base} {hp : List LB} {r L : List Nat} {w w1 : World} {e : TypeId} {base : Nat} {sv : Value} {l : List Int} (h : Fresh e base w sv l) (h1 : At w0 hp r L w w1) (hL : ∀ b, b ∈ L -> b < base) : Fresh e base w1 sv l := by
 rcases h with h | ⟨g, cap, c0, c1, c2, c3, c4⟩
 ·exact .inl h
 ·exact .inr ⟨g, cap, c0, c1, c2, c3, c4.kept (h1.step g c4.lt (fun e => by have := hL g e; omega))⟩
theorem RowAt.at {w0 : Base} {hp : List LB} {r L : List Nat} {w w1 : World} {T : TypeId} {g : Nat} {l : List Int} (h : RowAt T w g l) (h1 : At w0 hp r L w w1) (hL : g ∉ L) : RowAt T w1 g l := h.kept (h1.step g h.lt hL)
theorem close_any (n : Int) (a : Option Addr) (cap : Nat) (L : List Int) (w : World) (hS : Sl w.heap.size w (.slice a L.length cap) L) :
 Calls Tryz.prog 75 #[.agg #[.int .i64 n, .slice a L.length cap]] w (Ret w fun v w' => ∃ a' cap', v = .tuple #[.agg #[.int .i64 (Dbm.close n L).1, .slice a' (Dbm.close n L).2.1.length cap'], .int .i64 (Dbm.close n L).2.2] /\ Fresh TB w.heap.size w' (.slice a' (Dbm.close n L).2.1.length cap') (Dbm.close n L).2.1) := by
 refine fun_ret 0 w Tryz.func75 (args := [.agg [.val (.int .i64 n), .val (.slice a L.length cap)]]) rfl rfl ?_;refine NewI.mk fun b1 hb1 => ?_;refine NewI.mk fun b2 hb2 => ?_
 (first
   | (apply CallI.use1; (focus (exact fun w1 h1 => dcheck_any n a cap L w1 (Sl.at h1 hS))); intro w1 w2 h1 hB)
   | (refine Branch.yes rfl ?_)
   | (refine Branch.no rfl ?_)
   | (refine Branch.mk (fun hb => ?_) (fun hb => ?_))
   | (refine NewI.mk fun nb hnb => ?_)
   | (refine Need.mk (by show _ /\ _; omega) ?_)
   | (refine Need.mk (by omega) ?_)
   | (refine Need.mk ?_ ?_)
   | (refine EndI.mk fun w1 h1 => ?_))
 refine Branch.mk (fun hc => ?_) (fun hc => ?_)
 ·refine EndI.mk fun w3 h3 => ?_
  have : Dbm.close n L = (0, [], 8) := by rw [Dbm.close, if_neg (by simpa using hc)]
  have h8 : Dbm.chk n L = 8 := (Dbm.chk_cases n L).resolve_left (by simpa using hc);rw [this, h8];exact ⟨_, _, rfl, .inl ⟨rfl, rfl⟩⟩
 have hc0 : Dbm.chk n L = 0 := by simpa using hc
 obtain ⟨c1, c2, c3, c4⟩ := Dbm.chk_iff.1 hc0;obtain ⟨N, rfl⟩ : ∃ N : Nat, n = N := ⟨n.toNat, by omega⟩;have hN1 : 1 <= N := by omega
 have hN4 : N <= 4 := by omega
 have hlen : L.length = N * N := by exact_mod_cast c3
 have hpos : 0 < L.length := by rw [hlen]; exact Nat.mul_pos hN1 hN1
 have hL16 : L.length <= 16 := by rw [hlen]; exact Nat.mul_le_mul hN4 hN4
 clear hc c1 c2;apply CallI.use
 ·exact fun w3 h3 => twin_any N a cap L (by omega) w3 (Sl.at h3 hS)
 rintro v w3 w4 h3 hB4 ⟨a', cap', rfl, hO⟩;have hgb : ∀ b, b ∈ [b1, b2] -> b < w3.heap.size := fun b hb => h3.lt b hb;have hwb : w.heap.size <= w3.heap.size := h3.below.size;obtain ⟨g, rfl, hg, hr⟩ := hO.row hpos;obtain ⟨_, ⟨h0, _⟩ | ⟨g', c', cur', e0, _, hgc, hlc, hm, hs, _⟩⟩ := id hO
 ·cases h0
 injection e0 with e0 e1 e2;injection e0 with e0; injection e0 with e0; subst e0; subst e2;refine NewI.mk fun b3 hb3 => ?_;have hgr : ∀ b, b ∈ [b1, b2, b3] -> b ≠ g := by
  intro b hb e;subst e;have := hr.lt;simp only [List.mem_cons, List.not_mem_nil, or_false] at hb;rcases hb with rfl | rfl | rfl
  ·have := hgb b (by simp); omega
  ·have := hgb b (by simp); omega
  ·omega
 have hgw : w.heap.size <= g := Nat.le_trans hwb hg
 -- the error
 have none : Dbm.closeL N L = none -> ∀ (w' : World), ∃ a' cap', Value.tuple #[.agg #[.int .i64 0, .slice none 0 0], .int .i64 6] = .tuple #[.agg #[.int .i64 (Dbm.close N L).1, .slice a' (Dbm.close N L).2.1.length cap'], .int .i64 (Dbm.close N L).2.2] /\ Fresh TB w.heap.size w' (.slice a' (Dbm.close N L).2.1.length cap') (Dbm.close N L).2.1 := fun hno w' => by
  have : Dbm.close N L = (0, [], 6) := by rw [Dbm.close, if_pos hc0, Int.toNat_natCast, hno]
  rw [this];exact ⟨_, _, rfl, .inl ⟨rfl, rfl⟩⟩
 refine LoopI.invC (α := Nat × World × List Int) (fun y => [(23, .val (.int .i64 y.1))]) (fun y => y.2.1) (fun y => y.1 <= N /\ (List.range y.1).foldlM (Dbm.diag1 N) L = some y.2.2 /\ RowAt TB y.2.1 g y.2.2) (fun y => N - y.1) ?_ ?_
 ·intro w5 h5
  exact ⟨(0, w5, L), Cov.au rfl rfl rfl rfl rfl, rfl, Nat.zero_le _, rfl, hr.below h5.go hr.lt⟩
 rintro ⟨i, W, Li⟩ ⟨hi, hfold, hRi⟩;have hLi : Li.length = N * N := by rw [<- hlen]; exact Dbm.foldlM_len Dbm.diag1_len hfold
 refine Branch.mk (fun hb => ?_) (fun hb => ?_)
 ·have hlt : i < N := by simpa using hb
  have e4 := idx_ii hN1 hN4 hlt;have hil : i * N + i < Li.length := by rw [hLi]; exact Int.ofNat_lt.1 e4.2.1
  have hnext : (List.range (i + 1)).foldlM (Dbm.diag1 N) L = Dbm.diag1 N Li i := by
   rw [List.range_succ, List.foldlM_append, hfold]; simp
  apply CallI.use1
  ·exact fun w5 h5 => at_any N _ _ b3 g (N * N) cap' e4.1 e4.2.1 e4.2.2 w5 (Mat.own h5 2 rfl (by rw [<- hlen]; rfl))
  intro w5 w6 h5 hB6;have k6 := h5.step2 hB6;have r6 := hRi.below k6 hRi.lt;refine LoadI.mk ⟨_, ⟨r6.cell (j := i * N + i) hil, by simp⟩, ?_⟩;refine Branch.mk (fun hc => ?_) (fun hc => ?_)
  ·refine EndI.mk fun w7 h7 => none ?_ w7
   have h1 : (List.range (i + 1)).foldlM (Dbm.diag1 N) L = .none := by rw [hnext, Dbm.diag1, if_pos (by simpa using hc)]
   rw [Dbm.closeL, Dbm.foldlM_none h1 hlt]; rfl
  ·apply CallI.use1
   ·exact fun w7 h7 => at_any N _ _ b3 g (N * N) cap' e4.1 e4.2.1 e4.2.2 w7 (Mat.own h7 2 rfl (by rw [<- hlen]; rfl))
   intro w7 w8 h7 hB8;have k8 := h7.step2 hB8;have r8 := r6.below k8 r6.lt;refine StoreI.mk fun w9 h9 => ?_;have r9 := r8.below h9.go r8.lt;refine ⟨⟨⟨_, r9.cell (j := i * N + i) hil⟩, r9.frozen _⟩, keep_set hgw hgr, ?_⟩;refine Need.mk (by show _ /\ _; omega) (EndI.mk fun w10 h10 => ⟨(i + 1, w10, Li.set (i * N + i) 1), Cov.au rfl rfl rfl rfl rfl, rfl, ⟨hlt, ?_, ?_⟩, by simp only; omega⟩)
   ·rw [hnext, Dbm.diag1, if_neg (by simpa using hc)]
   ·exact (r9.set hil 1).below h10.go (by have := r9.lt; simpa [World.setCell] using this)
 ·have hge : i = N := by (have : ¬ i < N := by simpa using hb); omega
  rw [hge] at hfold;clear hi hb hge;refine LoopI.invC (α := Nat × World × List Int) (fun y => [(45, .val (.int .i64 y.1))]) (fun y => y.2.1) (fun y => y.1 <= N /\ (List.range y.1).foldlM (Dbm.stage N) Li = some y.2.2 /\ RowAt TB y.2.1 g y.2.2) (fun y => N - y.1) ?_ ?_
  ·intro w5 h5
   exact ⟨(0, w5, Li), Cov.au rfl rfl rfl rfl rfl, rfl, Nat.zero_le _, rfl, hRi.below h5.go hRi.lt⟩
  rintro ⟨k, W2, Lk⟩ ⟨hk, hfk, hRk⟩;have hLk : Lk.length = N * N := by rw [<- hLi]; exact Dbm.foldlM_len Dbm.stage_len hfk
  refine Branch.mk (fun hb => ?_) (fun hb => ?_)
  ·have hlt : k < N := by simpa using hb
   have hnext : (List.range (k + 1)).foldlM (Dbm.stage N) Li = Dbm.stage N Lk k := by
    rw [List.range_succ, List.foldlM_append, hfk]; simp
   apply CallI.mk;intro w5 h5;refine (through_any N k hN1 hN4 hlt b3 g cap' Lk hLk w.heap.size w5 (Nat.le_trans (Nat.le_refl _) h5.below.size) hgw (hgr b3 (by simp)) (Mat.own h5 2 rfl (by rw [<- hlen]; rfl)) (hRk.below h5.go hRk.lt)).mono ?_;rintro e w6 ⟨v, rfl, hB6, rfl, hR6, hG6⟩;refine ⟨⟨hB6, fun b hb => hG6.block b (h5.lt b hb) (fun e => hgr b hb (by injection e))⟩, _, rfl, ?_⟩;refine Branch.mk (fun hc => ?_) (fun hc => ?_)
   ·refine EndI.mk fun w7 h7 => none ?_ w7
    have h1 : (List.range (k + 1)).foldlM (Dbm.stage N) Li = .none := by rw [hnext, Dbm.stage, if_neg (by simpa using hc)]
    rw [Dbm.closeL, hfold, Option.bind_some, Dbm.foldlM_none h1 hlt]
   ·refine Need.mk (by show _ /\ _; omega) (EndI.mk fun w10 h10 => ⟨(k + 1, w10, Dbm.thrL N k Lk), Cov.au rfl rfl rfl rfl rfl, rfl, ⟨hlt, ?_, ?_⟩, by simp only; omega⟩)
    ·rw [hnext, Dbm.stage, if_pos (by simpa using hc)]
    ·exact hR6.below h10.go hR6.lt
  ·have hge : k = N := by (have : ¬ k < N := by simpa using hb); omega
   rw [hge] at hfk;refine EndI.mk fun w5 h5 => ?_;have hcl : Dbm.close N L = ((N : Int), Lk, 0) := by rw [Dbm.close, if_pos hc0, Int.toNat_natCast, Dbm.closeL, hfold, Option.bind_some, hfk]
   rw [hcl];have hll : L.length = Lk.length := by rw [hLk, hlen]
   rw [hll];exact ⟨_, _, rfl, .inr ⟨g, cap', rfl, by rw [<- hll]; exact hlc, hm, hgw, hRk.at h5 (fun e => hgr b2 (by simp) (List.mem_singleton.1 e).symm)⟩⟩
namespace Dbm
def moments (T : List Rt) : List Rt := ⟨0, 1⟩ :: T
def pairOk (n : Nat) (L : List Int) (A : List Rt) (x : Nat) : Bool := (Fr.keeps (A[x / n]?.getD ⟨0, 1⟩) (A[x % n]?.getD ⟨0, 1⟩) (L[x]?.getD 0)).1
def keptL (n : Nat) (L : List Int) (T : List Rt) : Bool := (List.range (n * n)).all (pairOk n L (moments T))
def keeps (n : Int) (L : List Int) (T : List Rt) : Bool × Int :=
 if Dbm.chk n L = 0 /\ T.all Rt.ok = true then (if (T.length : Int) = n - 1 then (keptL n.toNat L T, 0) else (false, 40)) else (false, 8)
end Dbm
theorem infoRat : (Tryz.prog.info? 36).map (fun i => (i.zero, i.size, i.bytes)) = some (some (.agg #[.int .i64 0, .int .i64 0]), 2, 16) := by kernel_rfl
theorem elR : ElOk Tryz.prog 128 36 2 16 := elOk (by kernel_rfl) infoRat rfl (by decide)
abbrev TR : TypeId := 36
theorem Own.own {α : Type} [Enc α] {w0 : Base} {hp : List LB} {r L : List Nat} {w w1 : World} {l : List α} (h : At w0 hp r L w w1) (i : Nat) {b n : Nat} {c : LB} (hi : r[i]? = some b) (hc : hget hp i = some c) (hm : denL r c.cells = cellsL l) (hb : w0.B <= b) (hn : n = l.length := by rfl) (hmax : n <= maxLen := by decide) : Own c.ty w0.B w1 (.slice (some ⟨b, 0, none⟩) n n) l := by
 subst hn;have h1 := h.blk i b c hi hc;refine ⟨cellsL_len l, .inr ⟨b, _, _, rfl, hb, h1, Nat.le_refl _, hmax, ?_, ?_⟩⟩
 ·rw [hm, List.size_toArray, cellsL_len]
 ·rw [hm, List.take_of_length_le (by rw [cellsL_len]; exact Nat.le_refl _)]
section
variable {α : Type} [Enc α]
theorem cellsL_take (l : List α) (i : Nat) : cellsL (l.take i) = (cellsL l).take (i * size α) := by
 induction l generalizing i with
 | nil => simp [cellsL]
 | cons x l ih =>
   cases i with
   | zero => simp [cellsL]
   | succ i =>
     simp only [List.take_succ_cons, cellsL, ih];have h1 : (enc x).take ((i + 1) * size α) = enc x := List.take_of_length_le (by rw [len, Nat.succ_mul]; omega);have h2 : (i + 1) * size α - size α = i * size α := by rw [Nat.succ_mul]; omega
     rw [List.take_append, h1, len, h2]
theorem Own.take {e : TypeId} {base : Nat} {W : World} {g cap : Nat} {l : List α} (h : Own e base W (.slice (some ⟨g, 0, none⟩) l.length cap) l) (i : Nat) (hi : i <= l.length) : Own e base W (.slice (some ⟨g, 0, none⟩) i cap) (l.take i) := by
 obtain ⟨hl, ⟨h0, _⟩ | ⟨g', cap', cur, h0, hb, hg, hn, hm, hs, ht⟩⟩ := h
 ·cases h0
 ·injection h0 with h0 h1 h2
  injection h0 with h0; injection h0 with h0;subst h0; subst h2;have hli : (l.take i).length = i := by simp; omega
  refine ⟨cellsL_len _, .inr ⟨g, cap, cur, by rw [hli], hb, hg, by rw [hli]; omega, hm, hs, ?_⟩⟩;rw [hli, cellsL_take, <- ht, List.take_take]
  congr 1
  have := Nat.mul_le_mul_right (size α) hi;omega
theorem Own.at0 {e : TypeId} {base : Nat} {W : World} {g n cap : Nat} {l : List α} (h : Own e base W (.slice (some ⟨g, 0, none⟩) n cap) l) : n = l.length /\ base <= g /\ g < W.heap.size /\ ∃ cur, W.heap[g]? = some (.cells cur e (0, 0)) /\ l.length <= cap /\ cap <= maxLen /\ cur.size = cap * size α /\ cur.toList.take (l.length * size α) = cellsL l := by
 obtain ⟨hl, ⟨h0, _⟩ | ⟨g', cap', cur, h0, hb, hg, hn, hm, hs, ht⟩⟩ := h
 ·cases h0
 ·injection h0 with h0 h1 h2
  injection h0 with h0; injection h0 with h0;subst h0; subst h1; subst h2;exact ⟨rfl, hb, (Array.getElem?_eq_some_iff.1 hg).1, cur, hg, hn, hm, hs, ht⟩
theorem Own.setRow {e : TypeId} {base : Nat} {W : World} {g n cap : Nat} {l : List α} (h : Own e base W (.slice (some ⟨g, 0, none⟩) n cap) l) {cur : Array Value} (hc : W.heap[g]? = some (.cells cur e (0, 0))) (o : Nat) (vs : List Value) (ho : l.length * size α <= o) (hov : o + vs.length <= cur.size) :
 Own e base (W.setRow g (cur.toList.take o ++ vs ++ cur.toList.drop (o + vs.length)).toArray) (.slice (some ⟨g, 0, none⟩) n cap) l := by
 obtain ⟨rfl, hb, hlt, cur', hg, hn, hm, hs, ht⟩ := h.at0;rw [hg] at hc;injection hc with hc; injection hc with hc _; subst hc;refine ⟨cellsL_len _, .inr ⟨g, cap, _, rfl, hb, setRow_heap W g cur' _ e _ hg, hn, hm, ?_, ?_⟩⟩
 ·simp only [List.size_toArray, List.length_append, List.length_take, List.length_drop, Array.length_toList]; omega
 ·rw [List.append_assoc, List.take_append_of_le_length (by simp; omega), List.take_take, Nat.min_eq_left ho]; exact ht
theorem grown_setRow (W : World) (g : Nat) (cs : Array Value) : W.grownBy (W.setRow g cs) (some g) := ⟨rfl, rfl, rfl, by simp, fun k _ hk => setRow_other _ g k _ (fun e => hk (by simp [e]))⟩
theorem run_value {P : Program} {W W' : World} {m : Sem Value} {x : Value} (h : m.run P W = .ok x W') : (do pure (Next.value (<- m)) : Sem Next).run P W = .ok (.value x) W' := by
 simp only [Sem.run_bind, h, Result.andThen, Sem.run_pure]
theorem storeCells_any {P : Program} {W : World} {g o : Nat} {e : TypeId} {cur : Array Value} {vs : List Value} (hg : W.heap[g]? = some (.cells cur e (0, 0))) (h : o + vs.length <= cur.size) (h1 : ∀ v ∈ vs, v.oneCell' = true) :
 (storeCells ⟨g, o, none⟩ vs).run P W = .ok () (W.setRow g (cur.toList.take o ++ vs ++ cur.toList.drop (o + vs.length)).toArray) := by
 have := run_storeCells_at P g o e vs 0 cur W hg (by simpa using h) h1
 simpa using this
theorem run_clear {P : Program} {W : World} {t e : TypeId} {i : TI} (ht : P.underlying t = some (.slice e)) (hT : TyOk P e i) (hp : 0 < i.zero.length) {g o n c : Nat} {cur : Array Value} (hg : W.heap[g]? = some (.cells cur e (0, 0))) (h : o + n * i.zero.length <= cur.size) (hn : 0 < n) :
 ∃ vs : List Value, vs.length = n * i.zero.length /\ ∀ (ty : TypeId) (consts : Array Bool) (v : Value), v = .slice (some ⟨g, o, none⟩) n c -> (builtin .clear #[t] ty consts #[v]).run P W = .ok (.value (.tuple #[])) (W.setRow g (cur.toList.take o ++ vs ++ cur.toList.drop (o + vs.length)).toArray) := by
 have hz := zero_cells hT;refine ⟨(Builtin.zeroCells i.zero.toArray n).toList, by simp [Builtin.zeroCells], ?_⟩;rintro ty consts v rfl;have h1 : ∀ v ∈ (Builtin.zeroCells i.zero.toArray n).toList, v.oneCell' = true := by
  intro v hv;simp only [Builtin.zeroCells, Array.toList_map, List.mem_map, Array.toList_range, List.mem_range] at hv;obtain ⟨k, hk, rfl⟩ := hv;have hm : k % i.zero.toArray.size < i.zero.length := by simp; exact Nat.mod_lt _ hp
  rw [getElem!_pos _ _ (by simpa using hm)];exact hT.ones _ (by simp)
 have hst := storeCells_any (P := P) (o := o) (vs := (Builtin.zeroCells i.zero.toArray n).toList) hg (by simpa [Builtin.zeroCells] using h) h1;obtain ⟨m, rfl⟩ : ∃ m, n = m + 1 := ⟨n - 1, by omega⟩;have hzr := hT.zero W;generalize (if i.ag then Value.agg i.zero.toArray else i.zero.getD 0 undef) = z at hz hzr;simp [builtin, Builtin.clear_, Sem.run_bind, run_underlying ht, hzr, Result.andThen, hz, hst]
end
theorem run_append_new {P : Program} {w : World} {t ty e : TypeId} {sz bytes : Nat} (hE : ElOk P t e sz bytes) (base b n : Nat) (xs : List Value) (hown : w.ownsRow base e sz (.slice (some ⟨b, 0, none⟩) n n) n xs)
 (sv : Value) (m : Nat) (news : List Value) (hsrc : SrcC w sv sz m news) (hm : m ≠ 0) (h1 : ∀ u ∈ news, u.oneCell' = true) (h63 : n + m <= maxLen) (hbytes : (n + m) * bytes <= 140737488355328) :
 ∃ v' w', (Builtin.append_ #[t, t] ty #[.slice (some ⟨b, 0, none⟩) n n, sv]).run P w = .ok v' w' /\ w'.ownsRow w.heap.size e sz v' (n + m) (xs ++ news) /\ w.grownBy w' none := by
 obtain ⟨ht, ⟨i, z, hi, hz, hs, hb, hzs⟩, hp⟩ := hE;obtain ⟨hl, ⟨rfl, rfl⟩ | ⟨ad, c, rfl, hc⟩⟩ := hsrc
 ·exact absurd rfl hm
 ·subst hs; subst hb
  have hsmall : n + m <= 9223372036854775807 := by simp only [maxLen] at h63; omega
  have hlen : (xs ++ news).length = (n + m) * i.size := by rw [List.length_append, hown.1, hl, Nat.add_mul]
  have holds : ∀ j u, xs[j]? = some u -> w.cell? ((⟨b, 0, none⟩ : Addr).add j) = some u := World.ownsRow.cells hown (g := b) rfl;have hr := run_append_grow (P := P) w t ty e i z ht hi hz ⟨b, 0, none⟩ n n xs hown.1 holds ad m c news hl hc (by omega) (by omega) (growslice_fits (by omega) hbytes);have hge := grownCap_ge w (n + m) n e;have hcm : grownCap w (n + m) n e <= maxLen := grownCap_le_maxLen w (n + m) n e h63;refine ⟨_, _, hr, ⟨hlen, .inr ⟨w.heap.size, _, _, rfl, Nat.le_refl _, World.alloc_heap_new w.drew _, hge, hcm, ?_, ?_⟩⟩, ⟨rfl, rfl, rfl, by simp, fun k hk _ => Below.heap_alloc w.drew _ k hk⟩⟩
  ·simp only [Array.size_append, List.size_toArray, size_zeroCells, hzs, hown.1, hl, <- Nat.add_mul]
   congr 1
   omega
  ·simp only [Array.toList_append, List.append_assoc]
   rw [<- List.append_assoc, <- hlen];exact List.take_left
section
variable {α : Type} [Enc α]
theorem GenN.appN {P : Program} {w0 : Base} {kp : List Nat -> World -> World -> Prop} [hkp : KpOk w0 kp] {hp : List LB} {r L : List Nat} {w : World} {K : Value -> World -> Prop} {t ty e : TypeId} {bytes : Nat} {consts : Array Bool} {b n : Nat} {sv : Value}
 (hE : ElOk P t e (size α) bytes) (l m : List α) (base : Nat) (hn : n = l.length) (hown : ∀ w1, At w0 hp r L w w1 -> Own e base w1 (.slice (some ⟨b, 0, none⟩) n n) l) (hsrc : ∀ w1, At w0 hp r L w w1 -> SrcC w1 sv (size α) m.length (cellsL m)) (hm : m ≠ [])
 (h63 : l.length + m.length <= maxLen) (hbytes : (l.length + m.length) * bytes <= 140737488355328)
 (hk : ∀ v' w1 w2, At w0 hp r L w w1 -> Below w1.heap.size w1 w2 -> Own e w1.heap.size w2 v' (l ++ m) -> K v' w2) :
 GenN P w0 kp (builtin .append #[t, t] ty consts #[.slice (some ⟨b, 0, none⟩) n n, sv]) hp r L w K := ⟨fun w1 h1 => by
 subst hn;obtain ⟨v', w2, hrun, ho, hg⟩ := run_append_new (ty := ty) hE base b _ _ (hown w1 h1) sv _ _ (hsrc w1 h1) (fun e => hm (List.eq_nil_of_length_eq_zero e)) (cellsL_one m) h63 hbytes;have hB : Below w1.heap.size w1 w2 := ⟨hg.os, hg.tape, hg.output, hg.size, fun k hk => hg.block k hk (by simp)⟩;refine ⟨v', w2, ?_, hkp.ok h1 hB, hk v' w1 w2 h1 hB ?_⟩
 ·simp only [builtin, Sem.run_bind, hrun, Result.andThen, Sem.run_pure]
 ·unfold Own; rw [cellsL_append, List.length_append]; exact ho⟩
end
structure Stay (w0 : Base) (l : List World) (w : World) : Prop where
 base : ∀ X, X ∈ l -> Below w0.B w0.W X
 all : ∀ X, X ∈ l -> Below X.heap.size X w
theorem Stay.start {w0 : Base} {w : World} (h : Below w0.B w0.W w) : Stay w0 [w] w :=
 ⟨fun X hX => by rw [List.mem_singleton.1 hX]; exact h, fun X hX => by rw [List.mem_singleton.1 hX]; exact Below.refl _ _⟩
theorem Stay.first {w : World} : Stay ⟨w, w.heap.size, Nat.le_refl _⟩ [w] w := Stay.start (Below.refl _ _)
section
variable {w0 : Base} {l : List World} {hp : List LB} {r L : List Nat} {w w1 w2 : World}
theorem Stay.at (st : Stay w0 l w) (h : At w0 hp r L w w1) (hL : ∀ b, b ∈ L -> w.heap.size <= b := by intro x hx; simp at hx <;> omega) : Stay w0 (w1 :: l) w1 := by
 refine ⟨fun X hX => ?_, fun X hX => ?_⟩
 ·rcases List.mem_cons.1 hX with rfl | hX
  ·exact h.below
  ·exact st.base X hX
 ·rcases List.mem_cons.1 hX with rfl | hX
  ·exact Below.refl _ _
  ·exact h.from (st.base X hX) (st.all X hX) fun b hb => Nat.le_trans (st.all X hX).size (hL b hb)
theorem Stay.go (st : Stay w0 l w) (h : w0.B <= w.heap.size) (hb : Below w0.B w0.W w) (hB : Below w.heap.size w w2) : Stay w0 (w2 :: l) w2 := by
 refine ⟨fun X hX => ?_, fun X hX => ?_⟩
 ·rcases List.mem_cons.1 hX with rfl | hX
  ·exact hb.trans (hB.mono h)
  ·exact st.base X hX
 ·rcases List.mem_cons.1 hX with rfl | hX
  ·exact Below.refl _ _
  ·exact (st.all X hX).trans (hB.mono (st.all X hX).size)
theorem Stay.next (st : Stay w0 l w) (h : At w0 hp r L w w1) (hL : ∀ b, b ∈ L -> w.heap.size <= b) (hB : Below w1.heap.size w1 w2) : Stay w0 (w2 :: w1 :: l) w2 :=
 (st.at h hL).go (Nat.le_trans w0.le h.below.size) h.below hB
theorem Stay.nx (st : Stay w0 l w) (h : At w0 hp r L w w1) (hB : Below w1.heap.size w1 w2) (hL : ∀ b, b ∈ L -> w.heap.size <= b := by intro x hx; simp at hx <;> omega) : Stay w0 (w2 :: w1 :: l) w2 := st.next h hL hB
theorem Stay.sub {m : List World} (st : Stay w0 l w) (h : ∀ X, X ∈ m -> X ∈ l) : Stay w0 m w := ⟨fun X hX => st.base X (h X hX), fun X hX => st.all X (h X hX)⟩
theorem Stay.get (st : Stay w0 l w) {X : World} (hX : X ∈ l) : Below X.heap.size X w := st.all X hX
end
theorem Sl.st {α : Type} [Enc α] {w0 : Base} {l : List World} {X w : World} {sv : Value} {m : List α} (h : Sl X.heap.size X sv m) (st : Stay w0 l w) (hX : X ∈ l := by simp) : Sl w.heap.size w sv m := h.go (st.get hX) (st.get hX).size
theorem Sl.pre {α : Type} [Enc α] {n : Nat} {W : World} {a : Option Addr} {m cap : Nat} {l : List α} (h : Sl n W (.slice a m cap) l) (hi : Nat) (h2 : hi <= l.length) : Sl n W (.slice a hi cap) (l.take hi) := by
 obtain ⟨a', cap', e, c1, c2, c3, c4⟩ := h;injection e with e1 e2 e3;subst e1; subst e2; subst e3;have hl : (l.take hi).length = hi := by simp; omega
 refine ⟨_, _, by rw [hl], by rw [hl]; omega, c2, c3, fun k x hk => ?_⟩;rw [List.getElem?_take] at hk;split at hk
 case isFalse => cases hk
 exact c4 k x hk
theorem Fresh.st {w0 : Base} {l : List World} {X w : World} {e : TypeId} {base : Nat} {sv : Value} {m : List Int} (h : Fresh e base X sv m) (st : Stay w0 l w) (hX : X ∈ l := by simp) : Fresh e base w sv m := h.below (st.get hX)
theorem Own.st {α : Type} [Enc α] {w0 : Base} {l : List World} {X w : World} {e : TypeId} {base : Nat} {sv : Value} {m : List α} (h : Own e base X sv m) (st : Stay w0 l w) (hX : X ∈ l := by simp) : Own e base w sv m := h.below (st.get hX)
theorem cells_rep {α : Type} [Enc α] (z : α) (n : Nat) : cellsL (List.replicate n z) = (List.range (n * size α)).map fun k => (enc z)[k % size α]?.getD undef := by
 induction n with
 | zero => simp [cellsL]
 | succ n ih =>
   rw [List.replicate_succ', cellsL_append, ih, Nat.succ_mul, List.range_add, List.map_append]
   congr 1
   simp only [cellsL, List.append_nil, List.map_map];apply List.ext_getElem?;intro k;rw [List.getElem?_map];rcases Nat.lt_or_ge k (size α) with h | h
   ·rw [List.getElem?_range h]
    simp only [Option.map_some, Function.comp];rw [Nat.add_comm, Nat.add_mul_mod_self_right, Nat.mod_eq_of_lt h, List.getElem?_eq_getElem (by rw [len]; exact h)]; rfl
   ·rw [List.getElem?_eq_none (by rw [len]; exact h), List.getElem?_eq_none (l := List.range (size α)) (by simpa using h)]; rfl
theorem GenV.mks {α : Type} [Enc α] {P : Program} {w0 : Base} {kp : List Nat -> World -> World -> Prop} [hkp : KpOk w0 kp] {hp : List LB} {r L : List Nat} {w : World} {K : Value -> World -> Prop} {t e : TypeId} {bytes : Nat} (hE : ElOk P t e (size α) bytes) (z : α)
 (hz : (P.info? e).map (fun i => i.zero.map fun v => v.cells.toList) = some (some (enc z))) (n : Nat) {i : Int} (hi : i = n) (hbig : n * size α <= 16777216) (hbytes : bytes * n <= 281474976710656)
 (hk : ∀ v w1 w2, At w0 hp r L w w1 -> Below w1.heap.size w1 w2 -> Own e w1.heap.size w2 v (List.replicate n z) -> K v w2) : GenV P w0 kp (Instr.makeSlice t (.int .i64 i) (.int .i64 i)) hp r L w K := ⟨fun w1 h1 => by
 subst hi;obtain ⟨ht, ⟨inf, zv, hi, hzv, hss, hby, hzs⟩, hp⟩ := hE
 obtain ⟨w2, hr2, hown, hg2⟩ := run_makeSlice_full (P := P) w1 w1.heap.size _ _ inf zv (size α) ht hi hzv hss .i64 .i64 n hbig (by rw [hby]; exact hbytes) (by
  have h1 : n * 1 <= n * size α := Nat.mul_le_mul_left n hp;unfold maxLen; omega) (Nat.le_refl _)
 have hB2 : Below w1.heap.size w1 w2 := ⟨hg2.os, hg2.tape, hg2.output, hg2.size, fun k hk => hg2.block k hk (by simp)⟩;refine ⟨_, w2, hr2, hkp.ok h1 hB2, hk _ w1 w2 h1 hB2 ?_⟩;have hzc : zv.cells.toList = enc z := by
  rw [hi] at hz;simp only [Option.map_some, Option.some.injEq, hzv] at hz;exact hz
 unfold Own;rw [List.length_replicate, cells_rep];have e1 : (madeCells zv.cells (n * size α)).toList = (List.range (n * size α)).map fun k => (enc z)[k % size α]?.getD undef := by
  unfold madeCells;simp only [Array.toList_map, Array.toList_range];refine List.map_congr_left fun k _ => ?_;rw [<- hzc];have hm : k % size α < zv.cells.size := by rw [hzs]; exact Nat.mod_lt _ hp
  rw [hzs, getElem!_pos zv.cells _ hm, Array.getElem?_toList, Array.getElem?_eq_getElem hm]; rfl
 rw [<- e1];exact hown⟩
structure Lp {α : Type} [Enc α] (w0 : Base) (l : List World) (r : List Nat) (e : TypeId) (base : Nat) (W : World) (v : Value) (xs : List α) : Prop where
 st : Stay w0 l W
 own : Own e base W v xs
 anc : ∀ X, X ∈ l -> X.heap.size <= base
 blk : ∀ b, b ∈ r -> b < base
 size : base <= W.heap.size
 b0 : w0.B <= base
section
variable {α : Type} [Enc α] {w0 : Base} {l : List World} {hp : List LB} {r r0 L : List Nat} {w w1 w2 : World} {e : TypeId} {base : Nat} {v sv : Value} {xs : List α}
theorem Lp.start (st : Stay w0 l w) (h : At w0 hp r L w w1) (hL : ∀ b, b ∈ L -> w.heap.size <= b) : Lp w0 l r e w1.heap.size w1 (.slice none 0 0) ([] : List α) := by
 have s1 := st.at h hL;refine ⟨⟨fun X hX => st.base X hX, fun X hX => s1.all X (List.mem_cons_of_mem _ hX)⟩, Own.nil, fun X hX => (s1.all X (List.mem_cons_of_mem _ hX)).size, fun b hb => h.lt b hb, Nat.le_refl _, Nat.le_trans w0.le h.below.size⟩
theorem Lp.go (lp : Lp w0 l r0 e base w v xs) (hB : Below w.heap.size w w2) : Lp w0 l r0 e base w2 v xs :=
 ⟨⟨lp.st.base, fun X hX => (lp.st.all X hX).trans (hB.mono (lp.st.all X hX).size)⟩, lp.own.below hB, lp.anc, lp.blk, Nat.le_trans lp.size hB.size, lp.b0⟩
theorem Lp.at (lp : Lp w0 l r0 e base w v xs) (h : At w0 hp r L w w1) (hL : ∀ b, b ∈ L -> w.heap.size <= b \/ b < base /\ ∀ X, X ∈ l -> X.heap.size <= b) : Lp w0 l r0 e base w1 v xs := by
 refine ⟨⟨lp.st.base, fun X hX => h.from (lp.st.base X hX) (lp.st.all X hX) fun b hb => ?_⟩, ?_, lp.anc, lp.blk, Nat.le_trans lp.size h.size, lp.b0⟩
 ·rcases hL b hb with h1 | h1
  ·exact Nat.le_trans (lp.st.all X hX).size h1
  ·exact h1.2 X hX
 ·obtain ⟨hl, h0 | ⟨g, cap, cur, e1, e2, e3, e4⟩⟩ := lp.own
  ·exact ⟨hl, .inl h0⟩
  ·have hg := (Array.getElem?_eq_some_iff.1 e3).1
   exact ⟨hl, .inr ⟨g, cap, cur, e1, e2, (h.step g hg (fun e => by have := hL g e; omega)).trans e3, e4⟩⟩
theorem GenN.appL {P : Program} {K : Value -> World -> Prop} {t ty : TypeId} {bytes : Nat} {consts : Array Bool} (hE : ElOk P t e (size α) bytes) (lp : Lp w0 l r0 e base w v xs) (hr : ∀ b, b ∈ r -> b ∈ r0 \/ w.heap.size <= b) (hL : ∀ b, b ∈ L -> w.heap.size <= b)
 (ms : List α) (hsrc : ∀ w1, At w0 hp r L w w1 -> SrcC w1 sv (size α) ms.length (cellsL ms)) (h63 : xs.length + ms.length <= 1000000) (hby : bytes <= 1000000)
 (hk : ∀ a' c' w5 w6, At w0 hp r L w w5 -> Lp w0 l r0 e base w6 (.slice a' (xs ++ ms).length c') (xs ++ ms) -> w5.heap.size <= w6.heap.size -> (∀ k, k < w5.heap.size -> k < base \/ w.heap.size <= k -> w6.heap[k]? = w5.heap[k]?) -> K (.slice a' (xs ++ ms).length c') w6) :
 GenN P w0 (Keep w0) (builtin .append #[t, t] ty consts #[v, sv]) hp r L w K := by
 have hLp : ∀ w1, At w0 hp r L w w1 -> Lp w0 l r0 e base w1 v xs := fun w1 h1 => lp.at h1 fun b hb => .inl (hL b hb);have hrow : ∀ k, v.ownBlock = some k -> w0.B <= k /\ k ∉ r := fun k hk => by
  have h1 := lp.own.lt k hk;refine ⟨Nat.le_trans lp.b0 h1.1, fun hm => ?_⟩;rcases hr k hm with h2 | h2
  ·have := lp.blk k h2; omega
  ·omega
 refine GenN.app (α := α) hE xs ms base (fun w1 h1 => (hLp w1 h1).own) hsrc (by unfold maxLen; omega) ?_ (fun w1 h1 => Nat.le_trans lp.size h1.size) (fun w1 w2 h1 hg => keep_grown h1 hg hrow) fun v' w5 w6 h5 hg hO => ?_
 ·calc _ <= 1000000 * 1000000 := Nat.mul_le_mul h63 hby
   _ <= _ := by decide
 ·obtain ⟨a', c', rfl⟩ := hO.form
  have h5' := hLp w5 h5;refine hk a' c' w5 w6 h5 ⟨⟨lp.st.base, fun X hX => ?_⟩, hO, lp.anc, lp.blk, Nat.le_trans h5'.size hg.size, lp.b0⟩ hg.size fun k hk hkb => ?_
  ·have hX5 := h5'.st.all X hX
   refine ⟨hg.os.trans hX5.os, hg.tape.trans hX5.tape, hg.output.trans hX5.output, Nat.le_trans hX5.size hg.size, fun k hk => ?_⟩;refine (hg.block k (Nat.lt_of_lt_of_le hk hX5.size) (fun e => ?_)).trans (hX5.block k hk);have h1 := lp.own.lt k e.symm;have h2 := lp.anc X hX;omega
  ·refine hg.block k hk (fun e => ?_)
   have h1 := lp.own.lt k e.symm;omega
def Lq (α : Type) [Enc α] (w0 : Base) (l : List World) (r : List Nat) (e : TypeId) (W : World) (v : Value) (b : Nat) (x0 xs : List α) : Prop :=
 (v = .slice (some ⟨b, 0, none⟩) x0.length x0.length /\ xs = x0 /\ Stay w0 l W) \/ ∃ base, Lp w0 l r e base W v xs
theorem Lq.st {b : Nat} {x0 : List α} (h : Lq α w0 l r e w v b x0 xs) : Stay w0 l w := by
 rcases h with ⟨_, _, h⟩ | ⟨_, h⟩
 ·exact h
 ·exact h.st
theorem Lq.at {b : Nat} {x0 : List α} (lq : Lq α w0 l r0 e w v b x0 xs) (h : At w0 hp r [] w w1) : Lq α w0 l r0 e w1 v b x0 xs := by
 rcases lq with ⟨e1, e2, h1⟩ | ⟨base, h1⟩
 ·exact .inl ⟨e1, e2, (h1.at h (by simp)).sub fun X hX => List.mem_cons_of_mem _ hX⟩
 ·exact .inr ⟨base, h1.at h (by simp)⟩
theorem Lq.go {b : Nat} {x0 : List α} (lq : Lq α w0 l r0 e w v b x0 xs) (hB : Below w.heap.size w w2) : Lq α w0 l r0 e w2 v b x0 xs := by
 rcases lq with ⟨e1, e2, h1⟩ | ⟨base, h1⟩
 ·exact .inl ⟨e1, e2, h1.base, fun X hX => (h1.all X hX).trans (hB.mono (h1.all X hX).size)⟩
 ·exact .inr ⟨base, h1.go hB⟩
theorem Lq.sl {b : Nat} {x0 : List α} (lq : Lq α w0 l r0 e w v b x0 xs) (h : At w0 hp r [] w w1) (i : Nat) {c : LB} (hi : r[i]? = some b) (hc : hget hp i = some c) (hm : denL r c.cells = cellsL x0) (hmax : x0.length <= maxLen) : Sl w1.heap.size w1 v xs := by
 rcases lq with ⟨e1, e2, h1⟩ | ⟨base, h1⟩
 ·subst e1; subst e2
  exact Sl.own h i hi hc hm (Nat.le_refl _) hmax
 ·exact (h1.at h (by simp)).own.sl
end
end
end Go.Proofs.YtanhnllkccldhaaGreat
namespace Go.Proofs.YtanhnllkccldhaaGreat.Eng
set_option linter.unusedVariables false
set_option linter.unusedSimpArgs false
open Go Go.RowKit Go.Shelf Go.Proofs
section
variable {cx : Cx} {w0 : Base}
theorem rangeE (hcx : CxOk cx) {n : Nat} (h1 : 1 <= n) {s : St} {a : Act} {w : World} (hR : Rel w0 s a w) {g : Operand} {ps : Array Tmp} {x y : Code} {K : Exit -> St -> Prop} {gf : Nat} {lb : Array Value}
 (hg : ev s.fr g = .val (.func (.func gf) #[] lb)) (eg : Enters cx.P gf)
 {α : Type} {encs : α -> List Value} {Kp : World -> World -> Prop} {S Sp : List α -> Prop} {N : Nat} (hseq : SeqStopsK Fence.wide (n - 1) cx.P gf lb (fun x => (encs x).toArray) Kp S Sp N w)
 (hKt : ∀ {A B C : World}, Kp A B -> Kp B C -> Kp A C) (hKb : ∀ (W : World) (l : Nat) (o o' : Obj), w.heap.size <= l -> W.heap[l]? = some o -> o.isCells = false -> o.isWalk = false -> Kp W (W.putObj l o'))
 (hKg : ∀ W W', w.heap.size <= W.heap.size -> W.grownBy W' none -> Kp W W') (hps : ∀ x, (encs x).length = ps.size)
 {γ : Type} (hpf : γ -> List LB) (Φ : List α -> γ -> World -> Prop) (hΦ : ∀ c, OwnFrom w.heap.size fun pre W => Φ pre c W) (c0 : γ) (hp0 : hpf c0 = s.hp) (hΦ0 : Φ [] c0 w)
 (Ix : Code -> List α -> γ -> World -> Prop) (hpx : Code -> γ -> List LB) (hIx : ∀ c q, OwnFrom w.heap.size fun pre W => Ix c pre q W)
 (frx : α -> Fr)
 (hassign : ∀ l z hp W, codeD (Fence.wide.inRound l) (n - 1 - 1) cx w0 x (fun e s' => e = .normal /\ s' = ⟨frx z, hp, s.r, [], W, []⟩) ⟨setP s.fr ps.toList (encs z), hp, s.r, [], W, []⟩)
 (hbody : ∀ l pre x c W, Φ pre c W -> Below w0.B w0.W W -> w.heap.size <= W.heap.size -> pre.length < N -> codeD (Fence.wide.inRound l) (n - 1 - 1) cx w0 y
   (fun e s' => match e with
     | .normal => s'.on fun fr2 hp2 r2 L2 w2 df2 => ∃ c', Need (CovH (hpf c') s.r ⟨fr2, hp2, r2, L2, w2, df2⟩) (EndI w0 hp2 r2 L2 w2 undef fun _ w1 => KeepsFrom w.heap.size W w1 /\ Kp W w1 /\ Φ (pre ++ [x]) c' w1)
     | .ret => s'.on fun fr2 hp2 r2 L2 w2 df2 => ∃ c', Need (CovH (hpx .ret c') s.r ⟨fr2, hp2, r2, L2, w2, df2⟩) (EndI w0 hp2 r2 L2 w2 undef fun _ w1 => KeepsFrom w.heap.size W w1 /\ Ix .ret (pre ++ [x]) c' w1)
     | .exit id => s'.on fun fr2 hp2 r2 L2 w2 df2 => ∃ c', Need (CovH (hpx (.exit id) c') s.r ⟨fr2, hp2, r2, L2, w2, df2⟩) (EndI w0 hp2 r2 L2 w2 undef fun _ w1 => KeepsFrom w.heap.size W w1 /\ Ix (.exit id) (pre ++ [x]) c' w1)
     | _ => False) ⟨frx x, hpf c, s.r, [], W, []⟩)
 (hdone : ∀ D xs c W, w.heap.size <= D -> S xs -> Φ xs c W -> W.heap[D]? = some (.deferred (some [])) -> K .normal ⟨s.fr, hpf c, s.r, [], W, { target := .collected D, args := #[] } :: s.df⟩)
 (hstop : ∀ D c e pre q W, w.heap.size <= D -> Sp pre -> Ix c pre q W -> exitOf c = some e -> W.heap[D]? = some (.deferred (some [])) -> K e ⟨s.fr, hpx c q, s.r, [], W, { target := .collected D, args := #[] } :: s.df⟩) :
 (Code.rangeFunc g ps x y).wpIn Fence.wide n cx.P (fun e a' w' => ∃ s', Rel w0 s' a' w' /\ K e s') a w := by
 have hev := hR.ev1 hg (by simp) [];simp only [SV.den] at hev;have hB : w0.B <= w.heap.size := Nat.le_trans w0.le hR.at_.below.size;have ownR : ∀ (hp : List LB), OwnFrom w.heap.size (fun (pre : List α) W => Rel w0 ⟨s.fr, hp, s.r, [], W, s.df⟩ a W) := fun hp pre W W' row h hgr hr =>
  h.keep (grown_keep h hB hgr hr)
 have withD : ∀ {hp : List LB} {W : World} (D : Nat), Rel w0 ⟨s.fr, hp, s.r, [], W, s.df⟩ a W -> Rel w0 ⟨s.fr, hp, s.r, [], W, { target := .collected D, args := #[] } :: s.df⟩ { a with defers := { target := .collected D, args := #[] } :: a.defers } W := fun {hp} {W} D h =>
  ⟨congrArg (_ :: ·) h.df, h.fits, ⟨h.at_.below, h.at_.size, h.at_.step, h.at_.blk, h.at_.fresh, h.at_.lt, h.at_.base⟩, h.blk, h.nod, h.len⟩
 have inner : ∀ {hp : List LB} {W : World} {a' : Act} {fr : Fr}, Rel w0 ⟨s.fr, hp, s.r, [], W, s.df⟩ a W -> a'.defers = [] -> (∀ t, Fits (s.r ++ t) fr a'.tmps) -> Rel w0 ⟨fr, hp, s.r, [], W, []⟩ a' W := fun {hp} {W} {a'} {fr} h hd hf =>
  ⟨hd, hf, ⟨h.at_.below, h.at_.size, h.at_.step, h.at_.blk, h.at_.fresh, h.at_.lt, h.at_.base⟩, h.blk, h.nod, h.len⟩
 refine wpIn_rangeFunc_ownH rfl h1 hev trivial eg hseq hKt hKb (Below.refl _ _) (fun x => by simp [hps]) (fun pre W => ∃ c, Rel w0 ⟨s.fr, hpf c, s.r, [], W, s.df⟩ a W /\ w.heap.size <= W.heap.size /\ Φ pre c W)
  (fun c pre W => (∃ e, exitOf c = some e) /\ ∃ q, Rel w0 ⟨s.fr, hpx c q, s.r, [], W, s.df⟩ a W /\ Ix c pre q W)
  ?_ ?_ ?_ (fun x a' _ => a'.defers = [] /\ ∀ t, Fits (s.r ++ t) (frx x) a'.tmps) (fun _ _ _ _ _ _ h _ _ => h) ?_ ?_ ?_ ?_
 ·exact fun pre W W' row ⟨c, h⟩ hgr hr => ⟨c, ownR (hpf c) pre W W' row h.1 hgr hr, Nat.le_trans h.2.1 hgr.size, hΦ c pre W W' row h.2.2 hgr hr⟩
 ·exact fun c pre W W' row ⟨h0, q, h⟩ hgr hr => ⟨h0, q, ownR (hpx c q) pre W W' row h.1 hgr hr, hIx c q pre W W' row h.2 hgr hr⟩
 ·have h0 := hR.keep keep_refl
  refine ⟨c0, ?_, Nat.le_refl _, hΦ0⟩;rw [hp0]; exact h0
 ·rintro l pre z W K' ⟨c, hI⟩ hK
  have hr1 := rel_sets (w0 := w0) (s := ⟨s.fr, hpf c, s.r, [], W, []⟩) (a := ⟨a.tmps, []⟩) (inner hI.1 rfl hI.1.fits) ps.toList (encs z);have e1 : (ps.zip (encs z).toArray).foldl (fun (t : Array Value) (x : Nat × Value) => t.setIfInBounds x.1 x.2) a.tmps = sets a.tmps ps.toList (encs z) := by
   rw [<- sets_eq]
  show x.wpIn _ _ _ _ ({ tmps := (ps.zip (encs z).toArray).foldl (fun (t : Array Value) (x : Nat × Value) => t.setIfInBounds x.1 x.2) a.tmps, defers := [] } : Act) W;rw [e1];refine codeD_round hcx l _ _ _ _ _ W _ (hassign l z (hpf c) W) hr1 ?_;rintro e s' a' W' ⟨rfl, rfl⟩ hR';have hgr := grown_of_at (a2 := a) hI.1 hR'.at_ rfl rfl;refine hK a' W' ⟨hgr.size, fun k o _ hk _ => (hgr.block k (Array.getElem?_eq_some_iff.1 hk).1 (by simp)).trans hk⟩ (hKg W W' hI.2.1 hgr) ⟨c, ownR (hpf c) pre W W' none hI.1 hgr (by simp), Nat.le_trans hI.2.1 hgr.size, hΦ c pre W W' none hI.2.2 hgr (by simp)⟩ ⟨hR'.df, hR'.fits⟩
 ·rintro l pre x a' W _ _ ⟨c, hI⟩ hA hN
  refine codeD_round hcx l _ y _ _ _ W _ (hbody l pre x c W hI.2.2 hI.1.at_.below hI.2.1 hN) (inner hI.1 hA.1 hA.2) ?_;intro e s' a2 w1 hK hR';cases e with
  | normal =>
    simp only [St.on_eq] at hK;obtain ⟨c', h1, h2⟩ := hK;obtain ⟨h3, h4, h5⟩ := h2.h w1 hR'.at_;exact ⟨h3, h4, c', covH_rel (s := ⟨s.fr, hpf c, s.r, [], W, s.df⟩) hI.1 hR' h1, Nat.le_trans hI.2.1 h3.size, h5⟩
  | ret =>
    simp only [St.on_eq] at hK;obtain ⟨c', h1, h2⟩ := hK;obtain ⟨h3, h5⟩ := h2.h w1 hR'.at_;exact ⟨h3, ⟨_, rfl⟩, c', covH_rel (s := ⟨s.fr, hpf c, s.r, [], W, s.df⟩) hI.1 hR' h1, h5⟩
  | exit id =>
    simp only [St.on_eq] at hK;obtain ⟨c', h1, h2⟩ := hK;obtain ⟨h3, h5⟩ := h2.h w1 hR'.at_;exact ⟨h3, ⟨_, rfl⟩, c', covH_rel (s := ⟨s.fr, hpf c, s.r, [], W, s.df⟩) hI.1 hR' h1, h5⟩
  | goto l => exact hK.elim
  | panic ch => exact hK.elim
  | outgrown => exact hK.elim
 ·rintro D xs W hD hS ⟨c, hI⟩ hd
  exact ⟨_, withD D hI.1, hdone D xs c W hD hS hI.2.2 hd⟩
 ·intro D c pre W hD hS hI hd
  obtain ⟨⟨e, he⟩, q, hRx, hix⟩ := hI;have hk := hstop D c e pre q W hD hS hix he hd;cases c <;> simp only [exitOf] at he <;> try (cases he; done)
  ·injection he with he; subst he; exact wpIn_exit ⟨_, withD D hRx, hk⟩
  ·injection he with he; subst he; exact wpIn_ret ⟨_, withD D hRx, hk⟩
end
end Go.Proofs.YtanhnllkccldhaaGreat.Eng
namespace Go.Proofs.YtanhnllkccldhaaGreat
set_option linter.unusedVariables false
set_option linter.unusedSimpArgs false
set_option maxRecDepth 100000
section
open Go.RowKit Go.Proofs.YtanhnllkccldhaaGreat.Eng Enc
namespace Dbm
def topB (n k : Nat) : Int := if k / n = k % n then 1 else 9223372036854775807
def topL (n : Nat) : List Int := (List.range (n * n)).map (topB n)
def top (n : Int) : Int × List Int × Int := if 1 <= n /\ n <= 4 then (n, topL n.toNat, 0) else (0, [], 2)
end Dbm
theorem top_any (n : Int) (w : World) :
 Calls Tryz.prog 36 #[.int .i64 n] w (Ret w fun v w' => ∃ a' cap', v = .tuple #[.agg #[.int .i64 (Dbm.top n).1, .slice a' (Dbm.top n).2.1.length cap'], .int .i64 (Dbm.top n).2.2] /\ Own TB w.heap.size w' (.slice a' (Dbm.top n).2.1.length cap') (Dbm.top n).2.1) := by
 refine fun_at 9 w.heap.size w (Nat.le_refl _) Tryz.func36 (args := [.val (.int .i64 n)]) rfl rfl ?_;refine NewI.mk fun b1 hb1 => ?_;refine Branch.mk (fun hc => ?_) (fun hc => ?_)
 ·refine EndI.mk fun w3 h3 => ?_
  have : n < 1 := by simpa using hc
  rw [Dbm.top, if_neg (by omega)];exact ⟨_, _, rfl, Own.nil⟩
 refine Branch.mk (fun hc2 => ?_) (fun hc2 => ?_)
 ·refine EndI.mk fun w3 h3 => ?_
  have : 4 < n := by simpa using hc2
  rw [Dbm.top, if_neg (by omega)];exact ⟨_, _, rfl, Own.nil⟩
 have hn : 1 <= n /\ n <= 4 := by
  have h1 : ¬ n < 1 := by simpa using hc
  have h2 : ¬ 4 < n := by simpa using hc2
  omega
 rw [Dbm.top, if_pos hn];obtain ⟨N, rfl⟩ : ∃ N : Nat, n = N := ⟨n.toNat, by omega⟩;have hN1 : 1 <= N := by omega
 rw [Int.toNat_natCast];refine NewI.mk fun b2 hb2 => ?_;apply CallI.mk;intro w7 h7;refine (callsIn_wide.1 (pairs_any N w7)).mono ?_;rintro e w8 ⟨rfl, rfl⟩;have hB1 : Below w7.heap.size w7 (w7.alloc (.cells #[.int .i64 (N : Int)] 3)) := below_al (Below.refl _ _);refine ⟨h7.keep hB1, _, rfl, ?_⟩;have hBs : (w7.alloc (.cells #[.int .i64 (N : Int)] 3)).cell? ⟨w7.heap.size, 0, none⟩ = some (.int .i64 N) := by simp
 have hsz : w7.heap.size < (w7.alloc (.cells #[.int .i64 (N : Int)] 3)).heap.size := by simp
 have hBsb : ∀ b, b ∈ [b1, b2] -> b ≠ w7.heap.size := fun b hb e => by have := h7.lt b hb; omega
 have hwBs : w.heap.size <= w7.heap.size := h7.below.size;generalize w7.alloc (.cells #[.int .i64 (N : Int)] 3) = w8 at hBs hsz hB1;generalize w7.heap.size = Bs at hBs hsz hBsb hwBs;refine RawI.mk fun ac w1 hR => ?_;have h1 := hR.at_;have hBs9 : Bs < w1.heap.size := Nat.lt_of_lt_of_le hsz h1.size;have hc9 : w1.cell? ⟨Bs, 0, none⟩ = some (.int .i64 (N : Int)) := (h1.go.cell (p := ⟨Bs, 0, none⟩) hsz).trans hBs;have hl1 := h1.lt b1 (by simp);have hl2 := h1.lt b2 (by simp)
 refine rangeE cxOk (by decide) hR rfl Tryz.call114 (pairs_stops N (by omega) (by omega) (N * N) rfl Bs w1 hBs9 hc9) (encs := fun x => (encPI N x).toList) (fun h k => k.trans h) (fun W l o o' => keepsBox_put hBs9 W l o o')
  (fun W W' hs hg => World.cell?_of_block (hg.block Bs (Nat.lt_of_lt_of_le hBs9 hs) (by rintro ⟨⟩))) (fun x => rfl) (γ := Value) (fun v => [⟨[.val (.int .i64 0), .val (.slice none 0 0)], 81⟩, ⟨[.val (.int .i64 N), .val v], 81⟩])
  (fun pre v W => Own TB w1.heap.size W v (pre.map fun x => Dbm.topB N x.1)) ?_ (.slice none 0 0) rfl Own.nil (fun _ _ _ _ => False) (fun _ _ => []) (fun _ _ _ _ _ _ h _ _ => h) _
  (fun l z hp W => And.intro rfl rfl) ?_ ?_ (fun _ _ _ _ _ _ _ _ h => h.elim)
 ·intro v pre W W' row hO hg hr
  refine Own.kept hO hg ?_;obtain ⟨_, ⟨rfl, _⟩ | ⟨g, c, cur, rfl, _, hgb, _⟩⟩ := id hO
  ·exact .inl rfl
  ·refine .inr (fun e => ?_)
   obtain ⟨_, o, ho, hcl⟩ := hr g e.symm;rw [hgb] at ho; cases ho; cases hcl
 ·intro l pre x v W hO hBW hsW hlt
  have hO1 : Own TB w1.heap.size W v (pre.map fun x => Dbm.topB N x.1) := hO;have hNN : N * N <= 4 * 4 := Nat.mul_le_mul (by omega) (by omega);have ed : ((x.val : Int) / N) = ((x.val / N : Nat) : Int) := rfl;have em : ((x.val : Int) % N) = ((x.val % N : Nat) : Int) := rfl;refine Branch.mk (fun hc3 => ?_) (fun hc3 => ?_)
  ·have hval : Dbm.topB N x.1 = 1 := by
    unfold Dbm.topB;rw [if_pos (by (have : (x.val : Int) / N = (x.val : Int) % N := by simpa using hc3); rw [ed, em] at this; omega)]
   refine NewI.mk fun b3 hb3 => ?_;have hb3' : W.heap.size <= b3 := hb3;have hr : ∀ k, v.ownBlock = some k -> w.heap.size <= k /\ k ∉ [b1, b2, b3] := fun k hk => by
    have := hO1.lt k hk;refine ⟨Nat.le_trans h1.below.size this.1, fun hm => ?_⟩;simp only [List.mem_cons, List.not_mem_nil, or_false] at hm;omega
   refine GenN.app (α := Int) elB (pre.map fun x => Dbm.topB N x.1) [Dbm.topB N x.1] w1.heap.size (fun w5 h5 => hO1.below h5.go) (fun w5 h5 => src_own h5 2 rfl rfl (by rw [hval]; rfl) rfl) (by unfold maxLen; simp; omega) (by simp; omega) (fun w5 h5 => Nat.le_trans hsW h5.size)
    (fun w5 w6 h5 hg => keep_grown h5 hg hr) fun sv' w5 w6 h5 hg hO' => ?_
   obtain ⟨a', c', rfl⟩ := hO'.form;refine ⟨.slice a' ((pre.map fun x => Dbm.topB N x.1) ++ [Dbm.topB N x.1]).length c', ?_⟩;refine Need.mk (CovH.mk rfl rfl rfl) (EndI.mk fun w7 h7 => ?_);have hW7 : W.heap.size <= w7.heap.size := Nat.le_trans h5.size (Nat.le_trans hg.size h7.size);have row : ∀ k, k < w1.heap.size -> v.ownBlock ≠ some k := fun k hk e => by have := hO1.lt k e; omega
   refine ⟨⟨hW7, fun k o _ hk hcl => ?_⟩, ?_, ?_⟩
   ·have hkW : k < W.heap.size := (Array.getElem?_eq_some_iff.1 hk).1
    have e5 : w5.heap[k]? = some o := (h5.go.block k hkW).trans hk;have e6 : w6.heap[k]? = some o := by
     refine (hg.block k (Nat.lt_of_lt_of_le hkW h5.size) (fun e => ?_)).trans e5;obtain ⟨_, ⟨rfl, _⟩ | ⟨g, c, cur, rfl, _, hgb, _⟩⟩ := id hO1
     ·cases e
     ·injection e with e
      subst e;rw [hgb] at hk; cases hk; cases hcl
    refine (h7.step k (Nat.lt_of_lt_of_le hkW (Nat.le_trans h5.size hg.size)) (fun hm => ?_)).trans e6;simp at hm;subst hm;have := h5.blk 1 _ ⟨_, _⟩ (by rfl) (by rfl);rw [e5] at this; cases this; cases hcl
   ·refine World.cell?_of_block ?_
    have hBW : Bs < W.heap.size := Nat.lt_of_lt_of_le hBs9 hsW;refine (h7.step Bs (Nat.lt_of_lt_of_le hBW (Nat.le_trans h5.size hg.size)) (fun hm => ?_)).trans ((hg.block Bs (Nat.lt_of_lt_of_le hBW h5.size) (fun e => row Bs hBs9 e.symm)).trans (h5.go.block Bs hBW));simp at hm;exact hBsb b2 (by simp) hm.symm
   ·have e1 : (pre ++ [x]).map (fun x => Dbm.topB N x.1) = (pre.map fun x => Dbm.topB N x.1) ++ [Dbm.topB N x.1] := by simp
    rw [e1];exact hO'.at h7 (fun b hb => by simp at hb; subst hb; exact hl2)
  ·have hval : Dbm.topB N x.1 = 9223372036854775807 := by
    unfold Dbm.topB;rw [if_neg (by (have : ¬ (x.val : Int) / N = (x.val : Int) % N := by simpa using hc3); rw [ed, em] at this; omega)]
   refine NewI.mk fun b3 hb3 => ?_;have hb3' : W.heap.size <= b3 := hb3;have hr : ∀ k, v.ownBlock = some k -> w.heap.size <= k /\ k ∉ [b1, b2, b3] := fun k hk => by
    have := hO1.lt k hk;refine ⟨Nat.le_trans h1.below.size this.1, fun hm => ?_⟩;simp only [List.mem_cons, List.not_mem_nil, or_false] at hm;omega
   refine GenN.app (α := Int) elB (pre.map fun x => Dbm.topB N x.1) [Dbm.topB N x.1] w1.heap.size (fun w5 h5 => hO1.below h5.go) (fun w5 h5 => src_own h5 2 rfl rfl (by rw [hval]; rfl) rfl) (by unfold maxLen; simp; omega) (by simp; omega) (fun w5 h5 => Nat.le_trans hsW h5.size)
    (fun w5 w6 h5 hg => keep_grown h5 hg hr) fun sv' w5 w6 h5 hg hO' => ?_
   obtain ⟨a', c', rfl⟩ := hO'.form;refine ⟨.slice a' ((pre.map fun x => Dbm.topB N x.1) ++ [Dbm.topB N x.1]).length c', ?_⟩;refine Need.mk (CovH.mk rfl rfl rfl) (EndI.mk fun w7 h7 => ?_);have hW7 : W.heap.size <= w7.heap.size := Nat.le_trans h5.size (Nat.le_trans hg.size h7.size);have row : ∀ k, k < w1.heap.size -> v.ownBlock ≠ some k := fun k hk e => by have := hO1.lt k e; omega
   refine ⟨⟨hW7, fun k o _ hk hcl => ?_⟩, ?_, ?_⟩
   ·have hkW : k < W.heap.size := (Array.getElem?_eq_some_iff.1 hk).1
    have e5 : w5.heap[k]? = some o := (h5.go.block k hkW).trans hk;have e6 : w6.heap[k]? = some o := by
     refine (hg.block k (Nat.lt_of_lt_of_le hkW h5.size) (fun e => ?_)).trans e5;obtain ⟨_, ⟨rfl, _⟩ | ⟨g, c, cur, rfl, _, hgb, _⟩⟩ := id hO1
     ·cases e
     ·injection e with e
      subst e;rw [hgb] at hk; cases hk; cases hcl
    refine (h7.step k (Nat.lt_of_lt_of_le hkW (Nat.le_trans h5.size hg.size)) (fun hm => ?_)).trans e6;simp at hm;subst hm;have := h5.blk 1 _ ⟨_, _⟩ (by rfl) (by rfl);rw [e5] at this; cases this; cases hcl
   ·refine World.cell?_of_block ?_
    have hBW : Bs < W.heap.size := Nat.lt_of_lt_of_le hBs9 hsW;refine (h7.step Bs (Nat.lt_of_lt_of_le hBW (Nat.le_trans h5.size hg.size)) (fun hm => ?_)).trans ((hg.block Bs (Nat.lt_of_lt_of_le hBW h5.size) (fun e => row Bs hBs9 e.symm)).trans (h5.go.block Bs hBW));simp at hm;exact hBsb b2 (by simp) hm.symm
   ·have e1 : (pre ++ [x]).map (fun x => Dbm.topB N x.1) = (pre.map fun x => Dbm.topB N x.1) ++ [Dbm.topB N x.1] := by simp
    rw [e1];exact hO'.at h7 (fun b hb => by simp at hb; subst hb; exact hl2)
 ·rintro D xs v W hD hSx hO hmark
  have hDW : D < W.heap.size := (Array.getElem?_eq_some_iff.1 hmark).1;have hO1 : Own TB w1.heap.size W v (xs.map fun x => Dbm.topB N x.1) := hO;have hxs : (xs.map fun x => Dbm.topB N x.1) = Dbm.topL N := by
   unfold Dbm.topL;rw [<- hSx, List.map_map]; rfl
  rw [hxs] at hO1;obtain ⟨a', c', rfl⟩ := hO1.form;have hDb : D ∉ [b1] := fun hm => by simp at hm; omega
  refine EndM.mk fun w10 h10 => ⟨⟨Nat.le_trans h1.below.size hD, (h10.step D hDW hDb).trans hmark⟩, fun w11 hu => ?_⟩;have hO10 := hO1.at h10 (fun b hb => by simp at hb; subst hb; exact hl1);refine ⟨_, _, rfl, (Own.kept (row := some D) hO10 ⟨hu.2.1, hu.2.2.1, hu.2.2.2.1, by rw [hu.1]; exact Nat.le_refl _, fun k _ hk => hu.2.2.2.2 k (fun e => hk (by rw [e]))⟩ ?_).lower h1.below.size⟩;obtain ⟨_, ⟨e, _⟩ | ⟨g, c, cur, e, _, hgb, _⟩⟩ := id hO10
  ·rw [e]; exact .inl rfl
  ·rw [e]
   refine .inr (fun e' => ?_);injection e' with e';subst e';have := (h10.step _ hDW hDb).trans hmark;rw [hgb] at this; cases this
structure Svl where
 a : Option Addr
 len : Nat
 cap : Nat
instance encSvl : Enc Svl := ⟨fun x => [.slice x.a x.len x.cap], 1, fun _ => rfl, by decide, fun _ v hv => by rw [List.mem_singleton.1 hv]; rfl, fun x => .slice x.a x.len x.cap⟩
section
variable {α : Type} [Enc α]
theorem cellsL_set (l : List α) (k : Nat) (x : α) (hk : k < l.length) : cellsL (l.set k x) = (cellsL l).take (k * size α) ++ enc x ++ (cellsL l).drop (k * size α + size α) := by
 induction l generalizing k with
 | nil => simp at hk
 | cons y l ih =>
   cases k with
   | zero =>
     simp only [List.set_cons_zero, cellsL, Nat.zero_mul, List.take_zero, List.nil_append, Nat.zero_add];rw [List.drop_append_of_le_length (by rw [Enc.len]; exact Nat.le_refl _), List.drop_of_length_le (by rw [Enc.len]; exact Nat.le_refl _), List.nil_append]
   | succ k =>
     have hk' : k < l.length := by simpa using hk
     simp only [List.set_cons_succ, cellsL, ih k hk'];have e1 : (k + 1) * size α = size α + k * size α := by rw [Nat.succ_mul]; omega
     rw [e1, List.take_append, List.drop_append, Enc.len, List.take_of_length_le (l := enc y) (by rw [Enc.len]; omega), List.drop_of_length_le (l := enc y) (by rw [Enc.len]; omega)];rw [show size α + k * size α - size α = k * size α by omega, show size α + k * size α + size α - size α = k * size α + size α by omega, List.nil_append];simp only [List.append_assoc]
theorem Own.set {e : TypeId} {base : Nat} {W : World} {g n cap : Nat} {l : List α} (h : Own e base W (.slice (some ⟨g, 0, none⟩) n cap) l) {cur : Array Value} (hc : W.heap[g]? = some (.cells cur e (0, 0))) (k : Nat) (hk : k < l.length) (x : α) :
 Own e base (W.setRow g (cur.toList.take (k * size α) ++ enc x ++ cur.toList.drop (k * size α + (enc x).length)).toArray) (.slice (some ⟨g, 0, none⟩) n cap) (l.set k x) := by
 obtain ⟨rfl, hb, hlt, cur', hg, hn, hm, hs, ht⟩ := h.at0;rw [hg] at hc;injection hc with hc; injection hc with hc _; subst hc;have hkk : (k + 1) * size α <= l.length * size α := Nat.mul_le_mul_right _ hk;rw [Nat.succ_mul] at hkk;have hcl : l.length * size α <= cap * size α := Nat.mul_le_mul_right _ hn;refine ⟨by rw [cellsL_len, List.length_set], .inr ⟨g, cap, _, by rw [List.length_set], hb, setRow_heap W g cur' _ e _ hg, by rw [List.length_set]; exact hn, hm, ?_, ?_⟩⟩
 ·simp only [List.size_toArray, List.length_append, List.length_take, List.length_drop, Array.length_toList, Enc.len]; omega
 ·rw [List.length_set, cellsL_set l k x hk, <- ht]
  have hl : cur'.toList.length = cap * size α := by rw [Array.length_toList, hs]
  apply List.ext_getElem?;intro j;simp only [List.getElem?_append, List.getElem?_take, List.getElem?_drop, List.length_append, List.length_take, Enc.len, hl];rw [show min (k * size α) (cap * size α) = k * size α by omega, show min (k * size α) (min (l.length * size α) (cap * size α)) = k * size α by omega]
  by_cases h1 : j < k * size α
  ·have h1' : j < k * size α + size α := by omega
   have h1'' : j < l.length * size α := by omega
   simp only [h1, h1', h1'', if_true]
  ·by_cases h2 : j < k * size α + size α
   ·have h2' : j < l.length * size α := by omega
    simp only [h1, h2, h2', if_true, if_false]
   ·by_cases h3 : j < l.length * size α
    ·have h3' : k * size α + size α + (j - (k * size α + size α)) < l.length * size α := by omega
     simp only [h1, h2, h3, h3', if_true, if_false]
    ·have h3' : ¬ k * size α + size α + (j - (k * size α + size α)) < l.length * size α := by omega
     simp only [h1, h2, h3, h3', if_false]
theorem Sl.ldv {n : Nat} {W w : World} {L : List Nat} {a : Option Addr} {ad : Addr} {m cap : Nat} {l : List α} (h : Sl n W (.slice a m cap) l) {k : Nat} {x : α} (hk : l[k]? = some x) {v : Value} (hv : enc x = [v]) (had : a = some ad) (hB : Below n W w) (hL : ∀ b, b ∈ L -> n <= b) {K : Value -> Prop} (hK : K v) :
 LoadI w L (ad.add ((k : Int).toNat * 1)) K := by
 subst had;have hs : size α = 1 := by have := Enc.len x; rw [hv] at this; exact this.symm
 obtain ⟨h1, h2⟩ := h.cell hk hB;have h3 := h2 0 v (by rw [hv]; rfl);have h0 : ∀ q : Addr, q.add 0 = q := fun q => by simp [Addr.add]
 rw [h0, hs] at h3;refine ⟨⟨_, ⟨h3, fun e => ?_⟩, hK⟩⟩;have hb : (ad.add ((k : Int).toNat * 1)).block = ad.block := by unfold Addr.add; split <;> rfl
 rw [hb] at e;have := hL _ e; omega
end
theorem infoZone : (Tryz.prog.info? 86).map (fun i => (i.zero, i.size, i.bytes)) = some (some (.agg #[.int .i64 0, .int .i64 0, .int .i64 0, .int .i64 0, .int .i64 0, .int .i64 0]), 6, 48) := by kernel_rfl
theorem elZ : ElOk Tryz.prog 22 86 6 48 := elOk (by kernel_rfl) infoZone rfl (by decide)
abbrev TZ : TypeId := 86
namespace Zo
def matL (z : Zn) : List Int := [1, z.b, z.d, z.a, 1, z.f, z.c, z.e, 1]
theorem kpD_set {w0 : Base} {wr : World} {M r : List Nat} {w1 : World} {g x : Nat} {v : Value} (hg : w0.B <= g) (hr : ∀ b, b ∈ r -> b ≠ g) (hM : g ∈ M) : kpD w0 wr M r w1 (w1.setCell ⟨g, x, none⟩ v) := fun _ =>
 ⟨keep_set hg hr, fun k hk hkm => Below.heap_setCell _ _ _ _ (fun e => hkm (e ▸ hM))⟩
end Zo
theorem places_any (w : World) : Calls Tryz.prog 121 #[] w fun e w' => e = .returned (.agg #[.int .i64 3, .int .i64 1, .int .i64 6, .int .i64 2, .int .i64 7, .int .i64 5]) /\ Below w.heap.size w w' := by
 refine fun_eq 0 w Tryz.func121 (args := []) rfl rfl ?_
 repeat' (first
  | (refine Branch.yes rfl ?_)
  | (refine Branch.no rfl ?_)
  | (refine Branch.mk (fun hb => ?_) (fun hb => ?_))
  | (refine NewI.mk fun nb hnb => ?_)
  | (refine Need.mk (by show _ /\ _; omega) ?_)
  | (refine Need.mk (by omega) ?_)
  | (refine Need.mk ?_ ?_)
  | (refine EndI.mk fun w1 h1 => ?_))
 rfl
def placeOf (i : Nat) : Int := if i = 0 then 3 else if i = 1 then 1 else if i = 2 then 6 else if i = 3 then 2 else if i = 4 then 7 else 5
theorem places_at (i : Nat) (w : World) (h : i < 6 := by decide) : (Instr.index 166 (.agg #[.int .i64 3, .int .i64 1, .int .i64 6, .int .i64 2, .int .i64 7, .int .i64 5]) (.int .i64 i)).run Tryz.prog w = .ok (.int .i64 (placeOf i)) w := by
 rcases (by omega : i = 0 \/ i = 1 \/ i = 2 \/ i = 3 \/ i = 4 \/ i = 5) with rfl | rfl | rfl | rfl | rfl | rfl <;> kernel_rfl
theorem zmatrix_any (z : Zn) (w : World) :
 Calls Tryz.prog 79 #[.agg #[.int .i64 z.a, .int .i64 z.b, .int .i64 z.c, .int .i64 z.d, .int .i64 z.e, .int .i64 z.f]] w (Ret w fun v w' => ∃ a' cap', v = .agg #[.int .i64 3, .slice a' (Zo.matL z).length cap'] /\ Fresh TB w.heap.size w' (.slice a' (Zo.matL z).length cap') (Zo.matL z)) := by
 refine fun_ret 0 w Tryz.func79 (args := [.agg [.val (.int .i64 z.a), .val (.int .i64 z.b), .val (.int .i64 z.c), .val (.int .i64 z.d), .val (.int .i64 z.e), .val (.int .i64 z.f)]]) rfl rfl ?_;refine NewI.mk fun b1 hb1 => ?_;refine NewI.mk fun b2 hb2 => ?_;have htop := fun w => top_any 3 w;rw [show Dbm.top 3 = (3, Dbm.topL 3, 0) by rfl] at htop;apply CallI.use
 focus (exact fun w1 h1 => htop w1)
 rintro v w1 w2 h1 hB2 ⟨a1, c1, rfl, hO⟩;obtain ⟨g, rfl, hgb, hRow⟩ := hO.row (by decide);obtain ⟨_, _, _, cur, _, hcap, hmax, _⟩ := hO.at0;have hgw : w.heap.size <= g := Nat.le_trans h1.below.size hgb;have hg2 := hRow.lt;refine NewI.mk fun b3 hb3 => ?_;have hgr : ∀ b, b ∈ [b1, b2, b3] -> b ≠ g := fun b hb e => by
  simp only [List.mem_cons, List.not_mem_nil, or_false] at hb;have l1 := h1.lt b1 (by simp);have l2 := h1.lt b2 (by simp);omega
 have hgL : ∀ L : List Nat, (∀ b ∈ L, b ∈ [b1, b2, b3]) -> g ∉ L := fun L h hm => hgr g (h g hm) rfl;apply CallI.use1
 focus (exact fun w4 h4 => places_any w4)
 intro w4 w5 h4 hB5;have hRow := (hRow.at h4 (hgL _ (by simp))).below hB5 (Nat.lt_of_lt_of_le hg2 h4.size);refine LoopI.rounds 7 ?_;refine Branch.yes rfl ?_;refine GenV.to (x := .int .i64 3) (fun w => places_at 0 w) fun u0 k0 => ?_;refine DrawI.wr (.tk 0 (.tk 1 (.tk 2 (.tk 3 (.tk 4 (.tk 5 (.tk 6 (.ev 7 .done)))))))) [] [g] (by kernel_rfl) rfl (fun b hb h => hgr b hb (by simpa using h)) fun w0_ h0_ => ?_;refine Need.mk (by decide) ?_;refine IdxI.mk ⟨_, ⟨rfl, by omega, by show _ < (9 : Int); omega⟩, ?_⟩;refine StoreI.mk fun x0 y0 => ?_;have a0 : RowAt TB x0 g (Dbm.topL 3) := ((hRow.at k0 (hgL _ (by simp))).at h0_ (hgL _ (by simp))).at y0 (hgL _ (by simp));rw [show ((⟨g, 0, none⟩ : Addr).add ((3 : Int).toNat * 1)) = ⟨g, 3, none⟩ by simp [addr_addL]];refine ⟨⟨⟨_, a0.cell (j := 3) (by simp [Dbm.topL])⟩, a0.frozen _⟩, Zo.kpD_set hgw hgr (by simp [locs]), ?_⟩;have r0 := a0.set (j := 3) (by simp [Dbm.topL]) z.a;generalize x0.setCell ⟨g, 3, none⟩ (.int .i64 z.a) = s0 at r0;refine Need.ok ?_;refine Branch.yes rfl ?_;refine GenV.to (x := .int .i64 1) (fun w => places_at 1 w) fun u1 k1 => ?_;refine DrawI.wr (.tk 0 (.tk 1 (.tk 2 (.tk 3 (.tk 4 (.tk 5 (.tk 6 (.ev 7 .done)))))))) [] [g] (by kernel_rfl) rfl (fun b hb h => hgr b hb (by simpa using h)) fun w1_ h1_ => ?_;refine Need.mk (by decide) ?_;refine IdxI.mk ⟨_, ⟨rfl, by omega, by show _ < (9 : Int); omega⟩, ?_⟩;refine StoreI.mk fun x1 y1 => ?_;have a1 : RowAt TB x1 g ((Dbm.topL 3).set 3 z.a) := ((r0.at k1 (hgL _ (by simp))).at h1_ (hgL _ (by simp))).at y1 (hgL _ (by simp));rw [show ((⟨g, 0, none⟩ : Addr).add ((1 : Int).toNat * 1)) = ⟨g, 1, none⟩ by simp [addr_addL]];refine ⟨⟨⟨_, a1.cell (j := 1) (by simp [Dbm.topL])⟩, a1.frozen _⟩, Zo.kpD_set hgw hgr (by simp [locs]), ?_⟩;have r1 := a1.set (j := 1) (by simp [Dbm.topL]) z.b;generalize x1.setCell ⟨g, 1, none⟩ (.int .i64 z.b) = s1 at r1;refine Need.ok ?_;refine Branch.yes rfl ?_;refine GenV.to (x := .int .i64 6) (fun w => places_at 2 w) fun u2 k2 => ?_;refine DrawI.wr (.tk 0 (.tk 1 (.tk 2 (.tk 3 (.tk 4 (.tk 5 (.tk 6 (.ev 7 .done)))))))) [] [g] (by kernel_rfl) rfl (fun b hb h => hgr b hb (by simpa using h)) fun w2_ h2_ => ?_;refine Need.mk (by decide) ?_;refine IdxI.mk ⟨_, ⟨rfl, by omega, by show _ < (9 : Int); omega⟩, ?_⟩;refine StoreI.mk fun x2 y2 => ?_;have a2 : RowAt TB x2 g (((Dbm.topL 3).set 3 z.a).set 1 z.b) := ((r1.at k2 (hgL _ (by simp))).at h2_ (hgL _ (by simp))).at y2 (hgL _ (by simp));rw [show ((⟨g, 0, none⟩ : Addr).add ((6 : Int).toNat * 1)) = ⟨g, 6, none⟩ by simp [addr_addL]];refine ⟨⟨⟨_, a2.cell (j := 6) (by simp [Dbm.topL])⟩, a2.frozen _⟩, Zo.kpD_set hgw hgr (by simp [locs]), ?_⟩;have r2 := a2.set (j := 6) (by simp [Dbm.topL]) z.c;generalize x2.setCell ⟨g, 6, none⟩ (.int .i64 z.c) = s2 at r2;refine Need.ok ?_;refine Branch.yes rfl ?_;refine GenV.to (x := .int .i64 2) (fun w => places_at 3 w) fun u3 k3 => ?_;refine DrawI.wr (.tk 0 (.tk 1 (.tk 2 (.tk 3 (.tk 4 (.tk 5 (.tk 6 (.ev 7 .done)))))))) [] [g] (by kernel_rfl) rfl (fun b hb h => hgr b hb (by simpa using h)) fun w3_ h3_ => ?_;refine Need.mk (by decide) ?_;refine IdxI.mk ⟨_, ⟨rfl, by omega, by show _ < (9 : Int); omega⟩, ?_⟩;refine StoreI.mk fun x3 y3 => ?_;have a3 : RowAt TB x3 g ((((Dbm.topL 3).set 3 z.a).set 1 z.b).set 6 z.c) := ((r2.at k3 (hgL _ (by simp))).at h3_ (hgL _ (by simp))).at y3 (hgL _ (by simp));rw [show ((⟨g, 0, none⟩ : Addr).add ((2 : Int).toNat * 1)) = ⟨g, 2, none⟩ by simp [addr_addL]];refine ⟨⟨⟨_, a3.cell (j := 2) (by simp [Dbm.topL])⟩, a3.frozen _⟩, Zo.kpD_set hgw hgr (by simp [locs]), ?_⟩;have r3 := a3.set (j := 2) (by simp [Dbm.topL]) z.d;generalize x3.setCell ⟨g, 2, none⟩ (.int .i64 z.d) = s3 at r3;refine Need.ok ?_;refine Branch.yes rfl ?_;refine GenV.to (x := .int .i64 7) (fun w => places_at 4 w) fun u4 k4 => ?_;refine DrawI.wr (.tk 0 (.tk 1 (.tk 2 (.tk 3 (.tk 4 (.tk 5 (.tk 6 (.ev 7 .done)))))))) [] [g] (by kernel_rfl) rfl (fun b hb h => hgr b hb (by simpa using h)) fun w4_ h4_ => ?_;refine Need.mk (by decide) ?_;refine IdxI.mk ⟨_, ⟨rfl, by omega, by show _ < (9 : Int); omega⟩, ?_⟩;refine StoreI.mk fun x4 y4 => ?_;have a4 : RowAt TB x4 g (((((Dbm.topL 3).set 3 z.a).set 1 z.b).set 6 z.c).set 2 z.d) := ((r3.at k4 (hgL _ (by simp))).at h4_ (hgL _ (by simp))).at y4 (hgL _ (by simp));rw [show ((⟨g, 0, none⟩ : Addr).add ((7 : Int).toNat * 1)) = ⟨g, 7, none⟩ by simp [addr_addL]];refine ⟨⟨⟨_, a4.cell (j := 7) (by simp [Dbm.topL])⟩, a4.frozen _⟩, Zo.kpD_set hgw hgr (by simp [locs]), ?_⟩;have r4 := a4.set (j := 7) (by simp [Dbm.topL]) z.e;generalize x4.setCell ⟨g, 7, none⟩ (.int .i64 z.e) = s4 at r4;refine Need.ok ?_;refine Branch.yes rfl ?_;refine GenV.to (x := .int .i64 5) (fun w => places_at 5 w) fun u5 k5 => ?_;refine DrawI.wr (.tk 0 (.tk 1 (.tk 2 (.tk 3 (.tk 4 (.tk 5 (.tk 6 (.ev 7 .done)))))))) [] [g] (by kernel_rfl) rfl (fun b hb h => hgr b hb (by simpa using h)) fun w5_ h5_ => ?_;refine Need.mk (by decide) ?_;refine IdxI.mk ⟨_, ⟨rfl, by omega, by show _ < (9 : Int); omega⟩, ?_⟩;refine StoreI.mk fun x5 y5 => ?_;have a5 : RowAt TB x5 g ((((((Dbm.topL 3).set 3 z.a).set 1 z.b).set 6 z.c).set 2 z.d).set 7 z.e) := ((r4.at k5 (hgL _ (by simp))).at h5_ (hgL _ (by simp))).at y5 (hgL _ (by simp));rw [show ((⟨g, 0, none⟩ : Addr).add ((5 : Int).toNat * 1)) = ⟨g, 5, none⟩ by simp [addr_addL]];refine ⟨⟨⟨_, a5.cell (j := 5) (by simp [Dbm.topL])⟩, a5.frozen _⟩, Zo.kpD_set hgw hgr (by simp [locs]), ?_⟩;have r5 := a5.set (j := 5) (by simp [Dbm.topL]) z.f;generalize x5.setCell ⟨g, 5, none⟩ (.int .i64 z.f) = s5 at r5;refine Need.ok ?_;refine Branch.no rfl ?_;refine EndI.mk fun w9 h9 => ⟨some ⟨g, 0, none⟩, c1, rfl, .inr ⟨g, c1, rfl, ?_, hmax, hgw, ?_⟩⟩
 ·simpa [Zo.matL, Dbm.topL] using hcap
 ·have hk := r5.at h9 (hgL _ (by simp))
  have e9 : ((((((Dbm.topL 3).set 3 z.a).set 1 z.b).set 6 z.c).set 2 z.d).set 7 z.e).set 5 z.f = Zo.matL z := rfl;rw [e9] at hk;exact hk
structure Sp where
 lo : Int
 ls : Bool
 hi : Int
 hs : Bool
 op : Bool
deriving DecidableEq
instance encSp : Enc Sp := ⟨fun x => [.int .i64 x.lo, .bool x.ls, .int .i64 x.hi, .bool x.hs, .bool x.op], 5, fun _ => rfl, by decide,
 fun _ v hv => by simp only [List.mem_cons, List.not_mem_nil, or_false] at hv; rcases hv with rfl | rfl | rfl | rfl | rfl <;> rfl, fun x => .agg #[.int .i64 x.lo, .bool x.ls, .int .i64 x.hi, .bool x.hs, .bool x.op]⟩
def Sp.ins (s : Sp) : Prop := inK .i64 s.lo /\ inK .i64 s.hi
namespace Tg
def of (c : Int) (s : Bool) : Int := (Bd.made c s).1
def bad (s : Sp) : Bool := decide (s.lo < -288230376151711744) || decide (288230376151711744 < s.lo) || decide (288230376151711744 < s.hi)
def sides (s : Sp) : Int × Int × Bool :=
 if bad s = true then (0, 0, false) else
 if s.op = true then (of (-s.lo) s.ls, 9223372036854775807, decide (s.hi = 0) && !s.hs)
 else (of (-s.lo) s.ls, of s.hi s.hs, decide (s.lo <= s.hi))
def more (L : List Int) (l : List Rt) : List Int := l.foldl (fun M x => M.set x.num.toNat (min (M[x.num.toNat]?.getD 0) x.den)) L
end Tg
namespace Tg
def between (n : Int) (L : List Int) (i : Int) (s : Sp) : Int × List Int × Int :=
 if Dbm.chk n L = 0 then (if 0 <= i /\ i < n then (if (sides s).2.2 = true then Dbm.close n (more L [⟨i, (sides s).1⟩, ⟨i * n, (sides s).2.1⟩]) else (0, [], 8)) else (0, [], 2)) else (0, [], 8)
end Tg
end
section
open Go.ChangeShapes Go.WideShapes Go.ChangeAt Go.RowKit Go.Deep Go.Proofs.YtanhnllkccldhaaGreat.Eng
section
variable {H : Type} {en : TypeId × Value -> H} {P : Program}
end
end
section
open Go.RowKit Go.Proofs.YtanhnllkccldhaaGreat.Eng Enc
theorem equalB_any (L M : List Int) (a b : Option Addr) (ca cb : Nat) (w : World) (hA : Sl w.heap.size w (.slice a L.length ca) L) (hB : Sl w.heap.size w (.slice b M.length cb) M) :
 Calls Tryz.prog 162 #[.slice a L.length ca, .slice b M.length cb] w fun e w' => e = .returned (.bool (decide (L = M))) /\ Below w.heap.size w w' := by
 refine fun_eq 0 w Tryz.func162 (args := [.val (.slice a L.length ca), .val (.slice b M.length cb)]) rfl rfl ?_;refine Branch.mk (fun hl => ?_) (fun hl => ?_)
 ·refine EndI.mk fun w3 h3 => ?_
  have h0 : ¬ (L.length : Int) = M.length := by simpa using hl
  rw [decide_eq_false (fun h => h0 (by rw [h]))]
 have hlen : L.length = M.length := by (have : (L.length : Int) = M.length := by simpa using hl); omega
 refine LoopI.invC (α := Nat × World) (fun y => [(13, .val (.int .i64 y.1))]) (fun y => y.2) (fun y => y.1 <= L.length /\ Below w.heap.size w y.2 /\ ∀ i, i < y.1 -> L[i]? = M[i]?) (fun y => L.length - y.1) ?_ ?_
 ·intro w1 h1
  exact ⟨(0, w1), Cov.au rfl rfl rfl rfl rfl, rfl, Nat.zero_le _, h1.below, fun i hi => by omega⟩
 rintro ⟨k, W⟩ ⟨hk, hW, hall⟩;refine Branch.mk (fun hc => ?_) (fun hc => ?_)
 ·have hlt : k < L.length := by simpa using hc
  have hgC := List.getElem?_eq_getElem (l := L) (i := k) (by omega);have hgM := List.getElem?_eq_getElem (l := M) (i := k) (by omega);have hAW := hA.go hW hW.size;have hBW := hB.go hW hW.size;refine DrawI.go (.tk 0 (.tk 1 (.tk 2 (.tk 3 (.tk 4 (.tk 5 (.tk 6 (.tk 7 (.tk 8 .done))))))))) (by kernel_rfl) fun w1 h1 => ?_;have k1 := h1.go;refine hAW.idx hgC fun ad had => ?_;refine hAW.ld1 hgC had k1 (by simp) ?_;refine hBW.idx hgM fun ad had => ?_;refine hBW.ld1 hgM had k1 (by simp) ?_;refine Branch.mk (fun hc2 => ?_) (fun hc2 => ?_)
  ·have hne : ¬ L[k] = M[k]'(by omega) := by simpa using hc2
   refine EndI.mk fun w4 h4 => ?_;rw [decide_eq_false];intro h;apply hne;simp [h]
  ·have he : L[k] = M[k]'(by omega) := by simpa using hc2
   obtain ⟨_, _, e0, h1, h2, _⟩ := hA.form;unfold maxLen at h2;injection e0 with _ _ e0;refine Need.mk (by show _ /\ _; omega) (EndI.mk fun w7 h7 => ⟨(k + 1, w7), Cov.au rfl rfl rfl rfl rfl, rfl, ⟨hlt, h7.below, fun i hi => ?_⟩, by simp only; omega⟩);rcases Nat.lt_succ_iff_lt_or_eq.1 hi with h' | h'
   ·exact hall i h'
   ·rw [h', hgC, hgM, he]
 ·have hge : k = L.length := by (have : ¬ k < L.length := by simpa using hc); omega
  refine EndI.mk fun w5 h5 => ?_;rw [decide_eq_true];refine List.ext_getElem? fun i => ?_;rcases Nat.lt_or_ge i k with h | h
  ·exact hall i h
  ·rw [List.getElem?_eq_none (by omega), List.getElem?_eq_none (by omega)]
theorem same_any (n m : Int) (L M : List Int) (a b : Option Addr) (ca cb : Nat) (w : World) (hA : Sl w.heap.size w (.slice a L.length ca) L) (hB : Sl w.heap.size w (.slice b M.length cb) M) :
 Calls Tryz.prog 113 #[.agg #[.int .i64 n, .slice a L.length ca], .agg #[.int .i64 m, .slice b M.length cb]] w fun e w' => e = .returned (.bool (decide (n = m /\ L = M))) /\ Below w.heap.size w w' := by
 refine fun_eq 0 w Tryz.func113 (args := [.agg [.val (.int .i64 n), .val (.slice a L.length ca)], .agg [.val (.int .i64 m), .val (.slice b M.length cb)]]) rfl rfl ?_;have st := Stay.first (w := w)
 refine NewI.mk fun b1 hb1 => ?_;refine NewI.mk fun b2 hb2 => ?_;refine Branch.mk (fun hc => ?_) (fun hc => ?_);rotate_left
 ·have h0 : ¬ n = m := by simpa using hc
  refine EndI.mk fun w3 h3 => ?_;simp [h0]
 have h0 : n = m := by simpa using hc
 apply CallI.use1
 focus (exact fun w1 h1 => equalB_any L M a b ca cb w1 (hA.st (st.at h1)) (hB.st (st.at h1)))
 intro w1 v1 h1 hB1;have st := st.nx h1 hB1;refine EndI.mk fun w3 h3 => ?_;simp [h0]
namespace Zo
def chk (z : Zn) : Int := if Dbm.close 3 (matL z) = (3, matL z, 0) then 0 else 8
theorem chk_eq {z : Zn} : chk z = 0 ↔ Dbm.close 3 (matL z) = (3, matL z, 0) := by unfold chk; split <;> simp_all
def has (z : Zn) (p : Pt) : Bool × Int := if chk z = 0 /\ p.t.ok = true /\ p.u.ok = true then Dbm.keeps 3 (matL z) [p.t, p.u] else (false, 8)
end Zo
theorem zcheck_any (z : Zn) (w : World) :
 Calls Tryz.prog 72 #[.agg #[.int .i64 z.a, .int .i64 z.b, .int .i64 z.c, .int .i64 z.d, .int .i64 z.e, .int .i64 z.f]] w fun e w' => e = .returned (.int .i64 (Zo.chk z)) /\ Below w.heap.size w w' := by
 refine fun_eq 0 w Tryz.func72 (args := [.agg [.val (.int .i64 z.a), .val (.int .i64 z.b), .val (.int .i64 z.c), .val (.int .i64 z.d), .val (.int .i64 z.e), .val (.int .i64 z.f)]]) rfl rfl ?_;have st := Stay.first (w := w)
 refine NewI.mk fun b1 hb1 => ?_;apply CallI.use
 focus (exact fun w1 h1 => zmatrix_any z w1)
 rintro v w1 v1 h1 hB1 ⟨a1, c1, rfl, hF1⟩;have st := st.nx h1 hB1;refine NewI.mk fun b2 hb2 => ?_;have hcl := fun (w : World) (h : Sl w.heap.size w (.slice a1 (Zo.matL z).length c1) (Zo.matL z)) => close_any 3 a1 c1 (Zo.matL z) w h;unfold Zo.chk;generalize hD : Dbm.close 3 (Zo.matL z) = D at hcl;obtain ⟨n, C, e⟩ := D;apply CallI.use
 focus (exact fun w2 h2 => hcl w2 (hF1.sl.st (st.at h2)))
 rintro v w2 v2 h2 hB2 ⟨a2, c2, rfl, hF2⟩;have st := st.nx h2 hB2;refine NewI.mk fun b3 hb3 => ?_;refine Branch.mk (fun hc => ?_) (fun hc => ?_)
 ·have he : ¬ e = 0 := by simpa using hc
  refine EndI.mk fun w3 h3 => ?_;rw [if_neg (by simp [he])]
 have he : e = 0 := by simpa using hc
 apply CallI.use1
 focus (exact fun w3 h3 => same_any n 3 C (Zo.matL z) a2 a1 c2 c1 w3 (hF2.sl.st (st.at h3)) (hF1.sl.st (st.at h3)))
 intro w3 v3 h3 hB3;have st := st.nx h3 hB3;refine Branch.mk (fun hc => ?_) (fun hc => ?_)
 ·have h0 : ¬ (n = 3 /\ C = Zo.matL z) := fun h => by rw [h.1, h.2] at hc; simp at hc
  refine EndI.mk fun w3 h3 => ?_;rw [if_neg (fun h => h0 ⟨(Prod.mk.inj h).1, (Prod.mk.inj (Prod.mk.inj h).2).1⟩)]
 ·have h0 : n = 3 /\ C = Zo.matL z := by simpa using hc
  refine EndI.mk fun w3 h3 => ?_;rw [if_pos (by rw [h0.1, h0.2, he])]
namespace Zo
def nought : Zn := ⟨0, 0, 0, 0, 0, 0⟩
def ofL (L : List Int) : Zn := ⟨L[3]?.getD 0, L[1]?.getD 0, L[6]?.getD 0, L[2]?.getD 0, L[7]?.getD 0, L[5]?.getD 0⟩
def told (L : List Int) : Zn × Int := if Dbm.chk 3 L = 0 then (ofL L, 0) else (nought, 8)
def of (n : Int) (L : List Int) : Zn × Int :=
 if Dbm.chk n L = 0 then (if n = 3 then (if (Dbm.close 3 L).2.2 = 0 then told (Dbm.close 3 L).2.1 else (nought, (Dbm.close 3 L).2.2)) else (nought, 40)) else (nought, 8)
end Zo
theorem ztold_any (a : Option Addr) (cap : Nat) (L : List Int) (w : World) (hS : Sl w.heap.size w (.slice a L.length cap) L) :
 Calls Tryz.prog 76 #[.agg #[.int .i64 3, .slice a L.length cap]] w fun e w' => e = .returned (.tuple #[.agg #[.int .i64 (Zo.told L).1.a, .int .i64 (Zo.told L).1.b, .int .i64 (Zo.told L).1.c, .int .i64 (Zo.told L).1.d, .int .i64 (Zo.told L).1.e, .int .i64 (Zo.told L).1.f], .int .i64 (Zo.told L).2]) /\ Below w.heap.size w w' := by
 refine fun_eq 0 w Tryz.func76 (args := [.agg [.val (.int .i64 3), .val (.slice a L.length cap)]]) rfl rfl ?_;have st := Stay.first (w := w)
 refine NewI.mk fun b1 hb1 => ?_;refine NewI.mk fun b2 hb2 => ?_;unfold Zo.told;apply CallI.use1
 focus (exact fun w1 h1 => dcheck_any 3 a cap L w1 (hS.st (st.at h1)))
 intro w1 v1 h1 hB1;have st := st.nx h1 hB1;refine Branch.mk (fun hc => ?_) (fun hc => ?_)
 ·have h0 : ¬ Dbm.chk 3 L = 0 := by simpa using hc
  have h8 := (Dbm.chk_cases 3 L).resolve_left h0;rw [if_neg h0, h8];exact EndI.mk fun w9 h9 => rfl
 have h0 : Dbm.chk 3 L = 0 := by simpa using hc
 rw [if_pos h0];obtain ⟨c1, c2, c3, c4⟩ := Dbm.chk_iff.1 h0;have hL9 : L.length = 9 := by omega
 have g : ∀ k, k < 9 -> L[k]? = some (L[k]?.getD 0) := fun k hk => by rw [List.getElem?_eq_getElem (by omega)]; rfl
 apply CallI.use1
 focus (exact fun w4 h4 => places_any w4)
 intro w4 w5 h4 hB5;have st := st.nx h4 hB5;refine LoopI.rounds 7 ?_;refine Branch.yes rfl ?_;refine GenV.to (x := .int .i64 3) (fun w => places_at 0 w) fun u0 k0 => ?_;refine hS.idx (k := 3) (g 3 (by decide)) fun ad had => ?_;refine hS.ld1 (g 3 (by decide)) had k0.below (by first | (intro b hb; cases hb; done) | (intro b hb; rw [List.mem_singleton.1 hb]; exact hb2)) ?_;refine Need.mk (by decide) ?_;refine Need.ok ?_;refine Branch.yes rfl ?_;refine GenV.to (x := .int .i64 1) (fun w => places_at 1 w) fun u1 k1 => ?_;refine hS.idx (k := 1) (g 1 (by decide)) fun ad had => ?_;refine hS.ld1 (g 1 (by decide)) had k1.below (by first | (intro b hb; cases hb; done) | (intro b hb; rw [List.mem_singleton.1 hb]; exact hb2)) ?_;refine Need.mk (by decide) ?_;refine Need.ok ?_;refine Branch.yes rfl ?_;refine GenV.to (x := .int .i64 6) (fun w => places_at 2 w) fun u2 k2 => ?_;refine hS.idx (k := 6) (g 6 (by decide)) fun ad had => ?_;refine hS.ld1 (g 6 (by decide)) had k2.below (by first | (intro b hb; cases hb; done) | (intro b hb; rw [List.mem_singleton.1 hb]; exact hb2)) ?_;refine Need.mk (by decide) ?_;refine Need.ok ?_;refine Branch.yes rfl ?_;refine GenV.to (x := .int .i64 2) (fun w => places_at 3 w) fun u3 k3 => ?_;refine hS.idx (k := 2) (g 2 (by decide)) fun ad had => ?_;refine hS.ld1 (g 2 (by decide)) had k3.below (by first | (intro b hb; cases hb; done) | (intro b hb; rw [List.mem_singleton.1 hb]; exact hb2)) ?_;refine Need.mk (by decide) ?_;refine Need.ok ?_;refine Branch.yes rfl ?_;refine GenV.to (x := .int .i64 7) (fun w => places_at 4 w) fun u4 k4 => ?_;refine hS.idx (k := 7) (g 7 (by decide)) fun ad had => ?_;refine hS.ld1 (g 7 (by decide)) had k4.below (by first | (intro b hb; cases hb; done) | (intro b hb; rw [List.mem_singleton.1 hb]; exact hb2)) ?_;refine Need.mk (by decide) ?_;refine Need.ok ?_;refine Branch.yes rfl ?_;refine GenV.to (x := .int .i64 5) (fun w => places_at 5 w) fun u5 k5 => ?_;refine hS.idx (k := 5) (g 5 (by decide)) fun ad had => ?_;refine hS.ld1 (g 5 (by decide)) had k5.below (by first | (intro b hb; cases hb; done) | (intro b hb; rw [List.mem_singleton.1 hb]; exact hb2)) ?_;refine Need.mk (by decide) ?_;refine Need.ok ?_;refine Branch.no rfl ?_;exact EndI.mk fun w9 h9 => by rw [h0]; rfl
theorem zof_any (n : Int) (a : Option Addr) (cap : Nat) (L : List Int) (w : World) (hS : Sl w.heap.size w (.slice a L.length cap) L) :
 Calls Tryz.prog 37 #[.agg #[.int .i64 n, .slice a L.length cap]] w fun e w' => e = .returned (.tuple #[.agg #[.int .i64 (Zo.of n L).1.a, .int .i64 (Zo.of n L).1.b, .int .i64 (Zo.of n L).1.c, .int .i64 (Zo.of n L).1.d, .int .i64 (Zo.of n L).1.e, .int .i64 (Zo.of n L).1.f], .int .i64 (Zo.of n L).2]) /\ Below w.heap.size w w' := by
 refine fun_eq 0 w Tryz.func37 (args := [.agg [.val (.int .i64 n), .val (.slice a L.length cap)]]) rfl rfl ?_;have st := Stay.first (w := w)
 refine NewI.mk fun b1 hb1 => ?_;refine NewI.mk fun b2 hb2 => ?_;unfold Zo.of;apply CallI.use1
 focus (exact fun w1 h1 => dcheck_any n a cap L w1 (hS.st (st.at h1)))
 intro w1 v1 h1 hB1;have st := st.nx h1 hB1;refine Branch.mk (fun hc => ?_) (fun hc => ?_)
 ·rw [if_neg (by simpa using hc)]
  exact EndI.mk fun w9 h9 => rfl
 rw [if_pos (by simpa using hc)];refine Branch.mk (fun hc2 => ?_) (fun hc2 => ?_)
 ·rw [if_neg (by simpa using hc2)]
  exact EndI.mk fun w9 h9 => rfl
 have h3 : n = 3 := by simpa using hc2
 subst h3;rw [if_pos rfl];have hcl := fun (w : World) (h : Sl w.heap.size w (.slice a L.length cap) L) => close_any 3 a cap L w h;have h03 : (Dbm.close 3 L).2.2 = 0 -> (Dbm.close 3 L).1 = 3 := fun h => by
  unfold Dbm.close at h ⊢;split at h
  ·rename_i hk
   rw [if_pos hk];split at h <;> rename_i hk2
   ·rfl
   ·cases h
  ·cases h
 generalize hD : Dbm.close 3 L = D at hcl h03;obtain ⟨m, C, e⟩ := D;apply CallI.use
 focus (exact fun w2 h2 => hcl w2 (hS.st (st.at h2)))
 rintro v w2 v2 h2 hB2 ⟨a2, c2, rfl, hF2⟩;have st := st.nx h2 hB2;refine NewI.mk fun b3 hb3 => ?_;refine Branch.mk (fun hc => ?_) (fun hc => ?_)
 ·rw [if_neg (by simpa using hc)]
  exact EndI.mk fun w9 h9 => rfl
 have he : e = 0 := by simpa using hc
 rw [if_pos he];have hm : m = 3 := h03 he;subst hm;apply CallI.use1
 focus (exact fun w3 h3 => ztold_any a2 c2 C w3 (hF2.sl.st (st.at h3)))
 intro w3 v3 h3 hB3;have st := st.nx h3 hB3;exact EndI.mk fun w9 h9 => rfl
namespace Zo
def btw (s : Sp) : Int × List Int × Int := Tg.between 2 (Dbm.topL 2) 1 s
def outL (t u d : Sp) : List Int :=
 (((((((Dbm.topL 3).set 1 ((btw t).2.1[1]?.getD 0)).set 3 ((btw t).2.1[2]?.getD 0)).set 2 ((btw u).2.1[1]?.getD 0)).set 6 ((btw u).2.1[2]?.getD 0)).set 5 ((btw d).2.1[1]?.getD 0)).set 7 ((btw d).2.1[2]?.getD 0))
def make (t u d : Sp) : Zn × Int :=
 if 8 ∈ [(btw d).2.2, (btw u).2.2, (btw t).2.2] then (nought, 8) else
 if 6 ∈ [(btw d).2.2, (btw u).2.2, (btw t).2.2] then (nought, 6) else of 3 (outL t u d)
end Zo
theorem RowAt.other {T : TypeId} {W : World} {g g2 j : Nat} {v : Value} {L : List Int} (h : RowAt T W g2 L) (hne : g2 ≠ g) : RowAt T (W.setCell ⟨g, j, none⟩ v) g2 L :=
 h.kept (Below.heap_setCell _ _ _ _ hne)
theorem RowAt.sl {T : TypeId} {W : World} {g cap : Nat} {L : List Int} (h : RowAt T W g L) (h1 : L.length <= cap) (h2 : cap <= maxLen) : Sl W.heap.size W (.slice (some ⟨g, 0, none⟩) L.length cap) L :=
 Fresh.sl (e := T) (base := 0) (.inr ⟨g, cap, rfl, h1, h2, Nat.zero_le _, h⟩)
theorem bnot_any (b : Int) (w : World) :
 Calls Tryz.prog 235 #[.int .i64 b] w fun e w' => e = .returned (.tuple #[.int .i64 (Bd.not b).1, .int .i64 (Bd.not b).2]) /\ Below w.heap.size w w' := by
 refine fun_eq 0 w Tryz.func235 (args := [.val (.int .i64 b)]) rfl rfl ?_;have st := Stay.first (w := w)
 unfold Bd.not;have hbd : -2305843009213693952 <= (Bd.value b).1 /\ (Bd.value b).1 <= 2305843009213693952 := by
  unfold Bd.value;cases hm : Bd.may b with
  | false => simp
  | true =>
    simp only [if_true];split
    ·simp
    ·rename_i hn
     have := Num.okB_iff.1 (Bd.okB_of_may hm hn);simp only; omega
 apply CallI.use1
 focus (exact fun w1 h1 => value_any b w1)
 intro w1 v1 h1 hB1;have st := st.nx h1 hB1;generalize Bd.value b = V at *;obtain ⟨c, s, e⟩ := V;refine Branch.mk (fun hc => ?_) (fun hc => ?_)
 ·rw [if_neg (by simpa using hc)]
  exact EndI.mk fun w9 h9 => rfl
 rw [if_pos (by simpa using hc)];refine Need.mk (by simp only at hbd; simp only [inK]; omega) ?_;apply CallI.use1
 focus (exact fun w2 h2 => made_any (-c) (!s) w2)
 intro w2 v2 h2 hB2;have st := st.nx h2 hB2;exact EndI.mk fun w9 h9 => rfl
end
end Go.Proofs.YtanhnllkccldhaaGreat
