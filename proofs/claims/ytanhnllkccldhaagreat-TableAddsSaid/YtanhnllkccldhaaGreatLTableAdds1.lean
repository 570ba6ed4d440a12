/-
  Merged texts of this law (each with its own head below).
-/
import Derived.Test.YtanhnllkccldhaaGreatRows
import Derived.WalkKit
import Derived.Below
import Derived.Lib.Hide
import Derived.Deep.QuietTactic
import Derived.BigQuiet
import Derived.WalkSmall
import Derived.ProofKit
import Derived.OpenShut
import Derived.Carry
import Derived.ChangeSame
import Derived.ChangeSlices
import Derived.HandedShaped
namespace Go.Proofs.YtanhnllkccldhaaGreat
set_option linter.unusedVariables false
set_option linter.unusedSimpArgs false
set_option maxRecDepth 100000
section
open Go.RowKit
theorem from_here {P : Program} {f : FuncId} {args : Array Value} {w W0 : World} {x : Ending} (h : Calls P f args w (fun e w' => e = x /\ Below w.heap.size w w')) (h0 : Below W0.heap.size W0 w) :
 Calls P f args w (fun e w' => e = x /\ Below W0.heap.size W0 w') := h.mono fun _ _ ⟨he, hb⟩ => ⟨he, h0.trans (hb.mono h0.size)⟩
theorem below_al {W w : World} {o : Obj} (h : Below W.heap.size W w) : Below W.heap.size W (w.alloc o) := h.alloc h.size o
theorem ret_int {k : IntKind} {a b : Int} (h : a = b) : Ending.returned (.int k a) = Ending.returned (.int k b) := by rw [h]
theorem tup2 {k : IntKind} {a b c d : Int} {x : Int × Int} (h : x = (a, b)) (h1 : c = a) (h2 : d = b) : Ending.returned (.tuple #[.int k c, .int k d]) = Ending.returned (.tuple #[.int k x.1, .int k x.2]) := by rw [h, h1, h2]
theorem tup3 {k : IntKind} {a c : Int} {b : Bool} {d f : Int} {g : Bool} {x : Int × Bool × Int} (h : x = (a, b, c)) (h1 : d = a) (h2 : g = b) (h3 : f = c) : Ending.returned (.tuple #[.int k d, .bool g, .int k f]) = Ending.returned (.tuple #[.int k x.1, .bool x.2.1, .int k x.2.2]) := by rw [h, h1, h2, h3]
theorem ibtup {k : IntKind} {c d : Int} {a b : Bool} {x : Int × Bool} (h : x = (d, a)) (h1 : b = a) (h2 : c = d) : Ending.returned (.tuple #[.int k c, .bool b]) = Ending.returned (.tuple #[.int k x.1, .bool x.2]) := by rw [h, h1, h2]
end
section
open Go.ChangeShapes Go.WideShapes Go.ChangeAt Go.RowKit
theorem own : ownKnob Tryz.prog.godebug = none := by kernel_rfl
theorem laidOut : laidOutB Tryz.prog = true := by kernel_rfl
theorem wf_i64 {n : Int} (h : (Lit.int .i64 n).wf = true) : -9223372036854775808 <= n /\ n <= 9223372036854775807 := by
 simpa [Lit.wf, IntKind.min, IntKind.max, IntKind.signed, IntKind.bits] using h
section
variable {H : Type} {enc : TypeId × Value -> H} {P : Program}
theorem trodAll_stays (hl : laidOutB P = true) {W W' : World} {sp : Nat -> Bool} : ∀ {ts : List TypeId} {vs : List Value} {ds : List (DataW H)} {ps : List MemPlace},
 (ts.all fun t => P.readableRec t && decide (t < P.types.size)) = true -> DataW.TrodAll enc P W 0 (fun _ => true) true ts vs ds ps -> (∀ p ∈ ps, W.sameAt W' p) -> (∀ p ∈ ps, sp p.block = true) ->
 DataW.TrodAll enc P W' 0 sp true ts vs ds ps
 | [], _, _, _, _, h, _, _ => by obtain ⟨rfl, rfl, rfl⟩ := trodAll_nil h; exact trodAll_mk0
 | t :: ts, _, _, _, ha, h, hs, hsp => by
   obtain ⟨v, vs1, d, ds1, a, b, rfl, rfl, rfl, h1, h2⟩ := trodAll_cons h;simp only [List.all_cons, Bool.and_eq_true, decide_eq_true_eq] at ha
   exact trodAll_cons_mk (WideElems.Trod_stays hl ha.1.1 ha.1.2 h1 (fun p hp => hs p (by simp [hp])) (fun p hp => hsp p (by simp [hp])))
    (trodAll_stays hl ha.2 h2 (fun p hp => hs p (by simp [hp])) (fun p hp => hsp p (by simp [hp])))
theorem law_post {fn : Func} {s : ChangeSpec} {tb : TypeId} {apart fresh handsOn again : Bool} (hl : laidOutB P = true) (hall : (fn.params.toList.all fun t => P.readableRec t && decide (t < P.types.size)) = true)
 (hv : s.vars = []) (hr : fn.resultTypes = #[tb]) (hb : P.underlying tb = some .bool) {W W' : World} {args : Array Value} {ds gs : List (DataW H)} {before : List MemPlace}
 (hW : DataW.Whole enc P fn.params.toList s.vars apart W args.toList ds gs before) (hsp : s.fn H (ds ++ gs) = { results := [.lit (.bool true)], args := ds }) (hB : Below W.heap.size W W') :
 s.post enc P fn apart fresh handsOn again W args (.bool true) W' := by
 have hlt : ∀ p ∈ before, p.block < W.heap.size := fun p hp => hW.lt p hp;have hold : ∀ p ∈ before, (fun b => decide (b < W.heap.size)) p.block = true := fun p hp => by simpa using hlt p hp
 have hW2 := hW;obtain ⟨p, q, hA, hV, rfl, hz, hn⟩ := hW;rw [hv] at hV;obtain ⟨rfl, rfl⟩ := trodVars_none hV;simp only [List.append_nil] at hlt hold hz hn hW2;have hvars : ∀ sp : Nat -> Bool, DataW.TrodVars enc P W' sp s.vars [] [] := fun sp => by rw [hv]; rfl
 have hres : ∀ (b : Nat) (sp : Nat -> Bool) (hd : Bool), DataW.TrodAll enc P W' b sp hd fn.resultTypes.toList ((Value.bool true).resultList fn.resultTypes.size) [.lit (.bool true)] [] := fun b sp hd => by
  rw [hr]; exact trodAll_cons_mk (shut_bool hb _) trodAll_mk0
 have hargs : ∀ sp : Nat -> Bool, (∀ x ∈ p, sp x.block = true) -> DataW.TrodAll enc P W' 0 sp true fn.params.toList args.toList ds p := fun sp hs =>
  trodAll_stays hl hall hA (fun x hx => hB.same (hlt x hx)) hs
 refine ⟨ds, [], p, [], p, [], hW2, ?_, ?_, ?_, World.keptBut_mono (fun x hx => ⟨hx, Or.inr (Or.inl hx)⟩) (hB.frame (· ∈ p)), fun _ => ⟨?_, _, _, p, ⟨p, [], trodAll_append (hargs _ (fun _ _ => rfl)) (hres _ _ _), hvars _, by simp, ?_, ?_⟩, fun x hx _ => hx⟩⟩
 ·rw [hsp]; exact hres _ _ _
 ·rw [hsp]; exact hargs _ hold
 ·rw [hsp]; exact hvars _
 ·exact ok_one hr rfl (okWide_bool_mk hb _)
 ·intro b off hp
  rw [hB.frozen (hlt _ hp)];exact hz b off hp
 ·intro ha; exact hn ha
end
end
end Go.Proofs.YtanhnllkccldhaaGreat
