/-
  Merged texts of this law (each with its own head below).
-/
import Derived.Test.YtanhnllkccldhaaGreatLTableAdds5
import Derived.Test.YtanhnllkccldhaaGreatLTableAdds4
import Derived.Test.YtanhnllkccldhaaGreatLTableAdds3
import Derived.Laws.StructEq
import Derived.Test.YtanhnllkccldhaaGreatProg
import Derived.Maps.Own
import Derived.Maps.Views
import Derived.Lib.SlKeysI
import Derived.Shelf.SlIterI.Nil
import Derived.Shelf.SlIterI.Sorted
import Derived.Shelf.SlIterI.Collect
import Derived.Shelf.SortM.Plain
import Derived.Shelf.SortM.SortNone
import Derived.Ground.GgzProg
import Derived.Ground.SlgmProg
import Derived.Lib.SliceRun
namespace Go.Proofs.YtanhnllkccldhaaGreat
set_option linter.unusedVariables false
set_option linter.unusedSimpArgs false
set_option maxRecDepth 100000
section
open Go.RowKit Go.Proofs.YtanhnllkccldhaaGreat.Eng Enc
theorem rwantedO_any (l : List Zn) (hl : ∀ z, z ∈ l -> Zo.chk z = 0) (hlen : l.length <= 4096) (a : Option Addr) (ca : Nat) (w : World) (hS : Sl w.heap.size w (.slice a l.length ca) l) :
 Calls Tryz.prog 175 #[.slice a l.length ca] w (Ret w fun v w' => ∃ a' c', v = .tuple #[.slice a' (Cv.pgo (Cv.sorted l).length (Cv.sorted l)).1.length c', .int .i64 (Cv.pgo (Cv.sorted l).length (Cv.sorted l)).2] /\ Own TZ w.heap.size w' (.slice a' (Cv.pgo (Cv.sorted l).length (Cv.sorted l)).1.length c') (Cv.pgo (Cv.sorted l).length (Cv.sorted l)).1) := by
 refine fun_ret 0 w Tryz.func175 (args := [.val (.slice a l.length ca)]) rfl rfl ?_;have hsl : (Cv.sorted l).length <= 4096 := Nat.le_trans (Cv.sorted_len l) hlen;have hsc : ∀ z, z ∈ Cv.sorted l -> Zo.chk z = 0 := fun z hz => hl z ((Cv.sorted_mem l z).1 hz);apply CallI.use
 focus (exact fun w1 h1 => rsorted_any l hlen a ca w1 (hS.go h1.below h1.below.size))
 rintro v w1 v1 h1 hB1 hO1;obtain ⟨a1, c1, rfl⟩ := hO1.form;generalize Cv.sorted l = S at *;refine Need.ok ?_;refine LoopI.invC (α := Int × World × Value × List Zn) (fun y => [(5, .val (.int .i64 y.1)), (4, .val y.2.2.1)]) (fun y => y.2.1) (fun y => -1 <= y.1 /\ y.1 < y.2.2.2.length /\ y.2.2.2.length <= 4096 /\ Below w.heap.size w y.2.1 /\ Own TZ w.heap.size y.2.1 y.2.2.1 y.2.2.2 /\ (∀ z, z ∈ y.2.2.2 -> Zo.chk z = 0) /\ Cv.pgo S.length S = Cv.pgo (y.1 + 1).toNat y.2.2.2) (fun y => (y.1 + 1).toNat) ?_ ?_
 ·intro w2 h2
  exact ⟨((S.length : Int) - 1, w2, .slice a1 S.length c1, S), Cov.au rfl rfl rfl rfl rfl, rfl, by simp only; omega, by simp only; omega, hsl, h2.below, (hO1.lower h1.below.size).below h2.go, hsc, by simp⟩
 rintro ⟨i, V, ov, out⟩ ⟨hi, hi2, ho4, hV, hSo, hoc, heq⟩;simp only at hi hi2 ho4 hV hSo hoc heq;obtain ⟨ao, co, rfl⟩ := hSo.form;refine Branch.mk (fun z3 => ?_) (fun z3 => ?_)
 ·have hge : 0 <= i := by have := of_decide_eq_true z3; exact this
  obtain ⟨k, rfl⟩ := Int.eq_ofNat_of_zero_le hge;have hlt : k < out.length := by omega
  have hx := List.getElem?_eq_getElem (l := out) (i := k) hlt;generalize out[k] = x at hx;have hxc := hoc x (List.mem_of_getElem? hx);rw [show (((k : Nat) : Int) + 1).toNat = k + 1 by omega, Cv.pgo_succ hx] at heq;refine DrawI.go (.tk 0 (.tk 1 (.tk 2 (.tk 3 (.tk 4 (.tk 5 (.ev 6 (.ev 7 (.tk 8 (.tk 9 (.tk 10 (.tk 11 (.tk 12 .done))))))))))))) (by kernel_rfl) fun w3 h3 => ?_;have hO3 := hSo.below h3.go;have hS3 := hO3.sl;refine hS3.idx hx fun ad had => ?_;refine hS3.ld hx had (Below.refl _ _) (by simp) ?_;apply CallI.use
  focus (exact fun w4 h4 => rwithout_any out k ho4 ao co w4 (hS3.go h4.go h4.go.size))
  rintro v w4 v4 h4 hB4 hO4;obtain ⟨a4, c4, rfl⟩ := hO4.form;have hec : ∀ z, z ∈ out.eraseIdx k -> Zo.chk z = 0 := fun z hz => hoc z (List.mem_of_mem_eraseIdx hz);have hel : (out.eraseIdx k).length <= 4096 := by have := List.length_eraseIdx_le out k; omega
  have hcv := fun w h => rcovered_any x hxc (out.eraseIdx k) hec a4 c4 w h;rw [Cv.covered_in hel hxc hec] at hcv;apply CallI.use1
  focus (exact fun w5 h5 => hcv w5 (hO4.sl.go h5.go h5.go.size))
  intro w5 v5 h5 hB5;generalize Cv.in_ x (out.eraseIdx k) = I at heq;obtain ⟨is, e⟩ := I;simp only at heq;have hOv := (((hO3.below h4.go).below hB4).below h5.go).below hB5;refine Branch.mk (fun z4 => ?_) (fun z4 => ?_)
  ·have he : e ≠ 0 := of_decide_eq_true z4
   rw [if_pos he] at heq;rw [heq];exact EndI.mk fun w9 h9 => ⟨_, _, rfl, Own.nil⟩
  have he : e = 0 := by have := of_decide_eq_false z4; simpa using this
  subst he;rw [if_neg (by simp)] at heq;refine Branch.mk (fun z5 => ?_) (fun z5 => ?_)
  ·have hi : is = true := by simpa using z5
   subst hi;rw [if_pos rfl] at heq;apply CallI.use
   focus (exact fun w6 h6 => rwithout_any out k ho4 ao co w6 (hOv.below h6.go).sl)
   rintro v w6 v6 h6 hB6 hO6;obtain ⟨a6, c6, rfl⟩ := hO6.form;have hle : (out.eraseIdx k).length = out.length - 1 := List.length_eraseIdx_of_lt hlt;refine Need.ok (EndI.mk fun w10 h10 => ⟨(((k : Nat) : Int) - 1, w10, .slice a6 (out.eraseIdx k).length c6, out.eraseIdx k), Cov.au rfl rfl rfl rfl rfl, rfl, ⟨by simp only; omega, by simp only; omega, hel, h10.below, (hO6.lower h6.below.size).below h10.go, hec, by rw [heq]; simp⟩, by simp only; omega⟩)
  ·have hi : is = false := by simpa using z5
   subst hi;rw [if_neg (by simp)] at heq;refine Need.ok (EndI.mk fun w10 h10 => ⟨(((k : Nat) : Int) - 1, w10, .slice ao out.length co, out), Cov.au rfl rfl rfl rfl rfl, rfl, ⟨by simp only; omega, by simp only; omega, ho4, h10.below, hOv.below h10.go, hoc, by rw [heq]; simp⟩, by simp only; omega⟩)
 ·have hlt : i = -1 := by have := of_decide_eq_false z3; omega
  subst hlt;rw [show ((-1 : Int) + 1).toNat = 0 by omega, Cv.pgo] at heq;rw [heq];exact EndI.mk fun w9 h9 => ⟨_, _, rfl, hSo.below h9.go⟩
theorem rprune12O_any (l : List Zn) (hl : ∀ z, z ∈ l -> Zo.i64 z) (a : Option Addr) (ca : Nat) (w : World) (hS : Sl w.heap.size w (.slice a l.length ca) l) :
 Calls Tryz.prog 128 #[.slice a l.length ca] w (Ret w fun v w' => ∃ a' c', v = .tuple #[.slice a' (Cv.prune l).1.length c', .int .i64 (Cv.prune l).2] /\ Own TZ w.heap.size w' (.slice a' (Cv.prune l).1.length c') (Cv.prune l).1) := by
 refine fun_ret 0 w Tryz.func128 (args := [.val (.slice a l.length ca)]) rfl rfl ?_;have hone : Cv.checked [l, []] = Cv.checked [l] := by
  unfold Cv.checked;simp
 apply CallI.use1
 focus (exact fun w1 h1 => rcheck12_any l [] hl (by simp) a none ca 0 w1 (hS.go h1.below h1.below.size) (Sl.nil ..))
 intro w1 v1 h1 hB1;rw [hone];unfold Cv.prune;refine Branch.mk (fun z3 => ?_) (fun z3 => ?_)
 ·have he : Cv.checked [l] ≠ 0 := of_decide_eq_true z3
  rw [if_pos he];exact EndI.mk fun w9 h9 => ⟨_, _, rfl, Own.nil⟩
 have he : Cv.checked [l] = 0 := by have := of_decide_eq_false z3; simpa using this
 rw [if_neg (by simp [he])];obtain ⟨hlen, hc⟩ := Cv.checked_one.1 he;have hS1 := (hS.go h1.below h1.below.size).go hB1 hB1.size;apply CallI.use
 focus (exact fun w2 h2 => rwantedO_any l hc hlen a ca w2 (hS1.go h2.go h2.go.size))
 rintro v w2 v2 h2 hB2 ⟨a2, c2, rfl, hO2⟩;exact EndI.mk fun w9 h9 => ⟨_, _, rfl, (hO2.lower h2.below.size).below h9.go⟩
theorem same11_any (l m : List Zn) (a : Option Addr) (cap : Nat) (b : Option Addr) (cb : Nat) (w : World) (hS : Sl w.heap.size w (.slice a l.length cap) l) (hT : Sl w.heap.size w (.slice b m.length cb) m) :
 Calls Tryz.prog 83 #[.slice a l.length cap, .slice b m.length cb] w fun e w' => e = .returned (.bool (decide (l = m))) /\ Below w.heap.size w w' := by
 refine fun_eq 0 w Tryz.func83 (args := [.val (.slice a l.length cap), .val (.slice b m.length cb)]) rfl rfl ?_;obtain ⟨_, _, hfe, hcap1, hcap2, _⟩ := hS.form;injection hfe with _ _ hfe;subst hfe;unfold maxLen at hcap2;refine Branch.mk (fun hc => ?_) (fun hc => ?_)
 ·have hne : l.length ≠ m.length := by have := of_decide_eq_true hc; omega
  refine EndI.mk fun w9 h9 => ?_;rw [decide_eq_false (fun e => hne (by rw [e]))]
 have hlm : l.length = m.length := by have := of_decide_eq_false hc; omega
 refine LoopI.invC (α := Nat × World) (fun y => [(5, .val (.int .i64 y.1))]) (fun y => y.2) (fun y => y.1 <= l.length /\ Below w.heap.size w y.2 /\ l.take y.1 = m.take y.1) (fun y => l.length - y.1) ?_ ?_
 ·intro w1 h1
  exact ⟨(0, w1), Cov.au rfl rfl rfl rfl rfl, rfl, Nat.zero_le _, h1.below, rfl⟩
 rintro ⟨k, V⟩ ⟨hk, hV, hall⟩;simp only at hk hV hall;refine Branch.mk (fun hc2 => ?_) (fun hc2 => ?_)
 ·have hlt : k < l.length := by have := of_decide_eq_true hc2; simp only at this; omega
  have hx := List.getElem?_eq_getElem (l := l) (i := k) hlt;have hy := List.getElem?_eq_getElem (l := m) (i := k) (by omega);generalize l[k] = x at hx;generalize m[k]'(by omega) = y at hy;refine DrawI.go (.tk 0 (.tk 1 (.tk 2 (.tk 3 (.tk 4 (.tk 5 (.tk 6 (.tk 7 (.ev 8 .done))))))))) (by kernel_rfl) fun w4 h4 => ?_;have hg4 : Below V.heap.size V w4 := h4.go;have hw4 := hV.trans (hg4.mono hV.size);have hS4 := hS.go hw4 hw4.size;have hT4 := hT.go hw4 hw4.size;refine hS4.idx hx fun ad had => ?_;refine hS4.ld hx had (Below.refl _ _) (by simp) ?_;refine hT4.idx hy fun ad2 had2 => ?_;refine hT4.ld hy had2 (Below.refl _ _) (by simp) ?_;refine GenV.to (x := .bool (decide (x ≠ y))) (fun w => run_neq_znG _ _ x y w) fun w5 h5 => ?_;refine Branch.mk (fun hc3 => ?_) (fun hc3 => ?_)
  ·have hne : x ≠ y := by simpa using hc3
   refine EndI.mk fun w9 h9 => ?_;rw [decide_eq_false (fun e => hne (by rw [e, hy] at hx; injection hx with hx; exact hx.symm))]
  ·have he : x = y := by simpa using hc3
   refine Need.ok (EndI.mk fun w9 h9 => ⟨(k + 1, w9), Cov.au rfl rfl rfl rfl rfl, rfl, ⟨hlt, h9.below, ?_⟩, by simp only; omega⟩);simp only;rw [List.take_add_one, List.take_add_one, hall, hx, hy, he]
 ·have hge : k = l.length := by have := of_decide_eq_false hc2; simp only at this; omega
  subst hge;rw [List.take_length, hlm, List.take_length] at hall;refine EndI.mk fun w9 h9 => ?_;rw [decide_eq_true hall]
namespace Zs
theorem chk_i64 {z : Zn} (h : Zo.chk z = 0) : Zo.i64 z := Mi.clo_int64 (Zo.clo h).2
end Zs
theorem rof13_any (l : List Zn) (hl : ∀ z, z ∈ l -> Zo.i64 z) (a : Option Addr) (ca : Nat) (w : World) (hS : Sl w.heap.size w (.slice a l.length ca) l) :
 Calls Tryz.prog 82 #[.slice a l.length ca] w (Ret w fun v w' => ∃ a' c', v = .tuple #[.slice a' (Cv.prune l).1.length c', .int .i64 (Cv.prune l).2] /\ Own TZ w.heap.size w' (.slice a' (Cv.prune l).1.length c') (Cv.prune l).1) := by
 refine fun_ret 0 w Tryz.func82 (args := [.val (.slice a l.length ca)]) rfl rfl ?_;apply CallI.use
 focus (exact fun w2 h2 => rprune12O_any l hl a ca w2 (hS.go h2.below h2.below.size))
 rintro v w2 v2 h2 hB2 ⟨a2, c2, rfl, hO2⟩;exact EndI.mk fun w9 h9 => ⟨a2, c2, rfl, (hO2.lower h2.below.size).below (at_belowM h9 (by simp))⟩
theorem rmay13_any (l : List Zn) (hl : ∀ z, z ∈ l -> Zo.i64 z) (a : Option Addr) (ca : Nat) (w : World) (hS : Sl w.heap.size w (.slice a l.length ca) l) :
 Calls Tryz.prog 46 #[.slice a l.length ca] w fun e w' => e = .returned (.bool (decide ((Cv.prune l).2 = 0) && decide (l = (Cv.prune l).1))) /\ Below w.heap.size w w' := by
 refine fun_eq 0 w Tryz.func46 (args := [.val (.slice a l.length ca)]) rfl rfl ?_;have st := Stay.first (w := w)
 apply CallI.use
 focus (exact fun w2 h2 => rof13_any l hl a ca w2 (hS.st (st.at h2)))
 rintro v w2 v2 h2 hB2 ⟨a2, c2, rfl, hO2⟩;have st := st.nx h2 hB2;refine Branch.mk (fun hc => ?_) (fun hc => ?_)
 ·skip
  apply CallI.use1
  focus (exact fun w3 h3 => same11_any l (Cv.prune l).1 a ca a2 c2 w3 (hS.st (st.at h3)) ((hO2.st (st.at h3)).sl))
  intro w3 v3 h3 hB3;have st := st.nx h3 hB3;exact EndI.mk fun w9 h9 => by rw [hc]; rfl
 ·exact EndI.mk fun w9 h9 => by rw [hc]; rfl
theorem Sl.ldx {α : Type} [Enc α] {n : Nat} {W w : World} {L : List Nat} {a : Option Addr} {ad : Addr} {m cap : Nat} {l : List α} (h : Sl n W (.slice a m cap) l) {k : Nat} {x : α} (hk : l[k]? = some x) (had : a = some ad) (hB : Below n W w) (hL : ∀ b, b ∈ L -> n <= b) {i : Nat} {c : Value} (hc : (enc x)[i]? = some c) {K : Value -> Prop} (hK : K c) :
 LoadI w L ((ad.add ((k : Int).toNat * size α)).add i) K := by
 subst had;obtain ⟨h1, h2⟩ := h.cell hk hB;refine ⟨⟨_, ⟨h2 i c hc, fun e => ?_⟩, hK⟩⟩;have hb : ∀ (q : Addr) (j : Nat), (q.add j).block = q.block := fun q j => by unfold Addr.add; split <;> rfl
 rw [hb, hb] at e;have := hL _ e; omega
namespace Tb
def lng : Int -> List Zn -> Int
 | o, [] => o
 | o, z :: l => if z.c = 9223372036854775807 then 7 else lng (max o (min 7 (z.c / 2))) l
theorem lng_cons (o : Int) (z : Zn) (l : List Zn) : lng o (z :: l) = if z.c = 9223372036854775807 then 7 else lng (max o (min 7 (z.c / 2))) l := rfl
theorem lng_ge : ∀ (l : List Zn) (o : Int), o <= 7 -> o <= lng o l /\ lng o l <= 7
 | [], o, h => ⟨Int.le_refl _, h⟩
 | z :: l, o, h => by
   rw [lng_cons];split
   ·exact ⟨h, by omega⟩
   ·have := lng_ge l (max o (min 7 (z.c / 2))) (by omega)
    omega
theorem lng_mem : ∀ (l : List Zn) (o : Int), o <= 7 -> lng o l <= 6 -> ∀ z, z ∈ l -> z.c <= 2 * lng o l + 1
 | [], o, _, _, z, hz => (nomatch hz)
 | x :: l, o, ho, h, z, hz => by
   rw [lng_cons] at h ⊢;split at h
   ·omega
   ·rename_i hn
    rw [if_neg hn];rcases List.mem_cons.1 hz with rfl | hz
    ·have := lng_ge l (max o (min 7 (z.c / 2))) (by omega)
     omega
    ·exact lng_mem l _ (by omega) h z hz
def may (l : List Zn) : Bool := !Cl.odd l && (decide ((Cv.prune l).2 = 0) && decide (l = (Cv.prune l).1))
end Tb
set_option maxHeartbeats 1000000 in
theorem rlong24_any (l : List Zn) (hi : ∀ z, z ∈ l -> Zo.i64 z) (a : Option Addr) (cap : Nat) (w : World) (hS : Sl w.heap.size w (.slice a l.length cap) l) :
 Calls Tryz.prog 14 #[.slice a l.length cap] w fun e w' => e = .returned (.int .i64 (Tb.lng 0 l)) /\ Below w.heap.size w w' := by
 refine fun_eq 0 w Tryz.func14 (args := [.val (.slice a l.length cap)]) rfl rfl ?_;obtain ⟨_, _, hfe, hcap1, hcap2, _⟩ := hS.form;injection hfe with _ _ hfe;subst hfe;unfold maxLen at hcap2;refine LoopI.invC (α := Nat × Int × World) (fun y => [(3, .val (.int .i64 y.2.1)), (4, .val (.int .i64 y.1))]) (fun y => y.2.2) (fun y => y.1 <= l.length /\ Below w.heap.size w y.2.2 /\ (0 <= y.2.1 /\ y.2.1 <= 7) /\ Tb.lng y.2.1 (l.drop y.1) = Tb.lng 0 l) (fun y => l.length - y.1) ?_ ?_
 ·intro w1 h1
  exact ⟨(0, 0, w1), Cov.au rfl rfl rfl rfl rfl, rfl, Nat.zero_le _, h1.below, by simp, rfl⟩
 rintro ⟨k, o, V⟩ ⟨hk, hV, ho, hall⟩;simp only at hk hV ho hall;refine Branch.mk (fun hc2 => ?_) (fun hc2 => ?_)
 ·have hlt : k < l.length := by have := of_decide_eq_true hc2; simp only at this; omega
  have hx := List.getElem?_eq_getElem (l := l) (i := k) hlt;have hdm : l.drop k = l[k]'hlt :: l.drop (k + 1) := List.drop_eq_getElem_cons hlt;have hxi := hi _ (List.getElem_mem hlt);generalize l[k]'hlt = x at hx hdm hxi;have hxc : -9223372036854775808 <= x.c /\ x.c <= 9223372036854775807 := hxi x.c (by simp [Zo.matL]);rw [hdm, Tb.lng_cons] at hall;have hS4 := hS.go hV hV.size;refine hS4.idx hx fun ad had => ?_;refine Need.mk (by decide) ?_;refine hS4.ldx hx had (Below.refl _ _) (by simp) (i := 2) (c := .int .i64 x.c) rfl ?_;refine Branch.mk (fun hc3 => ?_) (fun hc3 => ?_)
  ·have hn : x.c = 9223372036854775807 := by simpa using hc3
   rw [if_pos hn] at hall;refine EndI.mk fun w9 h9 => ?_;rw [hall]
  ·have hn : ¬ x.c = 9223372036854775807 := by simpa using hc3
   rw [if_neg hn] at hall;apply CallI.use1
   focus (exact fun w4 h4 => (rnumber_any x.c hxc.1 hxc.2 w4).mono fun e w' ⟨he, hw⟩ => ⟨he, hw ▸ Below.refl _ _⟩)
   intro w4 v4 h4 hB4;have hml : maxL o [minL 7 [x.c / 2]] = max o (min 7 (x.c / 2)) := by simp only [maxL, minL, List.foldl_cons, List.foldl_nil]; omega
   rw [<- hml] at hall;refine Need.ok (EndI.mk fun w9 h9 => ⟨(k + 1, maxL o [minL 7 [x.c / 2]], w9), Cov.au rfl rfl rfl rfl rfl, rfl, ⟨hlt, h9.below, by simp only; rw [hml]; omega, hall⟩, by simp only; omega⟩)
 ·have hge : k = l.length := by have := of_decide_eq_false hc2; simp only at this; omega
  subst hge;rw [List.drop_length] at hall;refine EndI.mk fun w9 h9 => ?_;rw [<- hall]; rfl
set_option maxHeartbeats 1000000 in
theorem rmaylist_any (l : List Zn) (hi : ∀ z, z ∈ l -> Zo.i64 z) (a : Option Addr) (cap : Nat) (w : World) (hS : Sl w.heap.size w (.slice a l.length cap) l) :
 Calls Tryz.prog 18 #[.slice a l.length cap] w fun e w' => e = .returned (.bool (Tb.may l)) /\ Below w.heap.size w w' := by
 refine fun_eq 0 w Tryz.func18 (args := [.val (.slice a l.length cap)]) rfl rfl ?_;obtain ⟨_, _, hfe, hcap1, hcap2, _⟩ := hS.form;injection hfe with _ _ hfe;subst hfe;unfold maxLen at hcap2;refine LoopI.invC (α := Nat × World) (fun y => [(3, .val (.int .i64 y.1))]) (fun y => y.2) (fun y => y.1 <= l.length /\ Below w.heap.size w y.2 /\ (l.drop y.1).any Cl.oddZ = l.any Cl.oddZ) (fun y => l.length - y.1) ?_ ?_
 ·intro w1 h1
  exact ⟨(0, w1), Cov.au rfl rfl rfl rfl rfl, rfl, Nat.zero_le _, h1.below, rfl⟩
 rintro ⟨k, V⟩ ⟨hk, hV, hall⟩;simp only at hk hV hall;refine Branch.mk (fun hc2 => ?_) (fun hc2 => ?_)
 ·have hlt : k < l.length := by have := of_decide_eq_true hc2; simp only at this; omega
  have hx := List.getElem?_eq_getElem (l := l) (i := k) hlt;have hdm : l.drop k = l[k]'hlt :: l.drop (k + 1) := List.drop_eq_getElem_cons hlt;generalize l[k]'hlt = x at hx hdm;rw [hdm, List.any_cons] at hall;have hS4 := hS.go hV hV.size;have yes : Cl.oddZ x = true -> Tb.may l = false := fun h => by
   rw [h, Bool.true_or] at hall;unfold Tb.may Cl.odd;rw [<- hall]; rfl
  refine hS4.idx hx fun ad had => ?_;refine Need.mk (by decide) ?_;refine hS4.ldx hx had (Below.refl _ _) (by simp) (i := 1) (c := .int .i64 x.b) rfl ?_;refine Branch.mk (fun hc3 => ?_) (fun hc3 => ?_)
  ·rw [yes (by unfold Cl.oddZ; simp at hc3; simp [hc3])]
   exact EndI.mk fun w9 h9 => rfl
  ·refine hS4.idx hx fun ad2 had2 => ?_
   refine Need.mk (by decide) ?_;refine hS4.ldx hx had2 (Below.refl _ _) (by simp) (i := 5) (c := .int .i64 x.f) rfl ?_;refine Branch.mk (fun hc4 => ?_) (fun hc4 => ?_)
   ·rw [yes (by unfold Cl.oddZ; simp at hc4; simp [hc4])]
    exact EndI.mk fun w9 h9 => rfl
   ·have hn : Cl.oddZ x = false := by unfold Cl.oddZ; simp at hc3 hc4; simp [hc3, hc4]
    rw [hn, Bool.false_or] at hall;refine Need.ok (EndI.mk fun w9 h9 => ⟨(k + 1, w9), Cov.au rfl rfl rfl rfl rfl, rfl, ⟨hlt, h9.below, hall⟩, by simp only; omega⟩)
 ·have hge : k = l.length := by have := of_decide_eq_false hc2; simp only at this; omega
  subst hge;rw [List.drop_length] at hall;apply CallI.use1
  focus (exact fun w4 h4 => rmay13_any l hi a cap w4 (hS.go h4.below h4.below.size))
  intro w4 v4 h4 hB4;refine EndI.mk fun w9 h9 => ?_;unfold Tb.may Cl.odd;rw [<- hall]; rfl
namespace Tb
def tmay (al nw : List Zn) : Bool :=
 if Zs.check al ≠ 0 \/ Zs.check nw ≠ 0 \/ Cl.odd al = true then false else decide ((Cv.all_ nw al).2 = 0) && ((Cv.all_ nw al).1 && !Cl.odd nw)
def capped (l : List Zn) (e zones : Int) : List Zn × Int := if e ≠ 0 \/ zones < (l.length : Int) then ([], 300) else (l, 0)
end Tb
theorem tmay1_any (z : Zn) (w : World) : Calls Tryz.prog 104 #[.agg #[.int .i64 z.a, .int .i64 z.b, .int .i64 z.c, .int .i64 z.d, .int .i64 z.e, .int .i64 z.f]] w fun e w' => e = .returned (.bool (Cl.oddZ z)) /\ Below w.heap.size w w' := by
 refine fun_eq 0 w Tryz.func104 (args := [.agg [.val (.int .i64 z.a), .val (.int .i64 z.b), .val (.int .i64 z.c), .val (.int .i64 z.d), .val (.int .i64 z.e), .val (.int .i64 z.f)]]) rfl rfl ?_;refine NewI.mk fun b1 hb1 => ?_;refine Need.mk (by decide) ?_;unfold Cl.oddZ;refine Branch.mk (fun h1 => ?_) (fun h1 => ?_)
 ·have h1 : decide (1 < z.b) = true := h1
  exact EndI.mk fun w9 h9 => by rw [h1]; rfl
 have h1 : decide (1 < z.b) = false := h1;refine Need.mk (by decide) ?_;exact EndI.mk fun w9 h9 => by rw [h1]; rfl
theorem tmay_any (al nw : List Zn) (a b : Option Addr) (ca cb : Nat) (w : World) (hS : Sl w.heap.size w (.slice a al.length ca) al) (hT : Sl w.heap.size w (.slice b nw.length cb) nw) :
 Calls Tryz.prog 63 #[.agg #[.slice a al.length ca, .slice b nw.length cb]] w fun e w' => e = .returned (.bool (Tb.tmay al nw)) /\ Below w.heap.size w w' := by
 refine fun_eq 0 w Tryz.func63 (args := [.agg [.val (.slice a al.length ca), .val (.slice b nw.length cb)]]) rfl rfl ?_;have st := Stay.first (w := w)
 refine NewI.mk fun b1 hb1 => ?_;have hcon : ∀ (l : List Zn) (a : Option Addr) (c : Nat) (w : World), Sl w.heap.size w (.slice a l.length c) l -> _ := fun l a c w h => containsZ_pure l Cl.oddZ a c 104 #[] w h Tryz.call104 fun x W hx _ => tmay1_any x W;unfold Tb.tmay;apply CallI.use1
 focus (exact fun w2 h2 => zscheck_any al a ca w2 (hS.st (st.at h2)))
 intro w2 v2 h2 hB2;have st := st.nx h2 hB2;refine Branch.mk (fun h1 => ?_) (fun h1 => ?_)
 ·rw [if_pos (.inl (of_decide_eq_true h1))]
  exact EndI.mk fun w9 h9 => rfl
 have h1 := of_decide_eq_false h1;apply CallI.use1
 focus (exact fun w3 h3 => zscheck_any nw b cb w3 (hT.st (st.at h3)))
 intro w3 v3 h3 hB3;have st := st.nx h3 hB3;refine Branch.mk (fun h2 => ?_) (fun h2 => ?_)
 ·rw [if_pos (.inr (.inl (of_decide_eq_true h2)))]
  exact EndI.mk fun w9 h9 => rfl
 have h2 := of_decide_eq_false h2;apply CallI.use1
 focus (exact fun w4 h4 => hcon al a ca w4 (hS.st (st.at h4)))
 intro w4 v4 h4 hB4;have st := st.nx h4 hB4;refine Branch.mk (fun h3 => ?_) (fun h3 => ?_)
 ·rw [if_pos (.inr (.inr h3))]
  exact EndI.mk fun w9 h9 => rfl
 rw [if_neg (fun h => by
  rcases h with h | h | h
  ·exact h1 h
  ·exact h2 h
  ·rw [show Cl.odd al = al.any Cl.oddZ from rfl, h3] at h; cases h)]
 apply CallI.use1
 focus (exact fun w5 h5 => zsin_any nw al b a cb ca w5 (hT.st (st.at h5)) (hS.st (st.at h5)))
 intro w5 v5 h5 hB5;have st := st.nx h5 hB5;refine Branch.mk (fun h4 => ?_) (fun h4 => ?_)
 case refine_2 => exact EndI.mk fun w9 h9 => by rw [h4]; rfl
 rw [h4];refine Branch.mk (fun h5 => ?_) (fun h5 => ?_)
 case refine_2 => exact EndI.mk fun w9 h9 => by rw [h5]; rfl
 rw [h5];apply CallI.use1
 focus (exact fun w6 h6 => hcon nw b cb w6 (hT.st (st.at h6)))
 intro w6 v6 h6 hB6;have st := st.nx h6 hB6;exact EndI.mk fun w9 h9 => rfl
theorem capped_any (l : List Zn) (e zones : Int) (a : Option Addr) (c : Nat) (w : World) :
 Calls Tryz.prog 34 #[.slice a l.length c, .int .i64 e, .int .i64 zones] w fun r w' => r = .returned (if e ≠ 0 \/ zones < (l.length : Int) then .tuple #[.slice none 0 0, .int .i64 300] else .tuple #[.slice a l.length c, .int .i64 0]) /\ Below w.heap.size w w' := by
 refine fun_eq 0 w Tryz.func34 (args := [.val (.slice a l.length c), .val (.int .i64 e), .val (.int .i64 zones)]) rfl rfl ?_;refine Branch.mk (fun h1 => ?_) (fun h1 => ?_)
 ·rw [if_pos (.inl (of_decide_eq_true h1))]
  exact EndI.mk fun w9 h9 => rfl
 have h1 := of_decide_eq_false h1;refine Branch.mk (fun h2 => ?_) (fun h2 => ?_)
 ·rw [if_pos (.inr (of_decide_eq_true h2))]
  exact EndI.mk fun w9 h9 => rfl
 have h2 := of_decide_eq_false h2;rw [if_neg (fun h => h.elim h1 h2)];exact EndI.mk fun w9 h9 => rfl
structure Tbl where
 a : Svl
 n : Svl
instance encTbl : Enc Tbl := ⟨fun x => [.slice x.a.a x.a.len x.a.cap, .slice x.n.a x.n.len x.n.cap], 2, fun _ => rfl, by decide, fun _ v hv => by simp only [List.mem_cons, List.not_mem_nil, or_false] at hv; rcases hv with rfl | rfl <;> rfl, fun x => .agg #[.slice x.a.a x.a.len x.a.cap, .slice x.n.a x.n.len x.n.cap]⟩
theorem indexT_any (l : List Tbl) (p : Tbl -> Bool) (a : Option Addr) (cap : Nat) (fid : FuncId) (caps : Array Value) (B : Nat) (w : World) (hB : B <= w.heap.size) (hS : Sl B w (.slice a l.length cap) l)
 (T : Nat -> World -> Prop) (h0 : T 0 w) (hst : ∀ k W W', T k W -> Below W.heap.size W W' -> T k W') (en : Enters Tryz.prog fid)
 (hcall : ∀ k x W, l[k]? = some x -> Below B w W -> T k W -> Calls Tryz.prog fid (val x :: caps.toList).toArray W fun e W' => e = .returned (.bool (p x)) /\ Below B W W' /\ T (k + 1) W') :
 Calls Tryz.prog 103 #[.slice a l.length cap, .func (.func fid) #[] caps] w fun e w' => ∃ v, e = .returned v /\ Below B w w' /\ v = .int .i64 (idxF p l) /\ T (cntF p l) w' := by
 obtain ⟨a', cap', e', hcap, hmax, _⟩ := hS.form;injection e' with e1 e2 e3;subst e1; subst e3;unfold maxLen at hmax;refine fun_at 0 B w hB Tryz.func103 (args := [.val (.slice a l.length cap), .val (.func (.func fid) #[] caps)]) rfl rfl ?_;refine LoopI.inv (α := Nat × World) (fun x => [(8, .val (.int .i64 x.1))]) (fun _ => []) (fun x => x.2) (fun x => x.1 <= l.length /\ T x.1 x.2 /\ Below B w x.2 /\ ∀ j y, j < x.1 -> l[j]? = some y -> p y = false) (fun x => l.length - x.1) ?_ ?_
 ·intro w1 h1
  exact ⟨(0, w1), Cov.au rfl rfl rfl rfl rfl, rfl, Nat.zero_le _, hst _ _ _ h0 h1.go, h1.below, fun j y hj => by omega⟩
 ·rintro ⟨k, W⟩ ⟨hk, hT, hBw, hno⟩
  refine Branch.mk (fun hb => ?_) (fun hb => ?_)
  ·have hlt : k < l.length := by simpa using hb
   obtain ⟨x, hx⟩ : ∃ x, l[k]? = some x := ⟨l[k], List.getElem?_eq_getElem hlt⟩;refine hS.idx hx fun ad had => ?_;refine hS.ld hx had hBw (by simp) ?_;refine Need.mk en ?_;refine CallI.mk fun w1 h1 => ?_;have hT1 := hst _ _ _ hT h1.go;refine (hcall k x w1 hx h1.below hT1).mono ?_;rintro e w2 ⟨rfl, hB2, hT2⟩;refine ⟨⟨hB2, by simp⟩, _, rfl, ?_⟩;refine Branch.mk (fun hp => ?_) (fun hp => ?_)
   ·refine EndI.mk fun w3 h3 => ?_
    obtain ⟨i1, i2⟩ := idxF_at p l k x hx hp hno;refine ⟨by rw [i1], by rw [i2]; exact hst _ _ _ hT2 h3.go⟩
   ·refine Need.mk (by show _ /\ _; omega) (EndI.mk fun w3 h3 => ?_)
    refine ⟨(k + 1, w3), Cov.au rfl rfl rfl rfl rfl, rfl, ⟨hlt, hst _ _ _ hT2 h3.go, h3.below, fun j y hj hy => ?_⟩, by simp only; omega⟩
    by_cases hjk : j = k
    ·subst hjk; rw [hx] at hy; injection hy with hy; subst hy; exact hp
    ·exact hno j y (by omega) hy
  ·have hge : k = l.length := by (have : ¬ k < l.length := by simpa using hb); omega
   subst hge;refine EndI.mk fun w3 h3 => ?_;obtain ⟨i1, i2⟩ := idxF_none p l fun j y hy => hno j y (List.getElem?_eq_some_iff.1 hy).1 hy;exact ⟨by rw [i1], by rw [i2]; exact hst _ _ _ hT h3.go⟩
theorem containsT_any (l : List Tbl) (p : Tbl -> Bool) (a : Option Addr) (cap : Nat) (fid : FuncId) (caps : Array Value) (B : Nat) (w : World) (hB : B <= w.heap.size) (hS : Sl B w (.slice a l.length cap) l)
 (T : Nat -> World -> Prop) (h0 : T 0 w) (hst : ∀ k W W', T k W -> Below W.heap.size W W' -> T k W') (en : Enters Tryz.prog fid)
 (hcall : ∀ k x W, l[k]? = some x -> Below B w W -> T k W -> Calls Tryz.prog fid (val x :: caps.toList).toArray W fun e W' => e = .returned (.bool (p x)) /\ Below B W W' /\ T (k + 1) W') :
 Calls Tryz.prog 61 #[.slice a l.length cap, .func (.func fid) #[] caps] w fun e w' => ∃ v, e = .returned v /\ Below B w w' /\ v = .bool (l.any p) /\ T (cntF p l) w' := by
 refine fun_at 0 B w hB Tryz.func61 (args := [.val (.slice a l.length cap), .val (.func (.func fid) #[] caps)]) rfl rfl ?_;refine CallI.mk fun w1 h1 => ?_;have hB1 : B <= w1.heap.size := Nat.le_trans hB h1.size;refine (indexT_any l p a cap fid caps B w1 hB1 (hS.below h1.below) T (hst _ _ _ h0 h1.go) hst en fun k x W hx hW hT => hcall k x W hx (h1.below.trans hW) hT).mono ?_;rintro e w2 ⟨v, rfl, hB2, rfl, hT⟩;refine ⟨⟨hB2, by simp⟩, _, rfl, ?_⟩;refine EndI.mk fun w3 h3 => ⟨?_, hst _ _ _ hT h3.go⟩;rw [<- idxF_any]
theorem containsT_pure (l : List Tbl) (p : Tbl -> Bool) (a : Option Addr) (cap : Nat) (fid : FuncId) (caps : Array Value) (w : World) (hS : Sl w.heap.size w (.slice a l.length cap) l) (en : Enters Tryz.prog fid)
 (hcall : ∀ x W, x ∈ l -> Below w.heap.size w W -> Calls Tryz.prog fid (val x :: caps.toList).toArray W fun e W' => e = .returned (.bool (p x)) /\ Below W.heap.size W W') :
 Calls Tryz.prog 61 #[.slice a l.length cap, .func (.func fid) #[] caps] w fun e w' => e = .returned (.bool (l.any p)) /\ Below w.heap.size w w' := by
 refine (containsT_any l p a cap fid caps w.heap.size w (Nat.le_refl _) hS (fun _ _ => True) trivial (fun _ _ _ _ _ => trivial) en fun k x W hx hB _ => ?_).mono ?_
 ·refine (hcall x W (List.mem_of_getElem? hx) hB).mono ?_
  rintro e W' ⟨rfl, hB'⟩;exact ⟨rfl, hB'.mono hB.size, trivial⟩
 ·rintro e w' ⟨v, rfl, hB, rfl, _⟩
  exact ⟨rfl, hB⟩
theorem Sl.inj {α : Type} [Enc α] (hi : ∀ x y : α, enc x = enc y -> x = y) {n m : Nat} {W : World} {sv : Value} {l k : List α} (h : Sl n W sv l) (g : Sl m W sv k) : l = k := by
 obtain ⟨a, c, e1, _, _, _, h4⟩ := h;obtain ⟨a', c', e2, _, _, _, g4⟩ := g;rw [e1] at e2;injection e2 with q1 q2 q3;subst q1;refine List.ext_getElem? fun i => ?_;rcases Nat.lt_or_ge i l.length with hl | hl
 ·have hx := List.getElem?_eq_getElem (l := l) (i := i) hl
  have hy := List.getElem?_eq_getElem (l := k) (i := i) (by omega);obtain ⟨b, o, ha, _, hb⟩ := h4 i _ hx;obtain ⟨b', o', ha', _, hb'⟩ := g4 i _ hy;rw [ha] at ha';injection ha' with ha';injection ha' with r1 r2 _;subst r1; subst r2;rw [hx, hy]
  congr 1
  refine hi _ _ (List.ext_getElem? fun j => ?_);rcases Nat.lt_or_ge j (size α) with hj | hj
  ·have u1 := List.getElem?_eq_getElem (l := enc l[i]) (i := j) (by rw [Enc.len]; exact hj)
   have u2 := List.getElem?_eq_getElem (l := enc k[i]) (i := j) (by rw [Enc.len]; exact hj);have v1 := hb j _ u1;have v2 := hb' j _ u2;rw [v1] at v2;injection v2 with v2;rw [u1, u2, v2]
  ·rw [List.getElem?_eq_none (by rw [Enc.len]; exact hj), List.getElem?_eq_none (by rw [Enc.len]; exact hj)]
 ·rw [List.getElem?_eq_none hl, List.getElem?_eq_none (by omega)]
theorem zn_inj (x y : Zn) (h : enc x = enc y) : x = y := by
 obtain ⟨a, b, c, d, e, f⟩ := x;obtain ⟨a', b', c', d', e', f'⟩ := y;simp [enc] at h;obtain ⟨rfl, rfl, rfl, rfl, rfl, rfl⟩ := h
 rfl
namespace Tb
def Parts (n : Nat) (W : World) (ts : List Tbl) (ls : List (List Zn × List Zn)) : Prop := ts.length = ls.length /\ ∀ (k : Nat) (t : Tbl) (l : List Zn × List Zn), ts[k]? = some t -> ls[k]? = some l -> Sl n W (.slice t.a.a t.a.len t.a.cap) l.1 /\ t.a.len = l.1.length /\ Sl n W (.slice t.n.a t.n.len t.n.cap) l.2 /\ t.n.len = l.2.length
theorem Parts.go {n : Nat} {W X : World} {ts : List Tbl} {ls : List (List Zn × List Zn)} (h : Parts n W ts ls) (hB : Below n W X) (hn : n <= X.heap.size) : Parts X.heap.size X ts ls := ⟨h.1, fun k t l ht hl => by
 obtain ⟨h1, h2, h3, h4⟩ := h.2 k t l ht hl;exact ⟨h1.go hB hn, h2, h3.go hB hn, h4⟩⟩
def ask (zones : Int) (ls : List (List Zn × List Zn)) : Int := if zones < 1 \/ 4096 < zones then 2 else if (ls.any fun x => !tmay x.1 x.2) = true then 8 else 0
end Tb
theorem tasked1_any (al nw : List Zn) (a b : Option Addr) (ca cb : Nat) (w : World) (hS : Sl w.heap.size w (.slice a al.length ca) al) (hT : Sl w.heap.size w (.slice b nw.length cb) nw) :
 Calls Tryz.prog 62 #[.agg #[.slice a al.length ca, .slice b nw.length cb]] w fun e w' => e = .returned (.bool (!Tb.tmay al nw)) /\ Below w.heap.size w w' := by
 refine fun_eq 0 w Tryz.func62 (args := [.agg [.val (.slice a al.length ca), .val (.slice b nw.length cb)]]) rfl rfl ?_;have st := Stay.first (w := w)
 refine NewI.mk fun b1 hb1 => ?_;apply CallI.use1
 focus (exact fun w2 h2 => tmay_any al nw a b ca cb w2 (hS.st (st.at h2)) (hT.st (st.at h2)))
 intro w2 v2 h2 hB2;have st := st.nx h2 hB2;exact EndI.mk fun w9 h9 => rfl
open Classical in
theorem tasked_any (zones : Int) (ts : List Tbl) (ls : List (List Zn × List Zn)) (a : Option Addr) (c : Nat) (w : World) (hP : Tb.Parts w.heap.size w ts ls) (hS : Sl w.heap.size w (.slice a ts.length c) ts) :
 Calls Tryz.prog 31 #[.int .i64 zones, .slice a ts.length c] w fun e w' => e = .returned (.int .i64 (Tb.ask zones ls)) /\ Below w.heap.size w w' := by
 refine fun_eq 0 w Tryz.func31 (args := [.val (.int .i64 zones), .val (.slice a ts.length c)]) rfl rfl ?_;unfold Tb.ask;refine Branch.mk (fun h1 => ?_) (fun h1 => ?_)
 ·rw [if_pos (.inl (of_decide_eq_true h1))]
  exact EndI.mk fun w9 h9 => rfl
 have h1 := of_decide_eq_false h1;refine Branch.mk (fun h2 => ?_) (fun h2 => ?_)
 ·rw [if_pos (.inr (of_decide_eq_true h2))]
  exact EndI.mk fun w9 h9 => rfl
 have h2 := of_decide_eq_false h2;rw [if_neg (fun h => h.elim h1 h2)]
 let p : Tbl -> Bool := fun t => decide (∃ (k : Nat) (l : List Zn × List Zn), ts[k]? = some t /\ ls[k]? = some l /\ Tb.tmay l.1 l.2 = false)
 have hp : ∀ (k : Nat) (t : Tbl) (l : List Zn × List Zn), ts[k]? = some t -> ls[k]? = some l -> p t = !Tb.tmay l.1 l.2 := fun k t l ht hl => by
  obtain ⟨u1, _, u2, _⟩ := hP.2 k t l ht hl;show decide _ = _;cases hm : Tb.tmay l.1 l.2 with
  | false => exact decide_eq_true ⟨k, l, ht, hl, hm⟩
  | true =>
    refine decide_eq_false ?_;rintro ⟨k', l', ht', hl', hm'⟩;obtain ⟨v1, _, v2, _⟩ := hP.2 k' t l' ht' hl';rw [Sl.inj zn_inj v1 u1, Sl.inj zn_inj v2 u2, hm] at hm';cases hm'
 have hany : ts.any p = ls.any fun x => !Tb.tmay x.1 x.2 := by
  rw [Bool.eq_iff_iff, List.any_eq_true, List.any_eq_true];constructor
  ·rintro ⟨t, ht, hpt⟩
   obtain ⟨k, hk⟩ := List.getElem?_of_mem ht;have hkl := (List.getElem?_eq_some_iff.1 hk).1;have hl := List.getElem?_eq_getElem (l := ls) (i := k) (by have := hP.1; omega);exact ⟨_, List.mem_of_getElem? hl, (hp k t _ hk hl).symm.trans hpt⟩
  ·rintro ⟨l, hl, hpl⟩
   obtain ⟨k, hk⟩ := List.getElem?_of_mem hl;have hkl := (List.getElem?_eq_some_iff.1 hk).1;have ht := List.getElem?_eq_getElem (l := ts) (i := k) (by have := hP.1; omega);exact ⟨_, List.mem_of_getElem? ht, (hp k _ l ht hk).trans hpl⟩
 have hcl : ∀ (w3 : World), Below w.heap.size w w3 -> ∀ (x : Tbl) (W : World), x ∈ ts -> Below w3.heap.size w3 W -> Calls Tryz.prog 62 #[.agg #[.slice x.a.a x.a.len x.a.cap, .slice x.n.a x.n.len x.n.cap]] W fun e W' => e = .returned (.bool (p x)) /\ Below W.heap.size W W' := fun w3 hw x W hx hB => by
  obtain ⟨k, hk⟩ := List.getElem?_of_mem hx;have hkl := (List.getElem?_eq_some_iff.1 hk).1;have hl := List.getElem?_eq_getElem (l := ls) (i := k) (by have := hP.1; omega);generalize ls[k]'(by have := hP.1; omega) = l at hl;obtain ⟨u1, e1, u2, e2⟩ := ((hP.go hw hw.size).go hB hB.size).2 k x l hk hl;rw [hp k x l hk hl];obtain ⟨⟨xa, xl, xc⟩, ⟨ya, yl, yc⟩⟩ := x;simp only at u1 e1 u2 e2;subst e1; subst e2;exact tasked1_any l.1 l.2 xa ya xc yc W u1 u2
 apply CallI.use1
 focus (exact fun w3 h3 => containsT_pure ts p a c 62 #[] w3 (Sl.at h3 hS) Tryz.call62 fun x W hx hB => hcl w3 h3.below x W hx hB)
 intro w3 v3 h3 hB3;rw [hany];refine Branch.mk (fun h4 => ?_) (fun h4 => ?_)
 ·rw [if_pos h4]
  exact EndI.mk fun w9 h9 => rfl
 ·rw [if_neg (by rw [h4]; decide)]
  exact EndI.mk fun w9 h9 => rfl
end
section
open Go.ChangeShapes Go.WideShapes Go.ChangeAt Go.RowKit Go.Deep Go.Proofs.YtanhnllkccldhaaGreat.Eng
section
variable {H : Type} {en : TypeId × Value -> H} {P : Program}
theorem Tb.ins_i64 {z : Zn} (h : Zn.ins z) : Zo.i64 z := by
 obtain ⟨h1, h2, h3, h4, h5, h6⟩ := h;simp only [inK] at h1 h2 h3 h4 h5 h6;intro b hb;unfold Zo.matL at hb;unfold Dbm.int64;simp only [List.mem_cons, List.not_mem_nil, or_false] at hb;omega
theorem open_tbl {t ez : TypeId} {f0 f1 : Field} {r : Reach} {b0 : Nat} {v : Value} {d : DataW H} {ps : List MemPlace} {W : World} {sp : Nat -> Bool} {hl : Bool} (ht : P.underlying t = some (.struct #[f0, f1])) (hc : P.cellsOf t = 2) (h0 : f0.offset = 0) (h1 : f1.offset = 1) (c0 : P.cellsOf f0.type = 1) (c1 : P.cellsOf f1.type = 1)
 (t0 : P.underlying f0.type = some (.slice ez)) (t1 : P.underlying f1.type = some (.slice ez)) (oz : Opens en P ez Zn Zn.ins)
 (hval : Value.okWide P W r b0 t v) (hd : DataW.Trod en P W 0 sp hl t v d ps) :
 ∃ (a b : Option Addr) (p q : List Zn) (ca cb : Nat), v = .agg #[.slice a p.length ca, .slice b q.length cb] /\ Sl W.heap.size W (.slice a p.length ca) p /\ (∀ z ∈ p, z.ins) /\ Sl W.heap.size W (.slice b q.length cb) q /\ ∀ z ∈ q, z.ins := by
 obtain ⟨v0, v1, y0, y1, n, rfl, k0, k1⟩ := open_two ht hc h0 h1 c0 c1 hval hd;obtain ⟨pa, p, ca, e0, hS, hG⟩ := open_list t0 oz k0;obtain ⟨qa, q, cq, e1, hT, hH⟩ := open_list t1 oz k1;simp at e0 e1;subst e0; subst e1;exact ⟨pa, qa, p, q, ca, cq, rfl, hS, hG, hT, hH⟩
end
end
section
open Go.RowKit Go.Proofs.YtanhnllkccldhaaGreat.Eng Enc
namespace Mi
open Dbm
def Sm (S : Int) (z : Zn) : Prop := ∀ k, k < 6 -> Zo.get z k <= S
theorem get_mayC {z : Zn} (h : chk 3 (Zo.matL z) = 0) {k : Nat} (hk : k < 6) : mayC (Zo.get z k) = true := by
 obtain ⟨_, _, _, h4⟩ := chk_iff.1 h;simp only [Zo.matL, List.any_cons, List.any_nil, Bool.or_false, Bool.or_eq_false_iff, Bool.not_eq_false'] at h4;obtain ⟨_, h1, h2, h3, _, h5, h6, h7, _⟩ := h4;rcases six hk with rfl | rfl | rfl | rfl | rfl | rfl <;> assumption
theorem chk_of_get {z : Zn} (h : ∀ k, k < 6 -> mayC (Zo.get z k) = true) : chk 3 (Zo.matL z) = 0 := by
 have h0 : mayC z.a = true := h 0 (by decide);have h1 : mayC z.b = true := h 1 (by decide);have h2 : mayC z.c = true := h 2 (by decide);have h3 : mayC z.d = true := h 3 (by decide);have h4 : mayC z.e = true := h 4 (by decide);have h5 : mayC z.f = true := h 5 (by decide);have h6 : mayC 1 = true := by decide
 refine chk_iff.2 ⟨by decide, by decide, by simp [Zo.matL], ?_⟩;simp [Zo.matL, h0, h1, h2, h3, h4, h5, h6]
theorem mayC_iff {b : Int} : mayC b = true ↔ b = NO \/ (-288230376151711744 <= b / 2 /\ b / 2 <= 288230376151711744) := by
 unfold mayC NO;simp
theorem of_sm {L : List Int} {S : Int} (h0 : chk 3 L = 0) (hS : 0 <= S /\ S <= 288230376151711744) (h : ∀ i j, i < 3 -> j < 3 -> i ≠ j -> L[i * 3 + j]?.getD 0 <= S) :
 (Zo.of 3 L).2 = 6 \/ ((Zo.of 3 L).2 = 0 /\ Clo 3 (Zo.matL (Zo.of 3 L).1) /\ ∀ i j, i < 3 -> j < 3 -> i ≠ j -> (Zo.matL (Zo.of 3 L).1)[i * 3 + j]?.getD 0 <= L[i * 3 + j]?.getD 0) := by
 unfold Zo.of;rw [if_pos h0, if_pos rfl];have hcl : close 3 L = (match closeL 3 L with | some L' => (3, L', 0) | none => (0, [], 6)) := by unfold close; rw [if_pos h0]; rfl
 cases hC : closeL 3 L with
 | none => rw [hC] at hcl; rw [hcl]; left; rfl
 | some C =>
   right;rw [hC] at hcl;rw [hcl, if_pos rfl];obtain ⟨L1, a2, a3, inv, hl, hE⟩ := close_inv h0 hC;have clo := close_clo h0 hC;have low : ∀ i j, i < 3 -> j < 3 -> i ≠ j -> C[i * 3 + j]?.getD 0 <= L[i * 3 + j]?.getD 0 /\ C[i * 3 + j]?.getD 0 ≠ NO := fun i j hi hj hne => by
    have h1 := inv.low i j hi hj;have h2 := h i j hi hj hne;have hno : L[i * 3 + j]?.getD 0 ≠ NO := fun e => by rw [e] at h2; unfold NO at h2; omega
    have h3 : mx 3 L1 i j = some (L[i * 3 + j]?.getD 0) := by
     unfold mx ob;rw [a3 i j hi hj, if_neg hne, if_neg hno]
    rw [h3] at h1;cases hv : mx 3 C i j with
    | none => rw [hv] at h1; exact h1.elim
    | some v =>
      rw [hv] at h1;obtain ⟨e1, e2⟩ := mx_some hv;rw [e1];exact ⟨h1, e2⟩
   have hmay : ∀ i j, i < 3 -> j < 3 -> mayC (C[i * 3 + j]?.getD 0) = true := fun i j hi hj => by
    by_cases e : i = j
    ·subst e
     rw [clo.diag i hi]; decide
    ·obtain ⟨l1, l2⟩ := low i j hi hj e
     obtain ⟨l3, l4⟩ := low j i hj hi (fun h => e h.symm);have s1 := h i j hi hj e;have s2 := h j i hj hi (fun h => e h.symm);have h3 := clo.tri i i j hi hi hj;have m1 : mx 3 C i i = some 1 := by unfold mx; rw [clo.diag i hi]; rfl
     have m2 : mx 3 C i j = some (C[i * 3 + j]?.getD 0) := by unfold mx ob; rw [if_neg l2]
     have m3 : mx 3 C j i = some (C[j * 3 + i]?.getD 0) := by unfold mx ob; rw [if_neg l4]
     rw [m1, m2, m3] at h3;have h4 : (1 : Int) <= bsum (C[i * 3 + j]?.getD 0) (C[j * 3 + i]?.getD 0) := h3;have h5 := bsum_half (C[i * 3 + j]?.getD 0) (C[j * 3 + i]?.getD 0);exact mayC_iff.2 (.inr (by omega))
   have hlen : C.length = 9 := clo.len;have h1 : chk 3 C = 0 := by
    refine chk_iff.2 ⟨by decide, by decide, by rw [hlen]; decide, ?_⟩;rw [List.any_eq_false];intro b hb;obtain ⟨q, hq, rfl⟩ := List.getElem_of_mem hb;have := hmay (q / 3) (q % 3) (by omega) (by omega);rw [show q / 3 * 3 + q % 3 = q by omega, List.getElem?_eq_getElem hq] at this
    simpa using this
   have e1 : (Zo.told (3, C, (0 : Int)).2.1) = (Zo.ofL C, 0) := by unfold Zo.told; exact if_pos h1
   have hm : Zo.matL (Zo.ofL C) = C := by
    have d0 := clo.diag 0 (by decide);have d1 := clo.diag 1 (by decide);have d2 := clo.diag 2 (by decide)
    match C, hlen with
    | [c0, c1, c2, c3, c4, c5, c6, c7, c8], _ =>
      simp at d0 d1 d2;subst d0; subst d1; subst d2
      rfl
   rw [e1];refine ⟨rfl, ?_, fun i j hi hj hne => ?_⟩
   ·rw [hm]; exact clo
   ·rw [hm]; exact (low i j hi hj hne).1
theorem get_of_mat {z y : Zn} (h : ∀ i j, i < 3 -> j < 3 -> i ≠ j -> (Zo.matL z)[i * 3 + j]?.getD 0 <= (Zo.matL y)[i * 3 + j]?.getD 0) : ∀ k, k < 6 -> Zo.get z k <= Zo.get y k := fun k hk => by
 rcases six hk with rfl | rfl | rfl | rfl | rfl | rfl
 ·exact h 1 0 (by decide) (by decide) (by decide)
 ·exact h 0 1 (by decide) (by decide) (by decide)
 ·exact h 2 0 (by decide) (by decide) (by decide)
 ·exact h 0 2 (by decide) (by decide) (by decide)
 ·exact h 2 1 (by decide) (by decide) (by decide)
 ·exact h 1 2 (by decide) (by decide) (by decide)
theorem mat_of_get {z : Zn} {S : Int} (h : Sm S z) : ∀ i j, i < 3 -> j < 3 -> i ≠ j -> (Zo.matL z)[i * 3 + j]?.getD 0 <= S := fun i j hi hj hne => by
 rcases (by omega : i = 0 \/ i = 1 \/ i = 2) with rfl | rfl | rfl <;> rcases (by omega : j = 0 \/ j = 1 \/ j = 2) with rfl | rfl | rfl <;> first
  | exact absurd rfl hne
  | exact h 0 (by decide)
  | exact h 1 (by decide)
  | exact h 2 (by decide)
  | exact h 3 (by decide)
  | exact h 4 (by decide)
  | exact h 5 (by decide)
theorem min_mayC {x y : Int} (hx : mayC x = true) (hy : mayC y = true) : mayC (min x y) = true := by
 rcases Int.le_total x y with h | h
 ·rw [Int.min_eq_left h]; exact hx
 ·rw [Int.min_eq_right h]; exact hy
theorem wth_sm {z : Zn} {S : Int} (hS : 0 <= S /\ S <= 288230376151711744) (hz : Zo.chk z = 0) (hs : Sm S z) {i : Nat} (hi : i < 6) {b : Int} (hb : mayC b = true) :
 (wth z i b).2 = 6 \/ ((wth z i b).2 = 0 /\ ∀ k, k < 6 -> Zo.get (wth z i b).1 k <= Zo.get z k) := by
 have hcut : ∀ k, k < 6 -> Zo.get (cut z i b) k = if k = i then min (Zo.get z i) b else Zo.get z k := fun k hk => by unfold cut; exact get_set z hi hk _
 have hle : ∀ k, k < 6 -> Zo.get (cut z i b) k <= Zo.get z k := fun k hk => by
  rw [hcut k hk];split
  ·rename_i e; rw [e]; omega
  ·omega
 have h0 : chk 3 (Zo.matL (cut z i b)) = 0 := chk_of_get fun k hk => by
  rw [hcut k hk];split
  ·exact min_mayC (get_mayC (Zo.clo hz).1 hi) hb
  ·exact get_mayC (Zo.clo hz).1 hk
 unfold wth;rw [if_pos h0];rcases of_sm h0 hS (mat_of_get fun k hk => Int.le_trans (hle k hk) (hs k hk)) with h | ⟨h1, _, h3⟩
 ·exact .inl h
 ·exact .inr ⟨h1, fun k hk => Int.le_trans (get_of_mat h3 k hk) (hle k hk)⟩
theorem not_mayK {b : Int} (h : (Bd.not b).2 = 0) (hl : lim 288230376151711744 b) : mayC (Bd.not b).1 = true := by
 unfold Bd.not at h ⊢
 by_cases hn : b = NO
 ·subst hn
  rw [Incl.value_no] at h;rw [if_neg (by decide)] at h; cases h
 rw [Incl.value_of hl hn] at h ⊢;have hb := hl.resolve_left hn;have hok : Num.okB (-(b / 2)) = true := Num.okB_iff.2 (by omega);simp only [if_true] at h ⊢;unfold Bd.made at h ⊢;rw [if_pos hok] at h ⊢;simp only;refine mayC_iff.2 (.inr ?_);unfold Bd.mk;split <;> omega
def Dj (x y : Zn) : Prop := ∀ t, ¬ (Fz x t /\ Fz y t)
theorem go_sm {b : Zn} {S : Int} (hS : 0 <= S /\ S <= 288230376151711744) (hb : Zo.chk b = 0) : ∀ (l : List Nat) (x : Zn), (∀ i, i ∈ l -> i < 6) -> Zo.chk x = 0 -> Sm S x ->
 (∀ y, y ∈ go b l x -> y.2 = 0 /\ ∀ k, k < 6 -> Zo.get y.1 k <= Zo.get x k) /\ ((go b l x).map (·.1)).Pairwise Dj
 | [], x, _, _, _ => ⟨fun y hy => by simp [go] at hy, by simp [go]⟩
 | i :: l, x, hl, hx, hs => by
   have hi := hl i (by simp);have hll : ∀ j, j ∈ l -> j < 6 := fun j hj => hl j (by simp [hj]);have hcb := (Zo.clo hb).1;unfold go
   by_cases hn : (Bd.not (Zo.get b i)).2 ≠ 0
   ·rw [if_pos hn]
    exact go_sm hS hb l x hll hx hs
   rw [if_neg hn];have hn : (Bd.not (Zo.get b i)).2 = 0 := by simpa using hn
   obtain ⟨n1, n2, n3⟩ := not_lt hn (get_lim hcb hi);have ho : other i < 6 := by unfold other; split <;> omega
   have hA := wth_sm hS hx hs ho (not_mayK hn (get_lim hcb hi));have hB := wth_sm hS hx hs hi (get_mayC hcb hi)
   -- the first one
   have first : ∀ y, y ∈ (if (wth x (other i) (Bd.not (Zo.get b i)).1).2 = 6 then [] else [wth x (other i) (Bd.not (Zo.get b i)).1]) -> (y.2 = 0 /\ ∀ k, k < 6 -> Zo.get y.1 k <= Zo.get x k) /\ ∀ t, Fz y.1 t -> ¬ satO (dif i t) (ob (Zo.get b i)) := fun y hy => by
    rcases hA with hA | ⟨hA1, hA2⟩
    ·rw [if_pos hA] at hy; simp at hy
    ·rw [if_neg (by rw [hA1]; decide)] at hy
     rw [List.mem_singleton.1 hy];refine ⟨⟨hA1, hA2⟩, fun t ht => ?_⟩;have := ((wth_ok (Zo.clo hx).1 ho (.inr n2) hA1).2 t).1 ht;rw [dif_other hi] at this;exact (n3 _).1 this.2
   have hfd : ((if (wth x (other i) (Bd.not (Zo.get b i)).1).2 = 6 then [] else [wth x (other i) (Bd.not (Zo.get b i)).1]).map (·.1)).Pairwise Dj := by
    split <;> simp
   rcases hB with hB | ⟨hB1, hB2⟩
   ·rw [if_pos (show (wth x i (Zo.get b i)).2 = 6 from hB), List.append_nil]
    exact ⟨fun y hy => (first y hy).1, hfd⟩
   ·rw [if_neg (show ¬ (wth x i (Zo.get b i)).2 = 6 by rw [hB1]; decide), if_pos hB1, List.nil_append]
    obtain ⟨w1, w2⟩ := wth_ok (Zo.clo hx).1 hi (lim_lt (get_lim hcb hi) (by omega)) hB1;obtain ⟨g1, g2⟩ := go_sm hS hb l _ hll w1 (fun k hk => Int.le_trans (hB2 k hk) (hs k hk));refine ⟨fun y hy => ?_, ?_⟩
    ·rcases List.mem_append.1 hy with hy | hy
     ·exact (first y hy).1
     ·exact ⟨(g1 y hy).1, fun k hk => Int.le_trans ((g1 y hy).2 k hk) (hB2 k hk)⟩
    ·rw [List.map_append, List.pairwise_append]
     refine ⟨hfd, g2, fun u hu v hv t ht => ?_⟩;obtain ⟨u', hu', rfl⟩ := List.mem_map.1 hu;obtain ⟨v', hv', rfl⟩ := List.mem_map.1 hv;have := (go_ok hcb l _ hll (Zo.clo w1).1 (fun y hy => (g1 y hy).1) v' hv').2 t ht.2;exact (first u' hu').2 t ht.1 ((w2 t).1 this.1).2
theorem minus_sm {a b : Zn} {S : Int} (hS : 0 <= S /\ S <= 288230376151711744) (ha : Zo.chk a = 0) (hb : Zo.chk b = 0) (hs : Sm S a) :
 (minus a b).2 = 0 /\ (∀ y, y ∈ (minus a b).1 -> ∀ k, k < 6 -> Zo.get y k <= Zo.get a k) /\ (minus a b).1.Pairwise Dj := by
 obtain ⟨g1, g2⟩ := go_sm hS hb [0, 1, 2, 3, 4, 5] a (by simp) ha hs;unfold minus;rw [if_pos ⟨ha, hb⟩];have hf : (parts a b).find? (fun x => decide (x.2 ≠ 0)) = none := List.find?_eq_none.2 fun x hx => by simp [(g1 x hx).1]
 rw [hf];refine ⟨rfl, fun y hy => ?_, g2⟩;obtain ⟨x, hx, rfl⟩ := List.mem_map.1 hy;exact (g1 x hx).2
end Mi
namespace Ky
open Dbm Mi
def fr (x : Rat) : Rat := x - (x.floor : Rat)
theorem fr_nonneg (x : Rat) : 0 <= fr x := by unfold fr; have := Rat.floor_le x; grind
theorem fr_lt (x : Rat) : fr x < 1 := by unfold fr; have := Rat.lt_floor_add_one x; rw [Rat.intCast_add] at this; have h : ((1 : Int) : Rat) = 1 := rfl; rw [h] at this; grind
theorem eq_fr (x : Rat) : x = (x.floor : Rat) + fr x := by unfold fr; grind
theorem le_key (x y : Rat) (c : Int) : x - y <= (c : Rat) ↔ x.floor - y.floor < c \/ (x.floor - y.floor = c /\ fr x <= fr y) := by
 have e1 := eq_fr x;have e2 := eq_fr y;have a1 := fr_nonneg x;have a2 := fr_nonneg y;have b1 := fr_lt x;have b2 := fr_lt y;have e3 : ((x.floor - y.floor : Int) : Rat) = (x.floor : Rat) - (y.floor : Rat) := Rat.intCast_sub ..;rcases Int.lt_trichotomy (x.floor - y.floor) c with h | h | h
 ·have h1 : ((x.floor - y.floor + 1 : Int) : Rat) <= (c : Rat) := by exact_mod_cast (by omega : x.floor - y.floor + 1 <= c)
  rw [Rat.intCast_add, e3] at h1;have h2 : ((1 : Int) : Rat) = 1 := rfl;rw [h2] at h1;exact ⟨fun _ => .inl h, fun _ => by grind⟩
 ·have h1 : ((x.floor - y.floor : Int) : Rat) = (c : Rat) := by rw [h]
  rw [e3] at h1;constructor
  ·intro k; exact .inr ⟨h, by grind⟩
  ·rintro (k | ⟨_, k⟩)
   ·omega
   ·grind
 ·have h1 : ((c + 1 : Int) : Rat) <= ((x.floor - y.floor : Int) : Rat) := by exact_mod_cast (by omega : c + 1 <= x.floor - y.floor)
  rw [Rat.intCast_add, e3] at h1;have h2 : ((1 : Int) : Rat) = 1 := rfl;rw [h2] at h1;constructor
  ·intro k; exfalso; grind
  ·rintro (k | ⟨k, _⟩) <;> omega
theorem lt_key (x y : Rat) (c : Int) : x - y < (c : Rat) ↔ x.floor - y.floor < c \/ (x.floor - y.floor = c /\ fr x < fr y) := by
 have e1 := eq_fr x;have e2 := eq_fr y;have a1 := fr_nonneg x;have a2 := fr_nonneg y;have b1 := fr_lt x;have b2 := fr_lt y;have e3 : ((x.floor - y.floor : Int) : Rat) = (x.floor : Rat) - (y.floor : Rat) := Rat.intCast_sub ..;rcases Int.lt_trichotomy (x.floor - y.floor) c with h | h | h
 ·have h1 : ((x.floor - y.floor + 1 : Int) : Rat) <= (c : Rat) := by exact_mod_cast (by omega : x.floor - y.floor + 1 <= c)
  rw [Rat.intCast_add, e3] at h1;have h2 : ((1 : Int) : Rat) = 1 := rfl;rw [h2] at h1;exact ⟨fun _ => .inl h, fun _ => by grind⟩
 ·have h1 : ((x.floor - y.floor : Int) : Rat) = (c : Rat) := by rw [h]
  rw [e3] at h1;constructor
  ·intro k; exact .inr ⟨h, by grind⟩
  ·rintro (k | ⟨_, k⟩)
   ·omega
   ·grind
 ·have h1 : ((c + 1 : Int) : Rat) <= ((x.floor - y.floor : Int) : Rat) := by exact_mod_cast (by omega : c + 1 <= x.floor - y.floor)
  rw [Rat.intCast_add, e3] at h1;have h2 : ((1 : Int) : Rat) = 1 := rfl;rw [h2] at h1;constructor
  ·intro k; exfalso; grind
  ·rintro (k | ⟨k, _⟩) <;> omega
theorem sat_key {x y x' y' : Rat} (h1 : x.floor - y.floor = x'.floor - y'.floor) (h2 : fr x <= fr y ↔ fr x' <= fr y') (h3 : fr y <= fr x ↔ fr y' <= fr x') (b : OB) : satO (x - y) b ↔ satO (x' - y') b := by
 cases b with
 | none => exact Iff.rfl
 | some v =>
   unfold satO;simp only;split
   ·rw [lt_key, lt_key, h1]
    have : fr x < fr y ↔ fr x' < fr y' := by rw [<- Rat.not_le, <- Rat.not_le, h3]
    rw [this]
   ·rw [le_key, le_key, h1, h2]
structure Alike (t t' : Nat -> Rat) : Prop where
 fl : ∀ i, i < 3 -> (t i).floor - (t 0).floor = (t' i).floor - (t' 0).floor
 le : ∀ i j, i < 3 -> j < 3 -> (fr (t i) <= fr (t j) ↔ fr (t' i) <= fr (t' j))
theorem Alike.fz {t t' : Nat -> Rat} (h : Alike t t') (z : Zn) : Fz z t ↔ Fz z t' := by
 constructor
 ·intro k i j hi hj
  exact (sat_key (by have := h.fl i hi; have := h.fl j hj; omega) (h.le i j hi hj) (h.le j i hj hi) _).1 (k i j hi hj)
 ·intro k i j hi hj
  exact (sat_key (by have := h.fl i hi; have := h.fl j hj; omega) (h.le i j hi hj) (h.le j i hj hi) _).2 (k i j hi hj)
theorem fr_int (n : Int) : fr (n : Rat) = 0 := by unfold fr; rw [Rat.floor_intCast]; grind
theorem fz_shift (z : Zn) (t : Nat -> Rat) (c : Rat) : Fz z t ↔ Fz z (fun i => t i - c) := by
 unfold Fz Dbm.Fits;constructor
 ·intro h i j hi hj
  have := h i j hi hj
  rwa [show t i - c - (t j - c) = t i - t j by grind]
 ·intro h i j hi hj
  have := h i j hi hj
  rwa [show t i - c - (t j - c) = t i - t j by grind] at this
theorem fl_add {n : Int} {g : Rat} (h0 : 0 <= g) (h1 : g < 1) : ((n : Rat) + g).floor = n /\ fr ((n : Rat) + g) = g := by
 have hf : ((n : Rat) + g).floor = n := by
  apply Int.le_antisymm
  ·have : ((n : Rat) + g).floor < n + 1 := Rat.floor_lt_iff.2 (by rw [Rat.intCast_add]; have h : ((1 : Int) : Rat) = 1 := rfl; rw [h]; grind)
   omega
  ·exact Rat.le_floor_iff.2 (by grind)
 exact ⟨hf, by unfold fr; rw [hf]; grind⟩
end Ky
namespace Rg
def around (pl : Int) : Sp := if pl % 2 = 0 then ⟨pl.tdiv 2, false, pl.tdiv 2, false, false⟩ else ⟨pl.tdiv 2, true, pl.tdiv 2 + 1, true, false⟩
def diff (n long : Int) : Sp :=
 if (n / 3 / sides long) % 2 = 1 /\ (n / 3 % sides long) % 2 = 1 then around (n / 3 % sides long - n / 3 / sides long + 1 - n % 3) else ⟨-16, false, 16, false, false⟩
def zone (n long : Int) : Zn × Int :=
 if (askPoint n long).2 = 0 then Zo.make (around (n / 3 / sides long)) (around (n / 3 % sides long)) (diff n long) else (Zo.nought, (askPoint n long).2)
end Rg
structure ZonesLaw (n : Int) (p : Pt) (long : Int) : Prop where
 ins : (Rg.askPoint n long).1.ins
 same : (Rg.zone n long).2 = (Rg.askPoint n long).2
 own : (Rg.askPoint n long).2 = 0 -> Rg.askNumber (Rg.askPoint n long).1 long = (n, 0)
 has : (Rg.askPoint n long).2 = 0 -> Zo.has (Rg.zone n long).1 (Rg.askPoint n long).1 = (true, 0)
 any : (Rg.askPoint n long).2 = 0 -> (Zo.has (Rg.zone n long).1 p).2 = 0 -> (Zo.has (Rg.zone n long).1 p).1 = (decide ((Rg.askNumber p long).2 = 0) && decide ((Rg.askNumber p long).1 = n))
namespace Rg
theorem cmp_three (a b : Rt) : (Fr.cmp a b).1 = -1 \/ (Fr.cmp a b).1 = 0 \/ (Fr.cmp a b).1 = 1 := by
 unfold Fr.cmp;split
 ·show cmpI _ _ = -1 \/ cmpI _ _ = 0 \/ cmpI _ _ = 1
  unfold cmpI;split
  ·exact .inl rfl
  ·split
   ·exact .inr (.inr rfl)
   ·exact .inr (.inl rfl)
 ·exact .inr (.inl rfl)
theorem order_three (p : Pt) : 0 <= order p /\ order p <= 2 := by
 have := cmp_three (part p.t) (part p.u);unfold order;split <;> omega
theorem number_back {p : Pt} {n long : Int} (h : number p long = n) (h0 : 0 <= n) (hl : 1 <= long /\ long <= 16) :
 (Fr.cmp p.t p.u).1 < 0 /\ place p.t = n / 3 / sides long /\ place p.u = n / 3 % sides long /\ order p = n % 3 := by
 have hs : 3 <= sides long /\ sides long <= 33 := by unfold sides; omega
 have ho := order_three p;unfold number at h;split at h
 ·omega
 ·rename_i hc
  have h1 : (Fr.cmp p.t p.u).1 < 0 := by omega
  have h2 : 0 <= place p.t := by omega
  have h3 : place p.u < sides long := by omega
  have h4 : 0 <= place p.u := by
   have hf := floor_le h1;unfold place at h2 ⊢;split at h2 <;> split <;> omega
  have e3 : n / 3 = place p.t * sides long + place p.u := by omega
  refine ⟨h1, ?_, ?_, by omega⟩
  ·rw [e3, Int.add_comm, Int.add_mul_ediv_right _ _ (by omega), Int.ediv_eq_zero_of_lt h4 h3]; omega
  ·rw [e3, Int.add_comm, Int.add_mul_emod_self_right, Int.emod_eq_of_lt h4 h3]
end Rg
namespace Rg
theorem of_one {f : Int} (h : -2305843009213693952 <= f /\ f <= 2305843009213693952) : Fr.of f 1 = (⟨f, 1⟩, 0) := by
 unfold Fr.of Fr.low;have hg : Int.gcd f 1 = 1 := by simp
 have hok : Fr.okB f 1 = true := by
  unfold Fr.okB;have : Fr.inB f 1 = true := Fr.in_iff.2 (by simp; omega);rw [this]; simp
 rw [if_neg (by omega), hg];simp only [Int.cast_ofNat_Int, Int.ediv_one];rw [if_pos hok]
theorem part_eq {a : Rt} (ha : a.ok = true) : part a = ⟨a.num % a.den, a.den⟩ := by
 have oa := Fr.ok_bd ha;have hf : (Fr.floor a).1 = a.num / a.den := by unfold Fr.floor; rw [if_pos ha]
 unfold part;rw [hf, of_one (by omega)];have hok : (⟨-(a.num / a.den), 1⟩ : Rt).ok = true := by
  show Fr.okB _ _ = true;unfold Fr.okB;have : Fr.inB (-(a.num / a.den)) 1 = true := Fr.in_iff.2 (by simp; omega);rw [this]; simp
 have hg0 : Nat.gcd a.num.natAbs a.den.natAbs = 1 := by
  have h := ha;simp only [Rt.ok, Fr.okB, Bool.and_eq_true, decide_eq_true_eq] at h;exact h.2
 have hg : Int.gcd (a.num % a.den) a.den = 1 := by
  have h1 : Int.gcd a.num a.den = 1 := hg0;have h2 : Int.gcd (a.num % a.den + a.num / a.den * a.den) a.den = Int.gcd (a.num % a.den) a.den := Int.gcd_add_mul_right_left ..;have h3 : a.num % a.den + a.num / a.den * a.den = a.num := by
   have := Int.mul_ediv_add_emod a.num a.den;rw [Int.mul_comm] at this; omega
  rw [h3] at h2;rw [<- h2]; exact h1
 have htn : Fr.tn a ⟨-(a.num / a.den), 1⟩ = a.num % a.den := by
  unfold Fr.tn;have := Int.mul_ediv_add_emod a.num a.den;simp only [Int.mul_one, Int.neg_mul];rw [Int.mul_comm (a.num / a.den) a.den]; omega
 have hdn : Fr.dn a ⟨-(a.num / a.den), 1⟩ 1 = a.den := by unfold Fr.dn; simp
 unfold Fr.add;rw [if_pos ⟨ha, hok⟩];unfold Fr.sum;rw [htn, hdn, hg];simp only [Int.cast_ofNat_Int, Int.ediv_one];rw [if_pos];refine ⟨?_, ?_⟩
 ·unfold Fr.okB
  have : Fr.inB (a.num % a.den) a.den = true := Fr.in_iff.2 (by rw [Int.ediv_eq_zero_of_lt oa.2.2.2.2.1 oa.2.2.2.2.2]; omega);rw [this];have hg' : Nat.gcd (a.num % a.den).natAbs a.den.natAbs = 1 := hg;simp only [hg']
  simp; omega
 ·unfold Fr.inI; simp; omega
theorem part_ok {a : Rt} (ha : a.ok = true) : (part a).ok = true := by
 have oa := Fr.ok_bd ha;rw [part_eq ha];have hg0 : Nat.gcd a.num.natAbs a.den.natAbs = 1 := by
  have h := ha;simp only [Rt.ok, Fr.okB, Bool.and_eq_true, decide_eq_true_eq] at h;exact h.2
 have hg : Int.gcd (a.num % a.den) a.den = 1 := by
  have h1 : Int.gcd a.num a.den = 1 := hg0;have h2 : Int.gcd (a.num % a.den + a.num / a.den * a.den) a.den = Int.gcd (a.num % a.den) a.den := Int.gcd_add_mul_right_left ..;have h3 : a.num % a.den + a.num / a.den * a.den = a.num := by
   have := Int.mul_ediv_add_emod a.num a.den;rw [Int.mul_comm] at this; omega
  rw [h3] at h2;rw [<- h2]; exact h1
 show Fr.okB _ _ = true;unfold Fr.okB;have : Fr.inB (a.num % a.den) a.den = true := Fr.in_iff.2 (by rw [Int.ediv_eq_zero_of_lt oa.2.2.2.2.1 oa.2.2.2.2.2]; omega);rw [this];have hg' : Nat.gcd (a.num % a.den).natAbs a.den.natAbs = 1 := hg;simp only [hg']
 simp; omega
def rX (t u : Rt) : Int := t.num % t.den * u.den
theorem place_eq {t u : Rt} (ht : t.ok = true) (hu : u.ok = true) : place t = 2 * (t.num / t.den) + (if rX t u = 0 then 0 else 1) := by
 have ot := Fr.ok_bd ht;have ou := Fr.ok_bd hu;have hf : (Fr.floor t).1 = t.num / t.den := by unfold Fr.floor; rw [if_pos ht]
 unfold place;rw [part_eq ht, hf];simp only;have : t.num % t.den = 0 ↔ rX t u = 0 := by
  unfold rX;rw [Int.mul_eq_zero];constructor
  ·exact .inl
  ·rintro (h | h)
   ·exact h
   ·omega
 by_cases h : t.num % t.den = 0
 ·rw [if_pos h, if_pos (this.1 h)]; omega
 ·rw [if_neg h, if_neg (fun hh => h (this.2 hh))]
theorem cmp_part {t u : Rt} (ht : t.ok = true) (hu : u.ok = true) : (Fr.cmp (part t) (part u)).1 = cmpI (rX t u) (rX u t) := by
 unfold Fr.cmp;rw [if_pos ⟨part_ok ht, part_ok hu⟩];unfold Fr.cmpR;rw [part_eq ht, part_eq hu]
 rfl
theorem rX_bd {t u : Rt} (ht : t.ok = true) (hu : u.ok = true) : 0 <= rX t u := by
 have ot := Fr.ok_bd ht;have ou := Fr.ok_bd hu;exact Int.mul_nonneg ot.2.2.2.2.1 (by omega)
theorem cmp_iff {t u : Rt} (ht : t.ok = true) (hu : u.ok = true) : (Fr.cmp t u).1 < 0 ↔ t.num / t.den < u.num / u.den \/ (t.num / t.den = u.num / u.den /\ rX t u < rX u t) := by
 have h := (Fr.sign_eq ht hu 0).1;have e : (Fr.cmp t u).1 < 0 ↔ t.num * u.den < u.num * t.den := by
  unfold Fr.cmp; rw [if_pos ⟨ht, hu⟩]; exact Fr.cmpI_lt
 rw [e];rw [Int.zero_mul] at h;have : t.num * u.den < u.num * t.den ↔ t.num * u.den - u.num * t.den < 0 := by omega
 rw [this, <- h];unfold Fr.sign Fr.rest;show (if cmpI _ 0 ≠ 0 then cmpI _ 0 else cmpI (rX t u) (rX u t)) < 0 ↔ _;generalize rX t u = x;generalize rX u t = y;generalize t.num / t.den = a;generalize u.num / u.den = b;unfold cmpI;split <;> split <;> omega
def cl3 (T U r : Int) : Zn := ⟨T + 1, 1 - T, U + 1, 1 - U, U - T + 2 - r, T - U + r⟩
def may3 (T U r : Int) : Bool := decide (0 <= T) && decide (T <= U) && decide (U <= 32) && decide (0 <= r) && decide (r <= 2) && (decide (T < U) || (decide (T % 2 = 1) && decide (r = 0))) && (decide (T % 2 = 1 /\ U % 2 = 1) || decide (r = 1))
end Rg
namespace Rg
def diff3 (T U r : Int) : Sp := if T % 2 = 1 /\ U % 2 = 1 then around (U - T + 1 - r) else ⟨-16, false, 16, false, false⟩
def zone3 (T U r : Int) : Zn × Int := Zo.make (around T) (around U) (diff3 T U r)
def pt3 (T U r : Int) : Pt := ⟨time T (parts r).1 (parts r).2.2, time U (parts r).2.1 (parts r).2.2⟩
def good3 (T U r : Int) : Bool := decide ((Fr.cmp (pt3 T U r).t (pt3 T U r).u).1 < 0) && decide (place (pt3 T U r).t = T) && decide (place (pt3 T U r).u = U) && decide (order (pt3 T U r) = r)
def zeq (x : Zn × Int) (z : Zn) : Bool := decide (Zo.matL x.1 = Zo.matL z) && decide (x.2 = 0)
def fine3 (T U r : Int) : Bool := !(good3 T U r) || (may3 T U r && zeq (zone3 T U r) (cl3 T U r) && decide (Zo.chk (cl3 T U r) = 0))
def fine (T : Int) : Bool := (List.range 33).all fun U : Nat => (List.range 3).all fun r : Nat => fine3 T U r
end Rg
end
section
namespace Rg
end Rg
namespace Rg
end Rg
namespace Rg
end Rg
namespace Rg
end Rg
namespace Rg
end Rg
namespace Rg
end Rg
namespace Rg
end Rg
namespace Rg
end Rg
namespace Rg
end Rg
namespace Rg
end Rg
namespace Rg
end Rg
namespace Rg
end Rg
end
section
open Go.RowKit Go.Proofs.YtanhnllkccldhaaGreat.Eng Enc
namespace Rg
end Rg
namespace Rg
def mg (T : Int) : Bool := (List.range 33).all fun U : Nat => (List.range 3).all fun r : Nat => !(may3 T U r) || good3 T U r
theorem mg_0 : ((List.range 17).all fun T : Nat => mg T) = true := by decide +kernel
theorem mg_1 : ((List.range 16).all fun T : Nat => mg ((T : Int) + 17)) = true := by decide +kernel
theorem may_good {T U r : Int} (hT : 0 <= T /\ T < 33) (h : may3 T U r = true) : good3 T U r = true := by
 have h0 := h;simp only [may3, Bool.and_eq_true, Bool.or_eq_true, decide_eq_true_eq] at h0;have hm : mg T = true := by
  by_cases h17 : T < 17
  ·have := List.all_eq_true.1 mg_0 T.toNat (List.mem_range.2 (by omega))
   rwa [Int.toNat_of_nonneg hT.1] at this
  ·have := List.all_eq_true.1 mg_1 (T - 17).toNat (List.mem_range.2 (by omega))
   rwa [show ((T - 17).toNat : Int) + 17 = T by omega] at this
 have h1 := List.all_eq_true.1 hm U.toNat (List.mem_range.2 (by omega));have h2 := List.all_eq_true.1 h1 r.toNat (List.mem_range.2 (by omega));rw [Int.toNat_of_nonneg (by omega), Int.toNat_of_nonneg (by omega), h] at h2
 simpa using h2
theorem rep_of {p : Pt} {long : Int} (hl : 1 <= long /\ long <= 16) (hp : 0 <= number p long) : may3 (place p.t) (place p.u) (order p) = true /\ (point (number p long) long).2 = true /\ 0 <= number p long /\ number p long < (many long).1 /\
 (pt (number p long) long).t.ok = true /\ (pt (number p long) long).u.ok = true /\ place (pt (number p long) long).t = place p.t /\ place (pt (number p long) long).u = place p.u /\ order (pt (number p long) long) = order p := by
 have hs : 3 <= sides long /\ sides long <= 33 := by unfold sides; omega
 have hnum := hp;obtain ⟨k1, k2, k3, k4⟩ := number_back (p := p) rfl hp hl;obtain ⟨ht, hu, _⟩ := cmp_lt k1;have hk1 := (cmp_iff ht hu).1 k1;have hcd : ¬ (0 <= (Fr.cmp p.t p.u).1 \/ place p.t < 0 \/ sides long <= place p.u) := fun h => by
  unfold number at hp; rw [if_pos h] at hp; omega
 have hmy : may3 (place p.t) (place p.u) (order p) = true := by
  have ho : 0 <= order p /\ order p <= 2 := order_three p;have x1 := rX_bd ht hu;have x2 := rX_bd hu ht;have e1 := place_eq ht hu;have e2 := place_eq hu ht;have hor : ((place p.t % 2 = 1 /\ place p.u % 2 = 1) /\ order p = 1 + cmpI (rX p.t p.u) (rX p.u p.t)) \/ (¬ (place p.t % 2 = 1 /\ place p.u % 2 = 1) /\ order p = 1) := by
   unfold order
   by_cases h : place p.t % 2 = 1 /\ place p.u % 2 = 1
   ·rw [if_pos h, cmp_part ht hu]; exact .inl ⟨h, rfl⟩
   ·rw [if_neg h]; exact .inr ⟨h, rfl⟩
  have hcc : (rX p.t p.u < rX p.u p.t /\ cmpI (rX p.t p.u) (rX p.u p.t) = -1) \/ (rX p.t p.u = rX p.u p.t /\ cmpI (rX p.t p.u) (rX p.u p.t) = 0) \/ (rX p.u p.t < rX p.t p.u /\ cmpI (rX p.t p.u) (rX p.u p.t) = 1) := by unfold cmpI; split <;> (try split) <;> omega
  simp only [may3, Bool.and_eq_true, Bool.or_eq_true, decide_eq_true_eq];generalize order p = o at *;generalize cmpI (rX p.t p.u) (rX p.u p.t) = c at *;generalize rX p.t p.u = x at *;generalize rX p.u p.t = y at *;generalize p.t.num / p.t.den = A at *;generalize p.u.num / p.u.den = B at *;generalize place p.t = T at *;generalize place p.u = U at *;split at e1 <;> split at e2 <;> omega
 have hT : 0 <= place p.t /\ place p.t < 33 := by
  simp only [may3, Bool.and_eq_true, Bool.or_eq_true, decide_eq_true_eq] at hmy;omega
 have hg := may_good hT hmy;have hpt : pt (number p long) long = pt3 (place p.t) (place p.u) (order p) := by
  unfold pt pt3;rw [<- k2, <- k3, <- k4]
 unfold good3 at hg;simp only [Bool.and_eq_true, decide_eq_true_eq] at hg;obtain ⟨⟨⟨g1, g2⟩, g3⟩, g4⟩ := hg;rw [<- hpt] at g1 g2 g3 g4;obtain ⟨o1, o2, _⟩ := cmp_lt g1;have hval : number p long = 3 * (place p.t * sides long + place p.u) + order p := by
  conv => lhs; unfold number
  rw [if_neg hcd]
 have hsame : number (pt (number p long) long) long = number p long := by
  have hun : ∀ q : Pt, (Fr.cmp q.t q.u).1 < 0 -> place q.t = place p.t -> place q.u = place p.u -> order q = order p -> number q long = 3 * (place p.t * sides long + place p.u) + order p := fun q q1 q2 q3 q4 => by
   unfold number;rw [q2, q3, q4, if_neg (by omega)]
  rw [hun _ g1 g2 g3 g4, hval]
 have hmn : number p long < (many long).1 := by
  have e : number p long = 3 * (place p.t * sides long + place p.u) + order p := by
   conv => lhs; unfold number
   rw [if_neg hcd]
  have hm : (many long).1 = 3 * sides long * sides long := by unfold many; rw [if_pos (fits_iff.2 hl)]
  have ho : 0 <= order p /\ order p <= 2 := order_three p;have h1 : place p.t < sides long := by
   simp only [may3, Bool.and_eq_true, Bool.or_eq_true, decide_eq_true_eq] at hmy;omega
  have h2 : place p.t * sides long <= (sides long - 1) * sides long := Int.mul_le_mul_of_nonneg_right (by omega) (by omega);rw [Int.sub_mul, Int.one_mul] at h2;rw [e, hm, Int.mul_assoc];omega
 exact ⟨hmy, by unfold point; simpa using hsame, hp, hmn, o1, o2, g2, g3, g4⟩
end Rg
theorem rlow03_any (n d : Int) (hd : 1 <= d) (hn : inK .i64 n) (w : World) :
 Calls Tryz.prog 147 #[.int .i64 n, .int .i64 d] w fun e w' => e = .returned (.int .i64 (n / d)) /\ Below w.heap.size w w' := by
 refine fun_eq 0 w Tryz.func147 (args := [.val (.int .i64 n), .val (.int .i64 d)]) rfl rfl ?_;obtain ⟨k1, k2⟩ := Fr.floor_eq (n := n) hd;have k3 : inK .i64 (n.tdiv d) /\ (n.tmod d < 0 -> inK .i64 (n.tdiv d - 1)) := by
  have hq := Fr.ediv_in hd hn;refine ⟨?_, fun h => by rw [(k1 h).1]; exact hq⟩
  by_cases h : n.tmod d < 0
  ·have e := (k1 h).1
   have h0 : n < 0 := by
    rcases Int.lt_or_le n 0 with h | h'
    ·exact h
    ·have := Int.tmod_nonneg d h'; omega
   have : n / d < 0 := Int.ediv_neg_of_neg_of_pos h0 (by omega);simp only [inK] at hq ⊢; omega
  ·rw [(k2 h).1]; exact hq
 refine Need.mk ⟨by omega, k3.1⟩ ?_;refine Need.mk (by omega) ?_;refine Branch.mk (fun hb => ?_) (fun hb => ?_)
 ·obtain ⟨e1, e2⟩ := k1 (by simpa using hb)
  refine Need.mk (k3.2 (by simpa using hb)) ?_;exact EndI.mk fun w1 h1 => by rw [e1]
 ·obtain ⟨e1, e2⟩ := k2 (by simpa using hb)
  exact EndI.mk fun w1 h1 => by rw [e1]
theorem rpart03_any (n d : Int) (hd : 1 <= d) (hd2 : inK .i64 d) (w : World) :
 Calls Tryz.prog 145 #[.int .i64 n, .int .i64 d] w fun e w' => e = .returned (.int .i64 (n % d)) /\ Below w.heap.size w w' := by
 refine fun_eq 0 w Tryz.func145 (args := [.val (.int .i64 n), .val (.int .i64 d)]) rfl rfl ?_;obtain ⟨k1, k2⟩ := Fr.floor_eq (n := n) hd;have k4 := Int.emod_nonneg n (by omega : d ≠ 0);have k5 := Int.emod_lt_of_pos n (by omega : 0 < d);refine Need.mk (by omega) ?_;refine Branch.mk (fun hb => ?_) (fun hb => ?_)
 ·obtain ⟨e1, e2⟩ := k1 (by simpa using hb)
  refine Need.mk ?_ ?_
  ·simp only [inK] at hd2 ⊢; omega
  exact EndI.mk fun w1 h1 => by rw [e2]
 ·obtain ⟨e1, e2⟩ := k2 (by simpa using hb)
  exact EndI.mk fun w1 h1 => by rw [e2]
theorem rcommon03_any (a b : Nat) (ha : a < 9223372036854775808) (hb : b < 9223372036854775808) (w : World) :
 Calls Tryz.prog 185 #[.int .i64 (a : Nat), .int .i64 (b : Nat)] w fun e w' => e = .returned (.int .i64 (Nat.gcd a b : Nat)) /\ Below w.heap.size w w' := by
 refine fun_eq 0 w Tryz.func185 (args := [.val (.int .i64 (a : Nat)), .val (.int .i64 (b : Nat))]) rfl rfl ?_;refine LoopI.invC (α := (Nat × Nat) × World) (fun y => [(0, .val (.int .i64 y.1.1)), (1, .val (.int .i64 y.1.2))]) (fun y => y.2) (fun y => y.1.1 < 9223372036854775808 /\ y.1.2 < 9223372036854775808 /\ Nat.gcd y.1.1 y.1.2 = Nat.gcd a b) (fun y => y.1.2) ?_ ?_
 ·intro w1 h1
  exact ⟨((a, b), w1), Cov.au rfl rfl rfl rfl rfl, rfl, ha, hb, rfl⟩
 rintro ⟨⟨x, y⟩, W⟩ ⟨hx, hy, hg⟩;refine Branch.mk (fun hc => ?_) (fun hc => ?_)
 ·have hy0 : 0 < y := by
   have : ¬ y = 0 := by simpa using hc
   omega
  have em : ((x : Int)).tmod y = ((x % y : Nat) : Int) := rfl;have hm : x % y < y := Nat.mod_lt _ hy0;refine DrawI.go (.tk 0 (.tk 1 (.tk 2 (.tk 3 (.tk 4 (.tk 5 .done)))))) (by kernel_rfl) fun w1 h1 => ?_;refine Need.mk ?_ ?_
  ·show (y : Int) ≠ 0
   omega
  refine EndI.mk fun w2 h2 => ⟨((y, x % y), w2), Cov.au rfl rfl rfl rfl rfl, rfl, ⟨hy, ?_, ?_⟩, hm⟩
  ·exact Nat.lt_trans hm hy
  ·refine Eq.trans ?_ hg
   show Nat.gcd y (x % y) = Nat.gcd x y;rw [Nat.gcd_comm x y, Nat.gcd_comm y (x % y)]; exact (Nat.gcd_rec y x).symm
 ·refine EndI.mk fun w1 h1 => ?_
  have hy0 : y = 0 := by simpa using hc
  subst hy0;rw [<- hg];simp
def Fr.alone (n d : Int) : Bool := decide (((Nat.gcd (n % d).toNat d.toNat : Nat) : Int) = 1)
theorem ralone_any (n d : Int) (hd : 1 <= d) (hd2 : inK .i64 d) (w : World) :
 Calls Tryz.prog 186 #[.agg #[.int .i64 n, .int .i64 d]] w fun e w' => e = .returned (.bool (Fr.alone n d)) /\ Below w.heap.size w w' := by
 refine fun_eq 0 w Tryz.func186 (args := [.agg [.val (.int .i64 n), .val (.int .i64 d)]]) rfl rfl ?_;have k4 := Int.emod_nonneg n (by omega : d ≠ 0);have k5 := Int.emod_lt_of_pos n (by omega : 0 < d);have hc : ∀ w, Calls Tryz.prog 185 #[.int .i64 (n % d), .int .i64 d] w fun e w' => e = .returned (.int .i64 (Nat.gcd (n % d).toNat d.toNat : Nat)) /\ Below w.heap.size w w' := fun w => by
  simp only [inK] at hd2;have h := rcommon03_any (n % d).toNat d.toNat (by omega) (by omega) w
  rwa [Int.toNat_of_nonneg k4, Int.toNat_of_nonneg (by omega)] at h
 refine NewI.mk fun b1 hb1 => ?_;refine DrawI.go (.tk 0 (.tk 1 (.tk 2 (.tk 3 (.tk 5 (.tk 6 (.ev 4 (.ev 7 (.tk 8 (.tk 9 .done)))))))))) (by kernel_rfl) fun w1 h1 => ?_;apply CallI.use1
 focus (exact fun w2 h2 => rpart03_any n d hd hd2 w2)
 intro w2 v2 h2 hB2;apply CallI.use1
 focus (exact fun w3 h3 => hc w3)
 intro w3 v3 h3 hB3;exact EndI.mk fun w9 h9 => rfl
theorem Fr.alone_gcd {n d : Int} (hd : 1 <= d) : Fr.alone n d = decide (Nat.gcd n.natAbs d.natAbs = 1) := by
 unfold Fr.alone;have e : Nat.gcd (n % d).toNat d.toNat = Nat.gcd n.natAbs d.natAbs := by
  have h3 : Int.gcd n d = Int.gcd (n % d) d := by
   conv => lhs; rw [<- Int.emod_add_mul_ediv n d, Int.mul_comm d, Int.gcd_add_mul_right_left]
  have h4 := Int.emod_nonneg n (by omega : d ≠ 0);have h5 : Nat.gcd n.natAbs d.natAbs = Nat.gcd (n % d).natAbs d.natAbs := h3;rw [h5, show (n % d).natAbs = (n % d).toNat by omega, show d.natAbs = d.toNat by omega]
 rw [e, decide_eq_decide];omega
theorem rmay03_any (x : Rt) (hx : x.ins) (w : World) :
 Calls Tryz.prog 144 #[.agg #[.int .i64 x.num, .int .i64 x.den]] w fun e w' => e = .returned (.bool x.ok) /\ Below w.heap.size w w' := by
 obtain ⟨n, d⟩ := x;obtain ⟨hn, hd⟩ := hx;simp only at hn hd;unfold Rt.ok Fr.okB Fr.inB;simp only;refine fun_eq 0 w Tryz.func144 (args := [.agg [.val (.int .i64 n), .val (.int .i64 d)]]) rfl rfl ?_;refine NewI.mk fun b1 hb1 => ?_;refine Branch.mk (fun z1 => ?_) (fun z1 => ?_)
 ·have h1 : d < 1 := of_decide_eq_true z1
  refine EndI.mk fun w9 h9 => ?_;rw [decide_eq_false (by omega : ¬ 1 <= d)]; rfl
 have h1 : 1 <= d := by have := of_decide_eq_false z1; omega
 refine Branch.mk (fun z2 => ?_) (fun z2 => ?_)
 ·have h2 : 1048576 < d := of_decide_eq_true z2
  refine EndI.mk fun w9 h9 => ?_;rw [decide_eq_false (by omega : ¬ d <= 1048576)]; simp
 have h2 : d <= 1048576 := by have := of_decide_eq_false z2; omega
 have k4 := Int.emod_nonneg n (by omega : d ≠ 0);have k5 := Int.emod_lt_of_pos n (by omega : 0 < d);rw [decide_eq_true h1, decide_eq_true h2];apply CallI.use1
 focus (exact fun w3 h3 => ralone_any n d h1 hd w3)
 intro w3 v3 h3 hB3;rw [Fr.alone_gcd h1];refine Branch.mk (fun z3 => ?_) (fun z3 => ?_)
 ·have h3 : decide (n.natAbs.gcd d.natAbs = 1) = false := by simpa using z3
  refine EndI.mk fun w9 h9 => ?_;rw [h3]; simp
 have h3 : decide (n.natAbs.gcd d.natAbs = 1) = true := by simpa using z3
 rw [h3];clear z1 z2 z3 h3;apply CallI.use1
 focus (exact fun w4 h4 => rlow03_any n d h1 hn w4)
 intro w4 v4 h4 hB4;refine Branch.mk (fun z4 => ?_) (fun z4 => ?_)
 ·have h4 : -2305843009213693952 <= n / d := of_decide_eq_true z4
  rw [decide_eq_true h4];refine Branch.mk (fun z5 => ?_) (fun z5 => ?_)
  ·have h5 : n / d < 2305843009213693952 := of_decide_eq_true z5
   refine EndI.mk fun w9 h9 => ?_;rw [decide_eq_true h5]; rfl
  have h5 : ¬ n / d < 2305843009213693952 := of_decide_eq_false z5;rw [decide_eq_false h5];refine Branch.mk (fun z6 => ?_) (fun z6 => ?_)
  ·rw [z6]
   apply CallI.use1
   focus (exact fun w5 h5 => rpart03_any n d h1 hd w5)
   intro w5 v5 h5 hB5;exact EndI.mk fun w9 h9 => by simp
  ·rw [z6]
   exact EndI.mk fun w9 h9 => rfl
 ·have h4 : ¬ -2305843009213693952 <= n / d := of_decide_eq_false z4
  refine EndI.mk fun w9 h9 => ?_;rw [decide_eq_false h4]; rfl
theorem cmpR_low {a b : Rt} (ha : a.ok = true) (hb : b.ok = true) : Fr.cmpR a b = if a.num / a.den = b.num / b.den then cmpI (a.num % a.den * b.den) (b.num % b.den * a.den) else cmpI (a.num / a.den) (b.num / b.den) := by
 have h1 := Fr.ok_bd ha;have h2 := Fr.ok_bd hb;have e1 := Int.emod_add_mul_ediv a.num a.den;have e2 := Int.emod_add_mul_ediv b.num b.den;unfold Fr.cmpR cmpI;generalize a.num / a.den = x at *;generalize b.num / b.den = y at *;generalize a.num % a.den = r at *;generalize b.num % b.den = s at *;rw [<- e1, <- e2];generalize a.den = p at *;generalize b.den = q at *;have hpq : 0 < p * q := Int.mul_pos (by omega) (by omega);have hr : r * q < p * q := Int.mul_lt_mul_of_pos_right (by omega) (by omega);have hr0 : 0 <= r * q := Int.mul_nonneg (by omega) (by omega);have hs : s * p < q * p := Int.mul_lt_mul_of_pos_right (by omega) (by omega);have hs0 : 0 <= s * p := Int.mul_nonneg (by omega) (by omega);have E1 : (r + p * x) * q = r * q + x * (p * q) := by grind
 have E2 : (s + q * y) * p = s * p + y * (p * q) := by grind
 rw [Int.mul_comm q p] at hs;rw [E1, E2];generalize r * q = R at *;generalize s * p = S at *;generalize p * q = D at *
 by_cases h : x = y
 ·subst h
  rw [if_pos rfl];generalize x * D = T;split <;> split <;> (try split) <;> (try split) <;> omega
 rw [if_neg h]
 by_cases h' : x < y
 ·have : (x + 1) * D <= y * D := Int.mul_le_mul_of_nonneg_right (by omega) (by omega)
  rw [Int.add_mul] at this;generalize x * D = X at *;generalize y * D = Y at *;rw [if_pos (by omega), if_pos h']
 ·have : (y + 1) * D <= x * D := Int.mul_le_mul_of_nonneg_right (by omega) (by omega)
  rw [Int.add_mul] at this;generalize x * D = X at *;generalize y * D = Y at *;rw [if_neg (by omega), if_pos (by omega), if_neg h', if_pos (by omega)]
theorem rcompared_any (a b : Rt) (ha : a.ok = true) (hb : b.ok = true) (hai : a.ins) (hbi : b.ins) (w : World) :
 Calls Tryz.prog 129 #[.agg #[.int .i64 a.num, .int .i64 a.den], .agg #[.int .i64 b.num, .int .i64 b.den]] w fun e w' => e = .returned (.int .i64 (Fr.cmpR a b)) /\ Below w.heap.size w w' := by
 rw [cmpR_low ha hb];have h1 := Fr.ok_bd ha;have h2 := Fr.ok_bd hb;have m1 := Fr.mul_bd (u := a.num % a.den) (v := b.den) (m := 1048576) (n := 1048576) (by omega) (by omega) (by omega) (by omega);have m2 := Fr.mul_bd (u := b.num % b.den) (v := a.den) (m := 1048576) (n := 1048576) (by omega) (by omega) (by omega) (by omega);refine fun_eq 0 w Tryz.func129 (args := [.agg [.val (.int .i64 a.num), .val (.int .i64 a.den)], .agg [.val (.int .i64 b.num), .val (.int .i64 b.den)]]) rfl rfl ?_;refine NewI.mk fun b1 hb1 => ?_;refine NewI.mk fun b2 hb2 => ?_;apply CallI.use1
 focus (exact fun w4 h4 => rlow03_any a.num a.den h1.1 hai.1 w4)
 intro w4 v4 h4 hB4;apply CallI.use1
 focus (exact fun w5 h5 => rlow03_any b.num b.den h2.1 hbi.1 w5)
 intro w5 v5 h5 hB5;have fin : ∀ x y : Int, (if x < y then (-1 : Int) else if y < x then 1 else 0) = cmpI x y := fun x y => rfl;refine Branch.mk (fun z1 => ?_) (fun z1 => ?_)
 ·have he : a.num / a.den = b.num / b.den := of_decide_eq_true z1
  rw [if_pos he];refine DrawI.go (.tk 0 (.tk 1 (.tk 2 (.tk 3 (.tk 5 (.tk 6 (.ev 4 (.tk 7 (.tk 8 .done))))))))) (by kernel_rfl) fun w6 h6 => ?_;apply CallI.use1
  focus (exact fun w6 h6 => rpart03_any a.num a.den h1.1 hai.2 w6)
  intro w7 v7 h7 hB7;refine Need.ok ?_;refine DrawI.go (.tk 0 (.tk 1 (.tk 2 (.tk 3 (.tk 5 (.tk 6 (.ev 4 (.tk 7 (.tk 8 .done))))))))) (by kernel_rfl) fun w8 h8 => ?_;apply CallI.use1
  focus (exact fun w6 h6 => rpart03_any b.num b.den h2.1 hbi.2 w6)
  intro w9 v9 h9 hB9;refine Need.ok ?_;unfold cmpI;refine Branch.mk (fun z2 => ?_) (fun z2 => ?_)
  ·rw [if_pos (of_decide_eq_true z2)]
   exact EndI.mk fun w9 h9 => rfl
  rw [if_neg (of_decide_eq_false z2)];refine Branch.mk (fun z3 => ?_) (fun z3 => ?_)
  ·rw [if_pos (of_decide_eq_true z3)]
   exact EndI.mk fun w9 h9 => rfl
  rw [if_neg (of_decide_eq_false z3)];exact EndI.mk fun w9 h9 => rfl
 ·rw [if_neg (of_decide_eq_false z1)]
  unfold cmpI;refine Branch.mk (fun z2 => ?_) (fun z2 => ?_)
  ·rw [if_pos (of_decide_eq_true z2)]
   exact EndI.mk fun w9 h9 => rfl
  rw [if_neg (of_decide_eq_false z2)];refine Branch.mk (fun z3 => ?_) (fun z3 => ?_)
  ·rw [if_pos (of_decide_eq_true z3)]
   exact EndI.mk fun w9 h9 => rfl
  rw [if_neg (of_decide_eq_false z3)];exact EndI.mk fun w9 h9 => rfl
namespace Rg
theorem den_one {a : Rt} (ha : a.ok = true) : a.num % a.den = 0 ↔ a.den = 1 := by
 have oa := Fr.ok_bd ha;constructor
 ·intro h
  have hg0 : Nat.gcd a.num.natAbs a.den.natAbs = 1 := by
   have h := ha;simp only [Rt.ok, Fr.okB, Bool.and_eq_true, decide_eq_true_eq] at h;exact h.2
  have hd : a.den ∣ a.num := Int.dvd_of_emod_eq_zero h;have hg : Int.gcd a.num a.den = a.den.natAbs := Int.gcd_eq_right_iff_dvd (by omega) |>.2 hd |> fun h => by
   have : (Int.gcd a.num a.den : Int) = a.den := h;omega
  have : Int.gcd a.num a.den = 1 := hg0;omega
 ·intro h; rw [h]; omega
theorem floor_ok {a : Rt} (ha : a.ok = true) : (Fr.floor a).1 = a.num / a.den := by unfold Fr.floor; rw [if_pos ha]
theorem place_den {a : Rt} (ha : a.ok = true) : place a = if a.den = 1 then 2 * a.num else 2 * (Fr.floor a).1 + 1 := by
 unfold place;rw [part_eq ha, floor_ok ha];simp only
 by_cases h : a.den = 1
 ·rw [if_pos ((den_one ha).2 h), if_pos h, h]; simp
 ·rw [if_neg (fun h' => h ((den_one ha).1 h')), if_neg h]
theorem part_num {a : Rt} (ha : a.ok = true) : a.num - (Fr.floor a).1 * a.den = (part a).num /\ (part a).den = a.den := by
 rw [part_eq ha, floor_ok ha];have := Int.mul_ediv_add_emod a.num a.den;rw [Int.mul_comm] at this;exact ⟨by simp only; omega, rfl⟩
theorem odd_den {a : Rt} (ha : a.ok = true) : place a % 2 = 1 ↔ a.den ≠ 1 := by
 rw [place_den ha];split <;> omega
theorem place_neg {a : Rt} (ha : a.ok = true) : place a < 0 ↔ a.num < 0 := by
 have oa := Fr.ok_bd ha;rw [place_den ha, floor_ok ha];split
 ·omega
 ·have h1 : a.num / a.den < 0 ↔ a.num < 0 := by
   constructor
   ·intro h
    rcases Int.lt_or_le a.num 0 with h' | h'
    ·exact h'
    ·have := Int.ediv_nonneg h' (by omega : 0 <= a.den); omega
   ·intro h; exact Int.ediv_neg_of_neg_of_pos h (by omega)
  omega
theorem ofI_ok {k : Int} (h : -1000 <= k /\ k <= 1000) : (⟨k, 1⟩ : Rt).ok = true := by
 show Fr.okB _ _ = true;unfold Fr.okB;have : Fr.inB k 1 = true := Fr.in_iff.2 (by simp; omega);rw [this]; simp
theorem place_top {a : Rt} (ha : a.ok = true) {long : Int} (hl : 1 <= long /\ long <= 16) : sides long <= place a ↔ 0 < Fr.cmpR a ⟨long, 1⟩ := by
 have oa := Fr.ok_bd ha;have hr : (0 < Fr.cmpR a ⟨long, 1⟩) ↔ long * a.den < a.num := by
  unfold Fr.cmpR cmpI;simp only [Int.mul_one];split
  ·omega
  ·split <;> omega
 rw [hr, place_den ha, floor_ok ha];have e := Int.mul_ediv_add_emod a.num a.den;rw [Int.mul_comm] at e;unfold sides;split
 ·rename_i h; rw [h]; omega
 ·rename_i h
  have hn : a.num % a.den ≠ 0 := fun h' => h ((den_one ha).1 h');generalize a.num / a.den = q at *;generalize a.num % a.den = r at *;generalize a.den = d at *;generalize a.num = x at *;constructor
  ·intro h1
   have : long * d <= q * d := Int.mul_le_mul_of_nonneg_right (by omega) (by omega);omega
  ·intro h1
   rcases Int.lt_or_le q long with h2 | h2
   ·have : (q + 1) * d <= long * d := Int.mul_le_mul_of_nonneg_right (by omega) (by omega)
    rw [Int.add_mul] at this;omega
   ·omega
theorem cmp_ok {a b : Rt} (ha : a.ok = true) (hb : b.ok = true) : (Fr.cmp a b).1 = Fr.cmpR a b := by unfold Fr.cmp; rw [if_pos ⟨ha, hb⟩]
theorem number_doc {p : Pt} (ht : p.t.ok = true) (hu : p.u.ok = true) {long : Int} (hl : 1 <= long /\ long <= 16) :
 number p long = if 0 <= Fr.cmpR p.t p.u \/ p.t.num < 0 \/ 0 < Fr.cmpR p.u ⟨long, 1⟩ then -1 else 3 * (place p.t * (2 * long + 1) + place p.u) + (if p.t.den ≠ 1 /\ p.u.den ≠ 1 then 1 + Fr.cmpR (part p.t) (part p.u) else 1) := by
 unfold number order;rw [cmp_ok ht hu, cmp_ok (part_ok ht) (part_ok hu)];simp only [place_neg ht, place_top hu hl, odd_den ht, odd_den hu]
 rfl
def Three (pa d : Int) : Prop := (pa = 1 /\ d = 2) \/ (pa = 1 /\ d = 3) \/ (pa = 2 /\ d = 3)
theorem of_low {n d : Int} (hd : 1 <= d /\ d <= 10) (hn : -20000 <= n /\ n <= 20000) (hg : Int.gcd n d = 1) : Fr.of n d = (⟨n, d⟩, 0) /\ (⟨n, d⟩ : Rt).ok = true := by
 have hq : -20000 <= n / d /\ n / d <= 20000 := by
  constructor
  ·exact Int.le_ediv_of_mul_le (by omega) (by
    have : -20000 * d <= -20000 * 1 := Int.mul_le_mul_of_nonpos_left (by omega) (by omega)
    omega)
  ·rcases Int.lt_or_le n 0 with h | h
   ·have := Int.ediv_neg_of_neg_of_pos h (by omega : 0 < d); omega
   ·have := Int.ediv_le_self d h; omega
 have hok : Fr.okB n d = true := by
  unfold Fr.okB;have : Fr.inB n d = true := Fr.in_iff.2 (by omega);have hg' : Nat.gcd n.natAbs d.natAbs = 1 := hg;rw [this, decide_eq_true hg']
  simp; omega
 refine ⟨?_, hok⟩;unfold Fr.of Fr.low;rw [if_neg (by omega), hg];simp only [Int.cast_ofNat_Int, Int.ediv_one];rw [if_pos hok]
theorem time_doc {pl pa d : Int} (h : 0 <= pl /\ pl <= 1000) (h3 : Three pa d) : time pl pa d = (if pl % 2 = 0 then ⟨pl / 2, 1⟩ else ⟨pl / 2 * d + pa, d⟩) /\ (time pl pa d).ok = true := by
 unfold time;split
 ·have := of_low (n := pl / 2) (d := 1) (by omega) (by omega) (by simp)
  rw [this.1]; exact ⟨rfl, this.2⟩
 ·have hg : Int.gcd (pl / 2 * d + pa) d = 1 := by
   rw [Int.add_comm, Int.gcd_add_mul_right_left];rcases h3 with ⟨rfl, rfl⟩ | ⟨rfl, rfl⟩ | ⟨rfl, rfl⟩ <;> decide
  have := of_low (n := pl / 2 * d + pa) (d := d) (by rcases h3 with ⟨rfl, rfl⟩ | ⟨rfl, rfl⟩ | ⟨rfl, rfl⟩ <;> omega) (by rcases h3 with ⟨rfl, rfl⟩ | ⟨rfl, rfl⟩ | ⟨rfl, rfl⟩ <;> omega) hg;rw [this.1]; exact ⟨rfl, this.2⟩
theorem parts_three {r : Int} (h : 0 <= r /\ r < 3) : Three (parts r).1 (parts r).2.2 /\ Three (parts r).2.1 (parts r).2.2 := by
 rcases (by omega : r = 0 \/ r = 1 \/ r = 2) with rfl | rfl | rfl <;> simp [parts, Three]
end Rg
namespace Ky
open Dbm Mi
def pl (x : Rat) : Int := if fr x = 0 then 2 * x.floor else 2 * x.floor + 1
def od (x y : Rat) : Int := if fr x = 0 \/ fr y = 0 then 1 else if fr x < fr y then 0 else if fr x = fr y then 1 else 2
theorem pl_two {x y : Rat} (h : pl x = pl y) : x.floor = y.floor /\ (fr x = 0 ↔ fr y = 0) := by
 unfold pl at h
 by_cases h1 : fr x = 0 <;> by_cases h2 : fr y = 0 <;> simp only [h1, h2, if_true, if_false] at h
 ·exact ⟨by omega, by simp [h1, h2]⟩
 ·omega
 ·omega
 ·exact ⟨by omega, by simp [h1, h2]⟩
theorem od_le {x y x' y' : Rat} (hx : fr x = 0 ↔ fr x' = 0) (hy : fr y = 0 ↔ fr y' = 0) (h : od x y = od x' y') : (fr x <= fr y ↔ fr x' <= fr y') /\ (fr y <= fr x ↔ fr y' <= fr x') := by
 have a1 := fr_nonneg x;have a2 := fr_nonneg y;have a3 := fr_nonneg x';have a4 := fr_nonneg y';unfold od at h
 by_cases h1 : fr x = 0
 ·have h1' := hx.1 h1
  by_cases h2 : fr y = 0
  ·have h2' := hy.1 h2
   rw [h1, h2, h1', h2'];exact ⟨Iff.rfl, Iff.rfl⟩
  ·have h2' : ¬ fr y' = 0 := fun e => h2 (hy.2 e)
   rw [h1, h1'];exact ⟨⟨fun _ => a4, fun _ => a2⟩, ⟨fun k => absurd (by grind) h2, fun k => absurd (by grind) h2'⟩⟩
 ·have h1' : ¬ fr x' = 0 := fun e => h1 (hx.2 e)
  by_cases h2 : fr y = 0
  ·have h2' := hy.1 h2
   rw [h2, h2'];exact ⟨⟨fun k => absurd (by grind) h1, fun k => absurd (by grind) h1'⟩, ⟨fun _ => a3, fun _ => a1⟩⟩
  ·have h2' : ¬ fr y' = 0 := fun e => h2 (hy.2 e)
   simp only [h1, h2, h1', h2', or_self, if_false] at h
   by_cases k1 : fr x < fr y <;> by_cases k2 : fr x' < fr y' <;> simp only [k1, k2, if_true, if_false] at h
   ·grind
   ·split at h <;> omega
   ·split at h <;> omega
   ·by_cases k3 : fr x = fr y <;> by_cases k4 : fr x' = fr y' <;> simp only [k3, k4, if_true, if_false] at h
    ·grind
    ·omega
    ·omega
    ·grind
theorem alike_of {t t' : Nat -> Rat} (h0 : t 0 = 0) (h0' : t' 0 = 0) (h1 : pl (t 1) = pl (t' 1)) (h2 : pl (t 2) = pl (t' 2)) (h3 : od (t 1) (t 2) = od (t' 1) (t' 2)) : Alike t t' := by
 obtain ⟨a1, a2⟩ := pl_two h1;obtain ⟨b1, b2⟩ := pl_two h2;obtain ⟨c1, c2⟩ := od_le a2 b2 h3;have z : fr (0 : Rat) = 0 := fr_int 0;have n1 := fr_nonneg (t 1);have n2 := fr_nonneg (t 2);have n3 := fr_nonneg (t' 1);have n4 := fr_nonneg (t' 2);have e1 : ∀ x : Rat, 0 <= x -> (x <= 0 ↔ x = 0) := fun x hx => ⟨fun h => by grind, fun h => by grind⟩;refine ⟨fun i hi => ?_, fun i j hi hj => ?_⟩
 ·rw [h0, h0']
  rcases (by omega : i = 0 \/ i = 1 \/ i = 2) with rfl | rfl | rfl
  ·rw [h0, h0']
  ·rw [a1]
  ·rw [b1]
 ·rcases (by omega : i = 0 \/ i = 1 \/ i = 2) with rfl | rfl | rfl <;> rcases (by omega : j = 0 \/ j = 1 \/ j = 2) with rfl | rfl | rfl
  ·exact ⟨fun _ => Rat.le_refl, fun _ => Rat.le_refl⟩
  ·rw [h0, h0', z]; exact ⟨fun _ => n3, fun _ => n1⟩
  ·rw [h0, h0', z]; exact ⟨fun _ => n4, fun _ => n2⟩
  ·rw [h0, h0', z, e1 _ n1, e1 _ n3]; exact a2
  ·exact ⟨fun _ => Rat.le_refl, fun _ => Rat.le_refl⟩
  ·exact c1
  ·rw [h0, h0', z, e1 _ n2, e1 _ n4]; exact b2
  ·exact c2
  ·exact ⟨fun _ => Rat.le_refl, fun _ => Rat.le_refl⟩
theorem v_parts {a : Rt} (ha : a.ok = true) : (Fr.v a).floor = a.num / a.den /\ fr (Fr.v a) = ((a.num % a.den : Int) : Rat) / ((a.den : Int) : Rat) /\ (0 : Rat) < ((a.den : Int) : Rat) := by
 have oa := Fr.ok_bd ha;have hd : (0 : Rat) < ((a.den : Int) : Rat) := by exact_mod_cast (by omega : 0 < a.den)
 have hd0 : ((a.den : Int) : Rat) ≠ 0 := by grind
 have e1 : (a.num : Rat) = ((a.num / a.den : Int) : Rat) * (a.den : Rat) + ((a.num % a.den : Int) : Rat) := by
  rw [<- Rat.intCast_mul, <- Rat.intCast_add]
  congr 1
  have := Int.mul_ediv_add_emod a.num a.den;rw [Int.mul_comm] at this;omega
 have e2 : Fr.v a = ((a.num / a.den : Int) : Rat) + ((a.num % a.den : Int) : Rat) / ((a.den : Int) : Rat) := by
  unfold Fr.v;rw [e1]
  grind
 have g0 : (0 : Rat) <= ((a.num % a.den : Int) : Rat) / ((a.den : Int) : Rat) := by
  rw [<- Rat.not_lt, Rat.div_lt_iff hd, Rat.zero_mul];have : (0 : Rat) <= ((a.num % a.den : Int) : Rat) := by exact_mod_cast oa.2.2.2.2.1
  grind
 have g1 : ((a.num % a.den : Int) : Rat) / ((a.den : Int) : Rat) < 1 := by
  rw [Rat.div_lt_iff hd, Rat.one_mul]
  exact_mod_cast oa.2.2.2.2.2
 obtain ⟨f1, f2⟩ := fl_add (n := a.num / a.den) g0 g1;rw [e2];exact ⟨f1, f2, hd⟩
theorem fr_v_zero {a : Rt} (ha : a.ok = true) : fr (Fr.v a) = 0 ↔ a.num % a.den = 0 := by
 obtain ⟨_, h2, h3⟩ := v_parts ha;rw [h2];constructor
 ·intro h
  have h4 : ((a.num % a.den : Int) : Rat) = 0 := by
   have h5 : ((a.den : Int) : Rat) ≠ 0 := by grind
   grind
  exact_mod_cast h4
 ·intro h
  rw [h, Rat.intCast_zero, Rat.div_def, Rat.zero_mul]
theorem pl_place {a : Rt} (ha : a.ok = true) : pl (Fr.v a) = Rg.place a := by
 have oa := Fr.ok_bd ha;unfold pl;rw [Rg.place_den ha, (v_parts ha).1, Rg.floor_ok ha]
 by_cases h : a.den = 1
 ·rw [if_pos ((fr_v_zero ha).2 ((Rg.den_one ha).2 h)), if_pos h, h, Int.ediv_one]
 ·rw [if_neg (fun e => h ((Rg.den_one ha).1 ((fr_v_zero ha).1 e))), if_neg h]
theorem fr_v_lt {a b : Rt} (ha : a.ok = true) (hb : b.ok = true) : (fr (Fr.v a) < fr (Fr.v b) ↔ Rg.rX a b < Rg.rX b a) /\ (fr (Fr.v a) = fr (Fr.v b) ↔ Rg.rX a b = Rg.rX b a) := by
 obtain ⟨_, a2, a3⟩ := v_parts ha;obtain ⟨_, b2, b3⟩ := v_parts hb;rw [a2, b2];unfold Rg.rX;generalize a.num % a.den = r;generalize b.num % b.den = s;have key : ∀ x y : Int, ((r : Rat) / ((a.den : Int) : Rat) < (s : Rat) / ((b.den : Int) : Rat) ↔ r * b.den < s * a.den) := fun _ _ => by
  rw [Rat.div_lt_iff a3];have e : (s : Rat) / ((b.den : Int) : Rat) * ((a.den : Int) : Rat) = ((s * a.den : Int) : Rat) / ((b.den : Int) : Rat) := by rw [Rat.intCast_mul]; grind
  rw [e, Rat.lt_div_iff b3, <- Rat.intCast_mul, Rat.intCast_lt_intCast]
 have key2 : ((s : Rat) / ((b.den : Int) : Rat) < (r : Rat) / ((a.den : Int) : Rat) ↔ s * a.den < r * b.den) := by
  rw [Rat.div_lt_iff b3];have e : (r : Rat) / ((a.den : Int) : Rat) * ((b.den : Int) : Rat) = ((r * b.den : Int) : Rat) / ((a.den : Int) : Rat) := by rw [Rat.intCast_mul]; grind
  rw [e, Rat.lt_div_iff a3, <- Rat.intCast_mul, Rat.intCast_lt_intCast]
 have key1 := key 0 0;refine ⟨key1, ⟨fun h => ?_, fun h => ?_⟩⟩
 ·have h1 : ¬ r * b.den < s * a.den := fun k => by have := key1.2 k; grind
  have h2 : ¬ s * a.den < r * b.den := fun k => by have := key2.2 k; grind
  omega
 ·have h1 : ¬ (r : Rat) / ((a.den : Int) : Rat) < (s : Rat) / ((b.den : Int) : Rat) := fun k => by have := key1.1 k; omega
  have h2 : ¬ (s : Rat) / ((b.den : Int) : Rat) < (r : Rat) / ((a.den : Int) : Rat) := fun k => by have := key2.1 k; omega
  grind
theorem od_order {p : Pt} (ht : p.t.ok = true) (hu : p.u.ok = true) : od (Fr.v p.t) (Fr.v p.u) = Rg.order p := by
 obtain ⟨l1, l2⟩ := fr_v_lt ht hu;have o1 := Rg.odd_den ht;have o2 := Rg.odd_den hu;unfold od Rg.order;have z1 := (fr_v_zero ht).trans (Rg.den_one ht);have z2 := (fr_v_zero hu).trans (Rg.den_one hu)
 by_cases h1 : p.t.den = 1
 ·rw [if_pos (.inl (z1.2 h1)), if_neg (fun h => o1.1 h.1 h1)]
 by_cases h2 : p.u.den = 1
 ·rw [if_pos (.inr (z2.2 h2)), if_neg (fun h => o2.1 h.2 h2)]
 rw [if_neg (fun h => h.elim (fun e => h1 (z1.1 e)) (fun e => h2 (z2.1 e))), if_pos (show Rg.place p.t % 2 = 1 /\ Rg.place p.u % 2 = 1 from ⟨o1.2 h1, o2.2 h2⟩), Rg.cmp_part ht hu];unfold cmpI
 by_cases k1 : Rg.rX p.t p.u < Rg.rX p.u p.t
 ·rw [if_pos (l1.2 k1), if_pos k1]; rfl
 ·rw [if_neg (fun h => k1 (l1.1 h)), if_neg k1]
  by_cases k2 : Rg.rX p.t p.u = Rg.rX p.u p.t
  ·rw [if_pos (l2.2 k2), if_neg (by omega)]; rfl
  ·rw [if_neg (fun h => k2 (l2.1 h)), if_pos (by omega)]; rfl
theorem tvs_zero (l : List Rt) : Dbm.tvs l 0 = 0 := by
 show Fr.v ⟨0, 1⟩ = 0;decide +kernel
theorem key_pt {t : Nat -> Rat} {long : Int} (hl : 1 <= long /\ long <= 16) (h0 : t 0 = 0) (hT : 0 <= t 1) (hlt : t 1 < t 2) (hU : t 2 <= (long : Rat)) :
 ∃ n : Int, 0 <= n /\ n < (Rg.many long).1 /\ (Rg.point n long).2 = true /\ (Rg.pt n long).t.ok = true /\ (Rg.pt n long).u.ok = true /\ Alike t (Dbm.tvs [(Rg.pt n long).t, (Rg.pt n long).u]) := by
 have hs : Rg.sides long = 2 * long + 1 := rfl;have e1 := eq_fr (t 1);have e2 := eq_fr (t 2);have n1 := fr_nonneg (t 1);have n2 := fr_nonneg (t 2);have u1 := fr_lt (t 1);have u2 := fr_lt (t 2);have f1 : 0 <= (t 1).floor := Rat.le_floor_iff.2 (by rw [Rat.intCast_zero]; exact hT);have f2 : (t 2).floor <= long := by
  have := Rat.floor_le (t 2);have h : ((t 2).floor : Rat) <= (long : Rat) := by grind
  exact_mod_cast h
 have f3 : (t 1).floor <= (t 2).floor := by
  have h1 := Rat.floor_le (t 1);exact Rat.le_floor_iff.2 (by grind)
 have f4 : (t 2).floor = long -> fr (t 2) = 0 := fun h => by
  rw [h] at e2; grind
 have f5 : (t 1).floor = (t 2).floor -> fr (t 1) < fr (t 2) := fun h => by
  rw [h] at e1; grind
 have c1 : (fr (t 1) = 0 /\ pl (t 1) = 2 * (t 1).floor) \/ (fr (t 1) ≠ 0 /\ pl (t 1) = 2 * (t 1).floor + 1) := by
  unfold pl
  by_cases z : fr (t 1) = 0
  ·exact .inl ⟨z, if_pos z⟩
  ·exact .inr ⟨z, if_neg z⟩
 have c2 : (fr (t 2) = 0 /\ pl (t 2) = 2 * (t 2).floor) \/ (fr (t 2) ≠ 0 /\ pl (t 2) = 2 * (t 2).floor + 1) := by
  unfold pl
  by_cases z : fr (t 2) = 0
  ·exact .inl ⟨z, if_pos z⟩
  ·exact .inr ⟨z, if_neg z⟩
 have c3 : ((fr (t 1) = 0 \/ fr (t 2) = 0) /\ od (t 1) (t 2) = 1) \/ ((fr (t 1) ≠ 0 /\ fr (t 2) ≠ 0) /\ ((fr (t 1) < fr (t 2) /\ od (t 1) (t 2) = 0) \/ (¬ fr (t 1) < fr (t 2) /\ (od (t 1) (t 2) = 1 \/ od (t 1) (t 2) = 2)))) := by
  unfold od
  by_cases z : fr (t 1) = 0 \/ fr (t 2) = 0
  ·exact .inl ⟨z, if_pos z⟩
  ·rw [if_neg z]
   refine .inr ⟨⟨fun e => z (.inl e), fun e => z (.inr e)⟩, ?_⟩
   by_cases k : fr (t 1) < fr (t 2)
   ·exact .inl ⟨k, if_pos k⟩
   ·rw [if_neg k]
    refine .inr ⟨k, ?_⟩;split
    ·exact .inl rfl
    ·exact .inr rfl
 have f6 : (t 1).floor = (t 2).floor -> fr (t 2) ≠ 0 := fun h e => by have := f5 h; grind
 have hmay : Rg.may3 (pl (t 1)) (pl (t 2)) (od (t 1) (t 2)) = true := by
  simp only [Rg.may3, Bool.and_eq_true, Bool.or_eq_true, decide_eq_true_eq];rcases c1 with ⟨a1, a2⟩ | ⟨a1, a2⟩ <;> rcases c2 with ⟨b1, b2⟩ | ⟨b1, b2⟩
  ·have h6 : (t 1).floor ≠ (t 2).floor := fun h => f6 h b1
   rcases c3 with ⟨_, d⟩ | ⟨⟨d, _⟩, _⟩
   ·omega
   ·exact absurd a1 d
  ·have h4 : (t 2).floor ≠ long := fun h => b1 (f4 h)
   rcases c3 with ⟨_, d⟩ | ⟨⟨d, _⟩, _⟩
   ·omega
   ·exact absurd a1 d
  ·have h6 : (t 1).floor ≠ (t 2).floor := fun h => f6 h b1
   rcases c3 with ⟨_, d⟩ | ⟨⟨_, d⟩, _⟩
   ·omega
   ·exact absurd b1 d
  ·have h4 : (t 2).floor ≠ long := fun h => b1 (f4 h)
   rcases c3 with ⟨d, _⟩ | ⟨_, ⟨_, d⟩ | ⟨d1, d2⟩⟩
   ·rcases d with d | d
    ·exact absurd d a1
    ·exact absurd d b1
   ·omega
   ·have h6 : (t 1).floor ≠ (t 2).floor := fun h => d1 (f5 h)
    omega
 have hTb : 0 <= pl (t 1) /\ pl (t 1) < 33 := by
  simp only [Rg.may3, Bool.and_eq_true, Bool.or_eq_true, decide_eq_true_eq] at hmay;omega
 have hUb : pl (t 2) < Rg.sides long := by
  rw [hs];unfold pl;split
  ·omega
  ·rename_i z2
   have : (t 2).floor ≠ long := fun h => z2 (f4 h);omega
 have hg := Rg.may_good hTb hmay;unfold Rg.good3 at hg;simp only [Bool.and_eq_true, decide_eq_true_eq] at hg;obtain ⟨⟨⟨g1, g2⟩, g3⟩, g4⟩ := hg;have hnum : Rg.number (Rg.pt3 (pl (t 1)) (pl (t 2)) (od (t 1) (t 2))) long = 3 * (pl (t 1) * Rg.sides long + pl (t 2)) + od (t 1) (t 2) := by
  unfold Rg.number;rw [if_neg (by rw [g2, g3]; omega), g2, g3, g4]
 have hpos : 0 <= 3 * (pl (t 1) * Rg.sides long + pl (t 2)) + od (t 1) (t 2) := by
  have h1 : 0 <= pl (t 1) * Rg.sides long := Int.mul_nonneg hTb.1 (by rw [hs]; omega);have h2 : pl (t 1) <= pl (t 2) := by
   simp only [Rg.may3, Bool.and_eq_true, Bool.or_eq_true, decide_eq_true_eq] at hmay;omega
  omega
 obtain ⟨r1, r2, r3, r4, r5, r6, r7, r8, r9⟩ := Rg.rep_of hl (p := Rg.pt3 (pl (t 1)) (pl (t 2)) (od (t 1) (t 2))) (by rw [hnum]; exact hpos);refine ⟨_, r3, r4, r2, r5, r6, alike_of h0 (tvs_zero _) ?_ ?_ ?_⟩
 ·exact ((pl_place r5).trans (r7.trans g2)).symm
 ·exact ((pl_place r6).trans (r8.trans g3)).symm
 ·exact ((od_order r5 r6).trans (r9.trans g4)).symm
end Ky
end
end Go.Proofs.YtanhnllkccldhaaGreat
namespace Go.Proofs.YtanhnllkccldhaaGreat
set_option linter.unusedVariables false
set_option linter.unusedSimpArgs false
set_option maxRecDepth 100000
section
open Go.RowKit Go.Proofs.YtanhnllkccldhaaGreat.Eng Enc
abbrev TKi : TypeId := 3
def MSet (W : World) (b n : Nat) (f : Int -> Bool) : Prop :=
 ∃ D : DataW Unit, W.ownsMap Tryz.prog TKi (plainElem Tryz.prog TKi) b n D /\ Maps.Tidy D /\ ∀ x : Int, D.atKey (.int .i64 x) (.lit (.int .i64 0)) = .lit (.int .i64 (if f x = true then 1 else 0)) /\ Maps.has D (.int .i64 x) = f x
theorem MSet.lt {W : World} {b n : Nat} {f : Int -> Bool} (h : MSet W b n f) : b < W.heap.size := by
 obtain ⟨D, h1, _⟩ := h; exact h1.lt
theorem MSet.kept {W X : World} {b n : Nat} {f : Int -> Bool} (h : MSet W b n f) (e : X.heap[b]? = W.heap[b]?) : MSet X b n f := by
 obtain ⟨D, ⟨es, clock, hb, F, hs, hD⟩, h2, h3⟩ := h;exact ⟨D, ⟨es, clock, e.trans hb, F, hs, hD⟩, h2, h3⟩
theorem MSet.below {W X : World} {b n : Nat} {f : Int -> Bool} (h : MSet W b n f) (hB : Below W.heap.size W X) : MSet X b n f := h.kept (hB.block b h.lt)
theorem MSet.at {w0 : Base} {hp : List LB} {r L : List Nat} {w w1 : World} {b n : Nat} {f : Int -> Bool} (h : MSet w b n f) (h1 : At w0 hp r L w w1) (hL : b ∉ L) : MSet w1 b n f := h.kept (h1.step b h.lt hL)
theorem MSet.made (w : World) : MSet (w.alloc (.map #[] 0)) w.heap.size 0 (fun _ => false) :=
 ⟨.map [], World.ownsMap_made w _ _ _, Maps.tidy_empty, fun x => ⟨by simp [DataW.atKey], by simp [Maps.has_eq]⟩⟩
namespace Rg
def isR (long : Int) (x : Int) : Bool := decide (0 <= x) && decide (x < (many long).1) && (point x long).2
def inL (l : List Zn) (long : Int) (x : Int) : Bool := isR long x && l.any fun z => (Zo.has z (pt x long)).1
def up (long : Int) (p : Int -> Bool) : List Int := ((List.range (many long).1.toNat).filter fun n : Nat => p (n : Int)).map Int.ofNat
theorem mem_up {long : Int} {p : Int -> Bool} (h : ∀ x, p x = true -> 0 <= x /\ x < (many long).1) (x : Int) : x ∈ up long p ↔ p x = true := by
 unfold up;rw [List.mem_map];constructor
 ·rintro ⟨k, hk, rfl⟩
  exact (List.mem_filter.1 hk).2
 ·intro hx
  obtain ⟨h0, h1⟩ := h x hx;refine ⟨x.toNat, List.mem_filter.2 ⟨List.mem_range.2 (by omega), ?_⟩, Int.toNat_of_nonneg h0⟩;show p ((x.toNat : Nat) : Int) = true;rw [Int.toNat_of_nonneg h0]; exact hx
theorem up_rising (long : Int) (p : Int -> Bool) : (up long p).Pairwise fun x y => x < y := by
 unfold up;rw [List.pairwise_map];exact (List.pairwise_lt_range.filter _).imp fun h => Int.ofNat_lt.2 h
theorem inL_in {l : List Zn} {long x : Int} (h : inL l long x = true) : 0 <= x /\ x < (many long).1 := by
 unfold inL isR at h;simp only [Bool.and_eq_true, decide_eq_true_eq] at h;exact h.1.1
end Rg
theorem rfloor03_any (a : Rt) (ha : a.ins) (w : World) :
 Calls Tryz.prog 201 #[.agg #[.int .i64 a.num, .int .i64 a.den]] w fun e w' => e = .returned (.tuple #[.int .i64 (Fr.floor a).1, .bool (a.ok && decide (a.den = 1)), .int .i64 (Fr.floor a).2.2]) /\ Below w.heap.size w w' := by
 refine fun_eq 0 w Tryz.func201 (args := [.agg [.val (.int .i64 a.num), .val (.int .i64 a.den)]]) rfl rfl ?_;refine NewI.mk fun b1 hb1 => ?_
 (first
   | (refine CallI.to1 (rmay03_any a ha) fun w2 => ?_)
   | (refine Branch.yes rfl ?_)
   | (refine Branch.no rfl ?_)
   | (refine Branch.mk (fun hb => ?_) (fun hb => ?_))
   | (refine NewI.mk fun nb hnb => ?_)
   | (refine Need.mk (by show _ /\ _; omega) ?_)
   | (refine Need.mk (by omega) ?_)
   | (refine Need.mk ?_ ?_)
   | (refine EndI.mk fun w1 h1 => ?_))
 unfold Fr.floor;refine Branch.mk (fun hc => ?_) (fun hc => ?_)
 ·have hno : a.ok = false := by simpa using hc
  rw [hno];exact EndI.mk fun w3 h3 => rfl
 ·have hok : a.ok = true := by simpa using hc
  have oa := Fr.ok_bd hok;rw [if_pos hok, hok];refine DrawI.go (.tk 0 (.tk 1 (.tk 2 (.tk 3 (.tk 5 (.tk 6 (.tk 7 (.ev 4 (.tk 8 (.tk 9 (.tk 10 .done))))))))))) (by kernel_rfl) fun w1 h1 => ?_
  (first
    | (refine CallI.to1 (rlow03_any a.num a.den oa.1 ha.1) fun w2 => ?_)
    | (refine Branch.yes rfl ?_)
    | (refine Branch.no rfl ?_)
    | (refine Branch.mk (fun hb => ?_) (fun hb => ?_))
    | (refine NewI.mk fun nb hnb => ?_)
    | (refine Need.mk (by show _ /\ _; omega) ?_)
    | (refine Need.mk (by omega) ?_)
    | (refine Need.mk ?_ ?_)
    | (refine EndI.mk fun w1 h1 => ?_))
  exact EndI.mk fun w3 h3 => rfl
theorem rcount14_any (long : Int) (h : 1 <= long /\ long <= 16) (w : World) : Calls Tryz.prog 48 #[.int .i64 long] w fun e w' => e = .returned (.int .i64 (3 * (2 * long + 1) * (2 * long + 1))) /\ Below w.heap.size w w' := by
 refine fun_eq 0 w Tryz.func48 (args := [.val (.int .i64 long)]) rfl rfl ?_;have hm := Fr.mul_bd (u := 3 * (2 * long + 1)) (v := 2 * long + 1) (m := 99) (n := 33) (by omega) (by omega) (by omega) (by omega);refine Need.ok ?_;refine Need.ok ?_;refine Need.ok ?_;refine Need.ok ?_;refine Need.ok ?_;refine Need.ok ?_;exact EndI.mk fun w3 h3 => rfl
theorem Rg.many_doc {long : Int} (hl : 1 <= long /\ long <= 16) : Rg.many long = (3 * (2 * long + 1) * (2 * long + 1), 0) := by
 unfold Rg.many; rw [if_pos (Rg.fits_iff.2 hl)]; rfl
theorem rwhole14_any (a : Rt) (ha : a.ins) (w : World) :
 Calls Tryz.prog 176 #[.agg #[.int .i64 a.num, .int .i64 a.den]] w fun e w' => e = .returned (.int .i64 (Fr.floor a).1) /\ Below w.heap.size w w' := by
 refine fun_eq 0 w Tryz.func176 (args := [.agg [.val (.int .i64 a.num), .val (.int .i64 a.den)]]) rfl rfl ?_;refine NewI.mk fun b1 hb1 => ?_
 (first
   | (refine CallI.to1 (rfloor03_any a ha) fun w2 => ?_)
   | (refine Branch.yes rfl ?_)
   | (refine Branch.no rfl ?_)
   | (refine Branch.mk (fun hb => ?_) (fun hb => ?_))
   | (refine NewI.mk fun nb hnb => ?_)
   | (refine Need.mk (by show _ /\ _; omega) ?_)
   | (refine Need.mk (by omega) ?_)
   | (refine Need.mk ?_ ?_)
   | (refine EndI.mk fun w1 h1 => ?_))
 exact EndI.mk fun w3 h3 => rfl
theorem rpart14_any (a : Rt) (ha : a.ins) (hok : a.ok = true) (hn : 0 <= a.num) (w : World) :
 Calls Tryz.prog 130 #[.agg #[.int .i64 a.num, .int .i64 a.den]] w fun e w' => e = .returned (.agg #[.int .i64 (Rg.part a).num, .int .i64 (Rg.part a).den]) /\ Below w.heap.size w w' := by
 refine fun_eq 0 w Tryz.func130 (args := [.agg [.val (.int .i64 a.num), .val (.int .i64 a.den)]]) rfl rfl ?_;have hp := Rg.part_num hok;have oa := Fr.ok_bd hok;have hm : 0 <= (Fr.floor a).1 * a.den /\ (Fr.floor a).1 * a.den <= a.num /\ a.num < (Fr.floor a).1 * a.den + a.den := by
  rw [Rg.floor_ok hok];have := Int.mul_ediv_add_emod a.num a.den;rw [Int.mul_comm] at this;have h0 := Int.mul_nonneg (Int.ediv_nonneg hn (by omega : 0 <= a.den)) (by omega : 0 <= a.den);omega
 have h2 := ha.1;simp only [inK] at h2;refine NewI.mk fun b1 hb1 => ?_;refine NewI.mk fun b2 hb2 => ?_;refine DrawI.wr (.tk 0 (.tk 1 (.tk 2 (.tk 4 (.tk 5 (.tk 8 (.tk 9 (.ev 3 (.tk 6 (.tk 7 (.tk 10 (.ev 11 .done)))))))))))) [1] [] (by kernel_rfl) rfl (by simp) fun w1 h1 => ?_
 (first
   | (refine CallI.to1 (rwhole14_any a ha) fun w2 => ?_)
   | (refine Branch.yes rfl ?_)
   | (refine Branch.no rfl ?_)
   | (refine Branch.mk (fun hb => ?_) (fun hb => ?_))
   | (refine NewI.mk fun nb hnb => ?_)
   | (refine Need.mk (by show _ /\ _; omega) ?_)
   | (refine Need.mk (by omega) ?_)
   | (refine Need.mk ?_ ?_)
   | (refine EndI.mk fun w1 h1 => ?_))
 refine Need.ok ?_;refine Need.ok ?_;exact EndI.mk fun w3 h3 => by rw [hp.1, hp.2]
theorem rplace14_any (a : Rt) (ha : a.ins) (hok : a.ok = true) (hpl : 0 <= Rg.place a /\ Rg.place a <= 1000) (w : World) :
 Calls Tryz.prog 131 #[.agg #[.int .i64 a.num, .int .i64 a.den]] w fun e w' => e = .returned (.int .i64 (Rg.place a)) /\ Below w.heap.size w w' := by
 refine fun_eq 0 w Tryz.func131 (args := [.agg [.val (.int .i64 a.num), .val (.int .i64 a.den)]]) rfl rfl ?_;refine NewI.mk fun b1 hb1 => ?_;rw [Rg.place_den hok] at hpl ⊢;refine Branch.mk (fun hc => ?_) (fun hc => ?_)
 ·have h1 : a.den = 1 := by simpa using hc
  rw [if_pos h1] at hpl ⊢;refine Need.ok ?_;exact EndI.mk fun w3 h3 => rfl
 ·have h1 : ¬ a.den = 1 := by simpa using hc
  rw [if_neg h1] at hpl ⊢
  (first
    | (refine CallI.to1 (rwhole14_any a ha) fun w2 => ?_)
    | (refine Branch.yes rfl ?_)
    | (refine Branch.no rfl ?_)
    | (refine Branch.mk (fun hb => ?_) (fun hb => ?_))
    | (refine NewI.mk fun nb hnb => ?_)
    | (refine Need.mk (by show _ /\ _; omega) ?_)
    | (refine Need.mk (by omega) ?_)
    | (refine Need.mk ?_ ?_)
    | (refine EndI.mk fun w1 h1 => ?_))
  refine Need.ok ?_;refine Need.ok ?_;exact EndI.mk fun w3 h3 => rfl
theorem rnumber14_any (p : Pt) (long : Int) (hp : p.ins) (ht : p.t.ok = true) (hu : p.u.ok = true) (hl : 1 <= long /\ long <= 16) (w : World) :
 Calls Tryz.prog 85 #[.agg #[.int .i64 p.t.num, .int .i64 p.t.den, .int .i64 p.u.num, .int .i64 p.u.den], .int .i64 long] w fun e w' => e = .returned (.int .i64 (Rg.number p long)) /\ Below w.heap.size w w' := by
 refine fun_eq 0 w Tryz.func85 (args := [.agg [.val (.int .i64 p.t.num), .val (.int .i64 p.t.den), .val (.int .i64 p.u.num), .val (.int .i64 p.u.den)], .val (.int .i64 long)]) rfl rfl ?_;refine NewI.mk fun b1 hb1 => ?_;have hlo : (⟨long, 1⟩ : Rt).ok = true := Rg.ofI_ok (by omega);have hli : (⟨long, 1⟩ : Rt).ins := ⟨by simp only [inK]; omega, by simp only [inK]; omega⟩;rw [Rg.number_doc ht hu hl]
 (first
   | (refine CallI.to1 (rcompared_any p.t p.u ht hu hp.1 hp.2) fun w2 => ?_)
   | (refine Branch.yes rfl ?_)
   | (refine Branch.no rfl ?_)
   | (refine Branch.mk (fun hb => ?_) (fun hb => ?_))
   | (refine NewI.mk fun nb hnb => ?_)
   | (refine Need.mk (by show _ /\ _; omega) ?_)
   | (refine Need.mk (by omega) ?_)
   | (refine Need.mk ?_ ?_)
   | (refine EndI.mk fun w1 h1 => ?_))
 refine Branch.mk (fun hc => ?_) (fun hc => ?_)
 ·rw [if_pos (.inl (by simpa using hc))]
  exact EndI.mk fun w3 h3 => rfl
 have c1 : ¬ 0 <= Fr.cmpR p.t p.u := by simpa using hc
 refine Branch.mk (fun hc2 => ?_) (fun hc2 => ?_)
 ·rw [if_pos (.inr (.inl (by simpa using hc2)))]
  exact EndI.mk fun w3 h3 => rfl
 have c2 : ¬ p.t.num < 0 := by simpa using hc2
 (first
   | (refine CallI.to1 (rcompared_any p.u ⟨long, 1⟩ hu hlo hp.2 hli) fun w2 => ?_)
   | (refine Branch.yes rfl ?_)
   | (refine Branch.no rfl ?_)
   | (refine Branch.mk (fun hb => ?_) (fun hb => ?_))
   | (refine NewI.mk fun nb hnb => ?_)
   | (refine Need.mk (by show _ /\ _; omega) ?_)
   | (refine Need.mk (by omega) ?_)
   | (refine Need.mk ?_ ?_)
   | (refine EndI.mk fun w1 h1 => ?_))
 refine Branch.mk (fun hc3 => ?_) (fun hc3 => ?_)
 ·rw [if_pos (.inr (.inr (by simpa using hc3)))]
  exact EndI.mk fun w3 h3 => rfl
 have c3 : ¬ 0 < Fr.cmpR p.u ⟨long, 1⟩ := by simpa using hc3
 rw [if_neg (by omega)];have hcmp : (Fr.cmp p.t p.u).1 < 0 := by rw [Rg.cmp_ok ht hu]; omega
 have hpt : 0 <= Rg.place p.t := by have := Rg.place_neg ht; omega
 have hpu : Rg.place p.u < Rg.sides long := by have := Rg.place_top hu hl; omega
 have hpb := Rg.place_bd hcmp;have hs : 3 <= Rg.sides long /\ Rg.sides long <= 33 := by unfold Rg.sides; omega
 have hnu : 0 <= p.u.num := by
  have h1 := Fr.ok_bd ht;have h2 := Fr.ok_bd hu;have h3 := (Rg.cmp_lt hcmp).2.2;rcases Int.lt_or_le p.u.num 0 with h | h
  ·have h4 : 0 <= p.t.num * p.u.den := Int.mul_nonneg (by omega) (by omega)
   have h5 : p.u.num * p.t.den <= 0 := Int.mul_nonpos_of_nonpos_of_nonneg (by omega) (by omega);omega
  ·exact h
 have hpu0 : 0 <= Rg.place p.u := by have := Rg.place_neg hu; omega
 have hm := Fr.mul_bd (u := Rg.place p.t) (v := 2 * long + 1) (m := 34) (n := 33) (by omega) (by omega) (by omega) (by omega);have hcc : -1 <= Fr.cmpR (Rg.part p.t) (Rg.part p.u) /\ Fr.cmpR (Rg.part p.t) (Rg.part p.u) <= 1 := by
  unfold Fr.cmpR cmpI;split
  ·omega
  ·split <;> omega
 have fin : ∀ (o : Int), 0 <= o /\ o <= 2 -> ∀ w : World, True := fun _ _ _ => trivial;refine Branch.mk (fun hc4 => ?_) (fun hc4 => ?_)
 ·have d1 : p.t.den ≠ 1 := by simpa using hc4
  refine Branch.mk (fun hc5 => ?_) (fun hc5 => ?_)
  ·have d2 : p.u.den ≠ 1 := by simpa using hc5
   rw [if_pos ⟨d1, d2⟩];refine DrawI.go (.tk 0 (.tk 1 (.tk 3 (.tk 4 (.ev 2 (.ev 5 (.ev 6 (.tk 7 (.tk 8 .done))))))))) (by kernel_rfl) fun w1 h1 => ?_
   (first
     | (refine CallI.to1 (rpart14_any p.t hp.1 ht (by omega)) fun w2 => ?_)
     | (refine Branch.yes rfl ?_)
     | (refine Branch.no rfl ?_)
     | (refine Branch.mk (fun hb => ?_) (fun hb => ?_))
     | (refine NewI.mk fun nb hnb => ?_)
     | (refine Need.mk (by show _ /\ _; omega) ?_)
     | (refine Need.mk (by omega) ?_)
     | (refine Need.mk ?_ ?_)
     | (refine EndI.mk fun w1 h1 => ?_))
   (first
     | (refine CallI.to1 (rpart14_any p.u hp.2 hu hnu) fun w2 => ?_)
     | (refine Branch.yes rfl ?_)
     | (refine Branch.no rfl ?_)
     | (refine Branch.mk (fun hb => ?_) (fun hb => ?_))
     | (refine NewI.mk fun nb hnb => ?_)
     | (refine Need.mk (by show _ /\ _; omega) ?_)
     | (refine Need.mk (by omega) ?_)
     | (refine Need.mk ?_ ?_)
     | (refine EndI.mk fun w1 h1 => ?_))
   (first
     | (refine CallI.to1 (rcompared_any (Rg.part p.t) (Rg.part p.u) (Rg.part_ok ht) (Rg.part_ok hu) (Rg.part_ins _) (Rg.part_ins _)) fun w2 => ?_)
     | (refine Branch.yes rfl ?_)
     | (refine Branch.no rfl ?_)
     | (refine Branch.mk (fun hb => ?_) (fun hb => ?_))
     | (refine NewI.mk fun nb hnb => ?_)
     | (refine Need.mk (by show _ /\ _; omega) ?_)
     | (refine Need.mk (by omega) ?_)
     | (refine Need.mk ?_ ?_)
     | (refine EndI.mk fun w1 h1 => ?_))
   refine Need.ok ?_;refine DrawI.go (.tk 0 (.tk 1 (.tk 3 (.tk 4 (.tk 5 (.tk 7 (.tk 8 (.tk 12 (.ev 2 (.tk 6 (.ev 9 (.tk 10 (.tk 11 (.tk 13 (.tk 14 .done))))))))))))))) (by kernel_rfl) fun w1 h1 => ?_;refine Need.ok ?_;refine Need.ok ?_
   (first
     | (refine CallI.to1 (rplace14_any p.t hp.1 ht (by omega)) fun w2 => ?_)
     | (refine Branch.yes rfl ?_)
     | (refine Branch.no rfl ?_)
     | (refine Branch.mk (fun hb => ?_) (fun hb => ?_))
     | (refine NewI.mk fun nb hnb => ?_)
     | (refine Need.mk (by show _ /\ _; omega) ?_)
     | (refine Need.mk (by omega) ?_)
     | (refine Need.mk ?_ ?_)
     | (refine EndI.mk fun w1 h1 => ?_))
   refine Need.ok ?_
   (first
     | (refine CallI.to1 (rplace14_any p.u hp.2 hu (by omega)) fun w2 => ?_)
     | (refine Branch.yes rfl ?_)
     | (refine Branch.no rfl ?_)
     | (refine Branch.mk (fun hb => ?_) (fun hb => ?_))
     | (refine NewI.mk fun nb hnb => ?_)
     | (refine Need.mk (by show _ /\ _; omega) ?_)
     | (refine Need.mk (by omega) ?_)
     | (refine Need.mk ?_ ?_)
     | (refine EndI.mk fun w1 h1 => ?_))
   refine Need.ok ?_;refine Need.ok ?_;refine Need.ok ?_;exact EndI.mk fun w3 h3 => rfl
  ·have d2 : ¬ p.u.den ≠ 1 := by simpa using hc5
   rw [if_neg (fun h => d2 h.2)];refine DrawI.go (.tk 0 (.tk 1 (.tk 3 (.tk 4 (.tk 5 (.tk 7 (.tk 8 (.tk 12 (.ev 2 (.tk 6 (.ev 9 (.tk 10 (.tk 11 (.tk 13 (.tk 14 .done))))))))))))))) (by kernel_rfl) fun w1 h1 => ?_;refine Need.ok ?_;refine Need.ok ?_
   (first
     | (refine CallI.to1 (rplace14_any p.t hp.1 ht (by omega)) fun w2 => ?_)
     | (refine Branch.yes rfl ?_)
     | (refine Branch.no rfl ?_)
     | (refine Branch.mk (fun hb => ?_) (fun hb => ?_))
     | (refine NewI.mk fun nb hnb => ?_)
     | (refine Need.mk (by show _ /\ _; omega) ?_)
     | (refine Need.mk (by omega) ?_)
     | (refine Need.mk ?_ ?_)
     | (refine EndI.mk fun w1 h1 => ?_))
   refine Need.ok ?_
   (first
     | (refine CallI.to1 (rplace14_any p.u hp.2 hu (by omega)) fun w2 => ?_)
     | (refine Branch.yes rfl ?_)
     | (refine Branch.no rfl ?_)
     | (refine Branch.mk (fun hb => ?_) (fun hb => ?_))
     | (refine NewI.mk fun nb hnb => ?_)
     | (refine Need.mk (by show _ /\ _; omega) ?_)
     | (refine Need.mk (by omega) ?_)
     | (refine Need.mk ?_ ?_)
     | (refine EndI.mk fun w1 h1 => ?_))
   refine Need.ok ?_;refine Need.ok ?_;refine Need.ok ?_;exact EndI.mk fun w3 h3 => rfl
 ·have d1 : ¬ p.t.den ≠ 1 := by simpa using hc4
  rw [if_neg (fun h => d1 h.1)];refine DrawI.go (.tk 0 (.tk 1 (.tk 3 (.tk 4 (.tk 5 (.tk 7 (.tk 8 (.tk 12 (.ev 2 (.tk 6 (.ev 9 (.tk 10 (.tk 11 (.tk 13 (.tk 14 .done))))))))))))))) (by kernel_rfl) fun w1 h1 => ?_;refine Need.ok ?_;refine Need.ok ?_
  (first
    | (refine CallI.to1 (rplace14_any p.t hp.1 ht (by omega)) fun w2 => ?_)
    | (refine Branch.yes rfl ?_)
    | (refine Branch.no rfl ?_)
    | (refine Branch.mk (fun hb => ?_) (fun hb => ?_))
    | (refine NewI.mk fun nb hnb => ?_)
    | (refine Need.mk (by show _ /\ _; omega) ?_)
    | (refine Need.mk (by omega) ?_)
    | (refine Need.mk ?_ ?_)
    | (refine EndI.mk fun w1 h1 => ?_))
  refine Need.ok ?_
  (first
    | (refine CallI.to1 (rplace14_any p.u hp.2 hu (by omega)) fun w2 => ?_)
    | (refine Branch.yes rfl ?_)
    | (refine Branch.no rfl ?_)
    | (refine Branch.mk (fun hb => ?_) (fun hb => ?_))
    | (refine NewI.mk fun nb hnb => ?_)
    | (refine Need.mk (by show _ /\ _; omega) ?_)
    | (refine Need.mk (by omega) ?_)
    | (refine Need.mk ?_ ?_)
    | (refine EndI.mk fun w1 h1 => ?_))
  refine Need.ok ?_;refine Need.ok ?_;refine Need.ok ?_;exact EndI.mk fun w3 h3 => rfl
namespace Rg
def ab (s : Sp) : Int := if s.op = true then 9223372036854775807 else Bd.mk s.hi s.hs
def be (s : Sp) : Int := Bd.mk (0 - s.lo) s.ls
end Rg
end
section
namespace Rg
end Rg
namespace Rg
end Rg
namespace Rg
end Rg
namespace Rg
end Rg
namespace Rg
end Rg
end
section
open Go.RowKit Go.Proofs.YtanhnllkccldhaaGreat.Eng Enc
theorem rat14_any (pl pa d : Int) (h : 0 <= pl /\ pl <= 1000) (h3 : Rg.Three pa d) (w : World) :
 Calls Tryz.prog 84 #[.int .i64 pl, .int .i64 pa, .int .i64 d] w fun e w' => e = .returned (.agg #[.int .i64 (Rg.time pl pa d).num, .int .i64 (Rg.time pl pa d).den]) /\ Below w.heap.size w w' := by
 refine fun_eq 0 w Tryz.func84 (args := [.val (.int .i64 pl), .val (.int .i64 pa), .val (.int .i64 d)]) rfl rfl ?_;rw [(Rg.time_doc h h3).1];have hd : 2 <= d /\ d <= 3 /\ 0 <= pa /\ pa <= 3 := by rcases h3 with h | h | h <;> omega
 have hm := Fr.mul_bd (u := pl / 2) (v := d) (m := 500) (n := 3) (by omega) (by omega) (by omega) (by omega);have e2 : pl.tdiv 2 = pl / 2 := Int.tdiv_eq_ediv_of_nonneg h.1;have e3 : pl.tmod 2 = pl % 2 := Int.tmod_eq_emod_of_nonneg h.1;refine NewI.mk fun b1 hb1 => ?_;refine Need.mk (by decide) ?_;refine Branch.mk (fun hc => ?_) (fun hc => ?_)
 ·have he : pl % 2 = 0 := by rw [<- e3]; simpa using hc
  rw [if_pos he];refine Need.mk ⟨by decide, by rw [e2]; simp only [inK]; omega⟩ ?_;exact EndI.mk fun w3 h3 => by rw [e2]
 ·have he : ¬ pl % 2 = 0 := by rw [<- e3]; simpa using hc
  rw [if_neg he];refine Need.mk ⟨by decide, by rw [e2]; simp only [inK]; omega⟩ ?_;refine Need.mk (by rw [e2]; simp only [inK]; omega) ?_;refine Need.mk (by rw [e2]; simp only [inK]; omega) ?_;exact EndI.mk fun w3 h3 => by rw [e2]
theorem rof14_any (n long : Int) (hl : 1 <= long /\ long <= 16) (hn : 0 <= n /\ n < 3 * (2 * long + 1) * (2 * long + 1)) (w : World) :
 Calls Tryz.prog 49 #[.int .i64 n, .int .i64 long] w fun e w' => e = .returned (.tuple #[.agg #[.int .i64 (Rg.pt n long).t.num, .int .i64 (Rg.pt n long).t.den, .int .i64 (Rg.pt n long).u.num, .int .i64 (Rg.pt n long).u.den], .bool (Rg.point n long).2]) /\ Below w.heap.size w w' := by
 refine fun_eq 0 w Tryz.func49 (args := [.val (.int .i64 n), .val (.int .i64 long)]) rfl rfl ?_;have hm := Fr.mul_bd (u := 3 * (2 * long + 1)) (v := 2 * long + 1) (m := 99) (n := 33) (by omega) (by omega) (by omega) (by omega);have e1 : n.tdiv 3 = n / 3 := Int.tdiv_eq_ediv_of_nonneg hn.1;have e2 : (n.tdiv 3).tdiv (2 * long + 1) = n / 3 / Rg.sides long := by rw [e1]; exact Int.tdiv_eq_ediv_of_nonneg (by omega)
 have e3 : (n.tdiv 3).tmod (2 * long + 1) = n / 3 % Rg.sides long := by rw [e1]; exact Int.tmod_eq_emod_of_nonneg (by omega)
 have e4 : n.tmod 3 = n % 3 := Int.tmod_eq_emod_of_nonneg hn.1;have hs : Rg.sides long = 2 * long + 1 := rfl;have ht : 0 <= n / 3 / Rg.sides long /\ n / 3 / Rg.sides long <= 1000 := by
  have h1 : 0 <= n / 3 / Rg.sides long := Int.ediv_nonneg (by omega) (by omega);have h2 : n / 3 / Rg.sides long < Rg.sides long := by
   refine Int.ediv_lt_of_lt_mul (by omega) ?_;have : n < 3 * (Rg.sides long * Rg.sides long) := by rw [<- Int.mul_assoc]; exact hn.2
   omega
  omega
 have hu : 0 <= n / 3 % Rg.sides long /\ n / 3 % Rg.sides long <= 1000 := by
  have h1 := Int.emod_nonneg (n / 3) (b := Rg.sides long) (by omega);have h2 := Int.emod_lt_of_pos (n / 3) (b := Rg.sides long) (by omega);omega
 have h3 := Rg.parts_three (r := n % 3) (by omega);have hTok := (Rg.time_doc ht h3.1).2;have hUok := (Rg.time_doc hu h3.2).2;have hb := Rg.parts_three (r := n % 3) (by omega);have hins : (Rg.pt n long).ins := by
  have hp : (0 <= (Rg.parts (n % 3)).1 /\ (Rg.parts (n % 3)).1 <= 10) /\ (0 <= (Rg.parts (n % 3)).2.1 /\ (Rg.parts (n % 3)).2.1 <= 10) /\ (1 <= (Rg.parts (n % 3)).2.2 /\ (Rg.parts (n % 3)).2.2 <= 10) := by
   rcases (by omega : n % 3 = 0 \/ n % 3 = 1 \/ n % 3 = 2) with h | h | h <;> rw [h] <;> simp [Rg.parts]
  exact ⟨Rg.time_ins ht hp.1 hp.2.2, Rg.time_ins hu hp.2.1 hp.2.2⟩
 have n1 : (3 : Int) ≠ 0 /\ inK .i64 (n.tdiv 3) := ⟨by decide, by rw [e1]; simp only [inK]; omega⟩;have A : ∀ (pl pa d : Int), 0 <= pl /\ pl <= 1000 -> Rg.Three pa d -> ∀ w, Calls Tryz.prog 84 #[.int .i64 pl, .int .i64 pa, .int .i64 d] w fun e w' => e = .returned (.agg #[.int .i64 (Rg.time pl pa d).num, .int .i64 (Rg.time pl pa d).den]) /\ Below w.heap.size w w' := fun pl pa d h h3 w => rat14_any pl pa d h h3 w;refine NewI.mk fun b1 hb1 => ?_;refine Need.mk n1 ?_;refine Need.ok ?_;refine Need.ok ?_;refine Need.mk ⟨by omega, by rw [e2]; simp only [inK]; omega⟩ ?_;refine Need.mk n1 ?_;refine Need.ok ?_;refine Need.ok ?_;refine Need.mk (by omega) ?_
 conv => whnf
 rw [e2, e3];refine CallI.to1 (A _ 1 2 ht (.inl ⟨rfl, rfl⟩)) fun w2 => ?_;refine CallI.to1 (A _ 1 2 hu (.inl ⟨rfl, rfl⟩)) fun w3 => ?_;refine NewI.mk fun b2 hb2 => ?_;refine Need.mk (by decide) ?_;have hp : ∀ (p : Pt), Rg.pt n long = p -> p.t.ok = true /\ p.u.ok = true /\ p.ins := fun p e => by subst e; exact ⟨hTok, hUok, hins⟩
 refine Branch.mk (fun hc => ?_) (fun hc => ?_)
 ·have h0 : n % 3 = 0 := by rw [<- e4]; simpa using hc
  have hpt : Rg.pt n long = ⟨Rg.time (n / 3 / Rg.sides long) 1 3, Rg.time (n / 3 % Rg.sides long) 2 3⟩ := by unfold Rg.pt; rw [h0]; rfl
  refine CallI.to1 (A _ 1 3 ht (.inr (.inl ⟨rfl, rfl⟩))) fun w2 => ?_;refine CallI.to1 (A _ 2 3 hu (.inr (.inr ⟨rfl, rfl⟩))) fun w3 => ?_;refine Need.mk (by decide) ?_;refine Branch.no (by rw [e4, h0]; rfl) ?_;refine DrawI.wr (.tk 0 (.tk 1 (.tk 2 (.tk 4 (.ev 3 (.tk 5 (.ev 6 (.tk 7 .done)))))))) [0] [] (by kernel_rfl) rfl (by simp) fun w1 h1 => ?_;obtain ⟨o1, o2, o3⟩ := hp _ hpt;unfold Rg.point;rw [hpt];refine CallI.to1 (fun w => rnumber14_any ⟨Rg.time (n / 3 / Rg.sides long) 1 3, Rg.time (n / 3 % Rg.sides long) 2 3⟩ long o3 o1 o2 hl w) fun w4 => ?_;exact EndI.mk fun w9 h9 => rfl
 ·have h0 : ¬ n % 3 = 0 := by rw [<- e4]; simpa using hc
  refine Need.mk (by decide) ?_;refine Branch.mk (fun hc2 => ?_) (fun hc2 => ?_)
  ·have h2 : n % 3 = 2 := by rw [<- e4]; simpa using hc2
   have hpt : Rg.pt n long = ⟨Rg.time (n / 3 / Rg.sides long) 2 3, Rg.time (n / 3 % Rg.sides long) 1 3⟩ := by unfold Rg.pt; rw [h2]; rfl
   refine CallI.to1 (A _ 2 3 ht (.inr (.inr ⟨rfl, rfl⟩))) fun w2 => ?_;refine CallI.to1 (A _ 1 3 hu (.inr (.inl ⟨rfl, rfl⟩))) fun w3 => ?_;refine DrawI.wr (.tk 0 (.tk 1 (.tk 2 (.tk 4 (.ev 3 (.tk 5 (.ev 6 (.tk 7 .done)))))))) [0] [] (by kernel_rfl) rfl (by simp) fun w1 h1 => ?_;obtain ⟨o1, o2, o3⟩ := hp _ hpt;unfold Rg.point;rw [hpt];refine CallI.to1 (fun w => rnumber14_any ⟨Rg.time (n / 3 / Rg.sides long) 2 3, Rg.time (n / 3 % Rg.sides long) 1 3⟩ long o3 o1 o2 hl w) fun w4 => ?_;exact EndI.mk fun w9 h9 => rfl
  ·have h2 : ¬ n % 3 = 2 := by rw [<- e4]; simpa using hc2
   have h1 : n % 3 = 1 := by omega
   have hpt : Rg.pt n long = ⟨Rg.time (n / 3 / Rg.sides long) 1 2, Rg.time (n / 3 % Rg.sides long) 1 2⟩ := by unfold Rg.pt; rw [h1]; rfl
   refine DrawI.wr (.tk 0 (.tk 1 (.tk 2 (.tk 4 (.ev 3 (.tk 5 (.ev 6 (.tk 7 .done)))))))) [0] [] (by kernel_rfl) rfl (by simp) fun w1 h1 => ?_;obtain ⟨o1, o2, o3⟩ := hp _ hpt;unfold Rg.point;rw [hpt];refine CallI.to1 (fun w => rnumber14_any ⟨Rg.time (n / 3 / Rg.sides long) 1 2, Rg.time (n / 3 % Rg.sides long) 1 2⟩ long o3 o1 o2 hl w) fun w4 => ?_;exact EndI.mk fun w9 h9 => rfl
def Sp.fit (s : Sp) : Prop := (-288230376151711744 <= s.lo /\ s.lo <= 288230376151711744) /\ (s.op = true \/ -288230376151711744 <= s.hi /\ s.hi <= 288230376151711744)
namespace Ky
open Dbm Mi Cv
structure Mt (long : Int) (z : Zn) : Prop where
 chk : Zo.chk z = 0
 b : z.b <= 1
 f : z.f <= 0
 c : z.c <= 2 * long + 1
theorem satO_below {d : Rat} {b m : Int} (h : satO d (ob b)) (hb : b <= m) (hm : m < NO) : satO d (some m) := by
 refine satO_mono (a := ob b) ?_ h;unfold ob;rw [if_neg (by omega)];exact hb
theorem Mt.pt {long : Int} (hl : long <= 16) {z : Zn} (h : Mt long z) {t : Nat -> Rat} (ht : Fz z t) : 0 <= t 1 - t 0 /\ t 1 - t 0 < t 2 - t 0 /\ t 2 - t 0 <= (long : Rat) := by
 have k := (fz_iff z t).1 ht;have k1 := satO_below (k 1 (by decide)) (show Zo.get z 1 <= 1 from h.b) (by decide);have k5 := satO_below (k 5 (by decide)) (show Zo.get z 5 <= 0 from h.f) (by decide);have k2 := satO_below (k 2 (by decide)) (show Zo.get z 2 <= 2 * long + 1 from h.c) (by unfold NO; omega);have s1 : Bd.st 1 = false := by decide
 have s0 : Bd.st 0 = true := by decide
 have s2 : Bd.st (2 * long + 1) = false := by
  cases hh : Bd.st (2 * long + 1)
  ·rfl
  ·have := (st_iff _).1 hh; omega
 unfold satO at k1 k5 k2;simp only [s1, s0, s2, Bool.false_eq_true, if_true, if_false] at k1 k5 k2;have e1 : (((1 : Int) / 2 : Int) : Rat) = 0 := by decide +kernel
 have e0 : (((0 : Int) / 2 : Int) : Rat) = 0 := by decide +kernel
 have e2 : (((2 * long + 1) / 2 : Int) : Rat) = (long : Rat) := by rw [show (2 * long + 1) / 2 = long by omega]
 rw [e1] at k1;rw [e0] at k5;rw [e2] at k2;have d1 : dif 1 t = t 0 - t 1 := rfl;have d5 : dif 5 t = t 1 - t 2 := rfl;have d2 : dif 2 t = t 2 - t 0 := rfl;rw [d1] at k1;rw [d5] at k5;rw [d2] at k2;exact ⟨by grind, by grind, k2⟩
theorem bsum_le {x y m n : Int} (hx : x <= m) (hy : y <= n) : bsum x y <= bsum m n := bsum_mono hx hy
theorem Mt.sm {long : Int} (hl : 1 <= long /\ long <= 16) {z : Zn} (h : Mt long z) : Sm 100 z := by
 have clo := (Zo.clo h.chk).2;have tri : ∀ i j a, i < 3 -> j < 3 -> a < 3 -> ∀ u v, (Zo.matL z)[i * 3 + a]?.getD 0 = u -> (Zo.matL z)[a * 3 + j]?.getD 0 = v -> u < NO -> v < NO -> (Zo.matL z)[i * 3 + j]?.getD 0 <= bsum u v := fun i j a hi hj ha u v hu hv hun hvn => by
  have h1 := clo.tri i j a hi hj ha;have m2 : mx 3 (Zo.matL z) i a = some u := by unfold mx ob; rw [hu, if_neg (by omega)]
  have m3 : mx 3 (Zo.matL z) a j = some v := by unfold mx ob; rw [hv, if_neg (by omega)]
  rw [m2, m3] at h1;cases hw : mx 3 (Zo.matL z) i j with
  | none => rw [hw] at h1; exact h1.elim
  | some x =>
    rw [hw] at h1;rw [(mx_some hw).1];exact h1
 have hN : (100 : Int) < NO := by decide
 have b := h.b;have f := h.f;have c := h.c;have ha := tri 1 0 2 (by decide) (by decide) (by decide) z.f z.c rfl rfl (by omega) (by omega);have hd := tri 0 2 1 (by decide) (by decide) (by decide) z.b z.f rfl rfl (by omega) (by omega);have he := tri 2 1 0 (by decide) (by decide) (by decide) z.c z.b rfl rfl (by omega) (by omega);have ha1 : z.a <= bsum z.f z.c := ha;have hd1 : z.d <= bsum z.b z.f := hd;have he1 : z.e <= bsum z.c z.b := he;have ha2 := bsum_le f c;have hd2 := bsum_le b f;have he2 := bsum_le c b;have q1 : bsum 0 (2 * long + 1) <= 100 := by unfold bsum; omega
 have q2 : bsum 1 0 <= 100 := by decide
 have q3 : bsum (2 * long + 1) 1 <= 100 := by rw [bsum_one]; omega
 intro k hk;rcases six hk with rfl | rfl | rfl | rfl | rfl | rfl
 ·show z.a <= 100; omega
 ·show z.b <= 100; omega
 ·show z.c <= 100; omega
 ·show z.d <= 100; omega
 ·show z.e <= 100; omega
 ·show z.f <= 100; omega
theorem Mt.less {long : Int} {y z : Zn} (h : Mt long z) (hy : Zo.chk y = 0) (hle : ∀ k, k < 6 -> Zo.get y k <= Zo.get z k) : Mt long y :=
 ⟨hy, Int.le_trans (hle 1 (by decide)) h.b, Int.le_trans (hle 5 (by decide)) h.f, Int.le_trans (hle 2 (by decide)) h.c⟩
def rep (n long : Int) : Nat -> Rat := Dbm.tvs [(Rg.pt n long).t, (Rg.pt n long).u]
def regs (long : Int) : List Int := Rg.up long (Rg.isR long)
theorem isR_lt {long x : Int} (h : Rg.isR long x = true) : 0 <= x /\ x < (Rg.many long).1 := by
 unfold Rg.isR at h;simp only [Bool.and_eq_true, decide_eq_true_eq] at h;exact h.1
theorem mem_regs {long x : Int} : x ∈ regs long ↔ Rg.isR long x = true := Rg.mem_up (fun x h => isR_lt h) x
theorem regs_len {long : Int} (hl : 1 <= long /\ long <= 16) : (regs long).length <= 3267 := by
 unfold regs Rg.up;rw [List.length_map];refine Nat.le_trans (List.length_filter_le _ _) ?_;rw [List.length_range, Rg.many_doc hl];have hm := Fr.mul_bd (u := 3 * (2 * long + 1)) (v := 2 * long + 1) (m := 99) (n := 33) (by omega) (by omega) (by omega) (by omega);simp only;omega
theorem Mt.rep {long : Int} (hl : 1 <= long /\ long <= 16) {z : Zn} (h : Mt long z) {t : Nat -> Rat} (ht : Fz z t) : ∃ n, n ∈ regs long /\ ∀ y, Fz y t ↔ Fz y (Ky.rep n long) := by
 obtain ⟨p1, p2, p3⟩ := h.pt hl.2 ht;obtain ⟨n, h1, h2, h3, h4, h5, h6⟩ := key_pt (t := fun i => t i - t 0) hl (by grind) p1 p2 p3;refine ⟨n, mem_regs.2 (by unfold Rg.isR; rw [decide_eq_true h1, decide_eq_true h2, h3]; rfl), fun y => ?_⟩;exact (fz_shift y t (t 0)).trans (h6.fz y)
theorem nodup_sub : ∀ (l m : List Int), l.Nodup -> (∀ x, x ∈ l -> x ∈ m) -> l.length <= m.length
 | [], m, _, _ => Nat.zero_le _
 | x :: l, m, hn, hs => by
   have hx := hs x (by simp);rw [List.nodup_cons] at hn;have h1 := nodup_sub l (m.erase x) hn.2 fun y hy => by
    have hne : y ≠ x := fun e => hn.1 (e ▸ hy);exact (List.mem_erase_of_ne hne).2 (hs y (by simp [hy]))
   have h2 := List.length_erase_of_mem hx;have h3 := List.length_pos_of_mem hx;simp only [List.length_cons];omega
theorem own_len {long : Int} (hl : 1 <= long /\ long <= 16) {l : List Zn} (hm : ∀ z, z ∈ l -> Mt long z) (ho : ∀ (j : Nat) (z : Zn), l[j]? = some z -> ∃ t, Fz z t /\ ∀ (k : Nat) (y : Zn), k ≠ j -> l[k]? = some y -> ¬ Fz y t) : l.length <= (regs long).length := by
 have key : ∀ j, j < l.length -> ∃ n : Int, n ∈ regs long /\ ∃ z, l[j]? = some z /\ Fz z (rep n long) /\ ∀ (k : Nat) (y : Zn), k ≠ j -> l[k]? = some y -> ¬ Fz y (rep n long) := fun j hj => by
  have hz := List.getElem?_eq_getElem hj;have hzm := List.getElem_mem hj;generalize l[j] = z at hz hzm;obtain ⟨t, h1, h2⟩ := ho j z hz;obtain ⟨n, h3, h4⟩ := (hm z hzm).rep hl h1;exact ⟨n, h3, z, hz, (h4 z).1 h1, fun k y hk hy hf => h2 k y hk hy ((h4 y).2 hf)⟩
 obtain ⟨f, hf⟩ : ∃ f : Nat -> Int, ∀ j, j < l.length -> f j ∈ regs long /\ ∃ z, l[j]? = some z /\ Fz z (rep (f j) long) /\ ∀ (k : Nat) (y : Zn), k ≠ j -> l[k]? = some y -> ¬ Fz y (rep (f j) long) :=
  ⟨fun j => if h : j < l.length then Classical.choose (key j h) else 0, fun j hj => by simp only [dif_pos hj]; exact Classical.choose_spec (key j hj)⟩
 have hlen : ((List.range l.length).map f).length = l.length := by simp
 rw [<- hlen];refine nodup_sub _ _ ?_ fun x hx => ?_
 ·rw [List.nodup_iff_pairwise_ne, List.pairwise_map]
  refine List.nodup_range.imp_of_mem ?_;intro i j hi hj hij e;obtain ⟨_, z, hz, hfz, _⟩ := hf i (List.mem_range.1 hi);obtain ⟨_, _, _, _, hno⟩ := hf j (List.mem_range.1 hj);exact hno i z hij hz (e ▸ hfz)
 ·obtain ⟨i, hi, rfl⟩ := List.mem_map.1 hx
  exact (hf i (List.mem_range.1 hi)).1
theorem dj_len {long : Int} (hl : 1 <= long /\ long <= 16) {l : List Zn} (hm : ∀ z, z ∈ l -> Mt long z) (hd : l.Pairwise Dj) : l.length <= 3267 := by
 refine Nat.le_trans (own_len hl hm fun j z hz => ?_) (regs_len hl);obtain ⟨t, ht⟩ := fz_ex (hm z (List.mem_of_getElem? hz)).chk;refine ⟨t, ht, fun k y hk hy hf => ?_⟩;obtain ⟨hj, rfl⟩ := List.getElem?_eq_some_iff.1 hz;obtain ⟨hk', rfl⟩ := List.getElem?_eq_some_iff.1 hy;rw [List.pairwise_iff_getElem] at hd;rcases Nat.lt_or_ge k j with h | h
 ·exact hd k j hk' hj h t ⟨hf, ht⟩
 ·exact hd j k hj hk' (by omega) t ⟨ht, hf⟩
theorem bare_len {long : Int} (hl : 1 <= long /\ long <= 16) {l : List Zn} (hm : ∀ z, z ∈ l -> Mt long z) (hb : Bare 0 l) : l.length <= (regs long).length := by
 refine own_len hl hm fun j z hz => ?_;have h1 := hb j z (Nat.zero_le _) hz;unfold Cv.Cov at h1;apply Classical.byContradiction;intro h2;apply h1;intro t ht;apply Classical.byContradiction;intro h3;exact h2 ⟨t, ht, fun k y hk hy hf => h3 ⟨y, mem_erase.2 ⟨k, hk, hy⟩, hf⟩⟩
theorem inner_sm {long : Int} (hl : 1 <= long /\ long <= 16) {b : Zn} (hb : Zo.chk b = 0) : ∀ (out next : List Zn), (∀ z, z ∈ next ++ out -> Mt long z) -> (next ++ out).Pairwise Dj ->
 (inner b out next).2 = 0 /\ (∀ z, z ∈ (inner b out next).1 -> Mt long z) /\ (inner b out next).1.Pairwise Dj
 | [], next, hm, hd => by rw [List.append_nil] at hm hd; exact ⟨rfl, hm, hd⟩
 | z :: o, next, hm, hd => by
   have hz := hm z (by simp);obtain ⟨m1, m2, m3⟩ := minus_sm (S := 100) (by omega) hz.chk hb (hz.sm hl);have m4 := minus_ok hz.chk hb m1;have hmm : ∀ y, y ∈ (minus z b).1 -> Mt long y := fun y hy => hz.less (m4 y hy).1 (m2 y hy);have hm' : ∀ y, y ∈ (next ++ (minus z b).1) ++ o -> Mt long y := fun y hy => by
    rcases List.mem_append.1 hy with hy | hy
    ·rcases List.mem_append.1 hy with hy | hy
     ·exact hm y (by simp [hy])
     ·exact hmm y hy
    ·exact hm y (by simp [hy])
   have hd' : ((next ++ (minus z b).1) ++ o).Pairwise Dj := by
    rw [List.pairwise_append] at hd;obtain ⟨d1, d2, d3⟩ := hd;rw [List.pairwise_cons] at d2;rw [List.pairwise_append, List.pairwise_append];refine ⟨⟨d1, m3, fun x hx y hy t ht => ?_⟩, d2.2, fun x hx y hy => ?_⟩
    ·exact d3 x hx z (by simp) t ⟨ht.1, ((m4 y hy).2 t ht.2).1⟩
    ·rcases List.mem_append.1 hx with hx | hx
     ·exact d3 x hx y (by simp [hy])
     ·exact fun t ht => d2.1 y hy t ⟨((m4 x hx).2 t ht.1).1, ht.2⟩
   have hlen : (next ++ (minus z b).1).length <= 3267 := by
    refine dj_len hl (fun y hy => hm' y (List.mem_append.2 (.inl hy))) ?_;rw [List.pairwise_append] at hd';exact hd'.1
   rw [inner_cons, if_neg (by rw [m1]; decide), if_neg (by omega)];exact inner_sm hl hb o _ hm' hd'
theorem outer_sm {long : Int} (hl : 1 <= long /\ long <= 16) : ∀ (l out : List Zn), (∀ b, b ∈ l -> Zo.chk b = 0) -> (∀ z, z ∈ out -> Mt long z) -> out.Pairwise Dj -> (outer l out).2 = 0
 | [], out, _, _, _ => rfl
 | b :: l, out, hb, hm, hd => by
   obtain ⟨i1, i2, i3⟩ := inner_sm hl (hb b (by simp)) out [] (by simpa using hm) (by simpa using hd);rw [outer_cons, if_neg (by rw [i1]; decide)];exact outer_sm hl l _ (fun x hx => hb x (by simp [hx])) i2 i3
theorem checked_two {l m : List Zn} (hl : l.length <= 4096) (hm : m.length <= 4096) (h1 : ∀ z, z ∈ l -> Zo.chk z = 0) (h2 : ∀ z, z ∈ m -> Zo.chk z = 0) : checked [l, m] = 0 := by
 have o1 : ∀ l : List Zn, (∀ z, z ∈ l -> Zo.chk z = 0) -> l.any odd = false := fun l h => by
  rw [List.any_eq_false];intro z hz;simp [odd, h z hz]
 unfold checked;simp only [List.any_cons, List.any_nil, Bool.or_false];rw [o1 l h1, o1 m h2, decide_eq_false (by omega), decide_eq_false (by omega)]
 rfl
theorem in_sm {long : Int} (hl : 1 <= long /\ long <= 16) {z : Zn} {l : List Zn} (hz : Mt long z) (hc : ∀ b, b ∈ l -> Zo.chk b = 0) (hlen : l.length <= 4096) : (in_ z l).2 = 0 := by
 unfold in_;rw [if_pos (checked_two hlen (by simp) hc (fun y hy => by rw [List.mem_singleton.1 hy]; exact hz.chk))];simp only;unfold left;rw [if_neg (by rw [hz.chk]; decide), if_neg]
 ·exact outer_sm hl l [z] hc (fun y hy => by rw [List.mem_singleton.1 hy]; exact hz) (by simp)
 ·intro h
  obtain ⟨b, hb, h⟩ := List.any_eq_true.1 h;simp [hc b hb] at h
theorem all_sm {long : Int} (hl : 1 <= long /\ long <= 16) {a b : List Zn} (ha : ∀ z, z ∈ a -> Mt long z) (hb : ∀ z, z ∈ b -> Zo.chk z = 0) (h1 : a.length <= 4096) (h2 : b.length <= 4096) : (all_ a b).2 = 0 := by
 unfold all_;rw [if_neg (by rw [checked_two h1 h2 (fun z hz => (ha z hz).chk) hb]; decide)];clear h1
 induction a with
 | nil => rfl
 | cons z a ih =>
   rw [allGo];have := in_sm hl (ha z (by simp)) hb h2;split
   ·exact this
   ·exact ih fun y hy => ha y (by simp [hy])
theorem pgo_sm {long : Int} (hl : 1 <= long /\ long <= 16) : ∀ (n : Nat) (out : List Zn), n <= out.length -> out.length <= 4096 -> (∀ z, z ∈ out -> Mt long z) -> (pgo n out).2 = 0
 | 0, out, _, _, _ => rfl
 | i + 1, out, hn, hlen, hm => by
   have ho := List.getElem?_eq_getElem (l := out) (i := i) (by omega);have hzm := List.getElem_mem (l := out) (n := i) (by omega);generalize out[i] = z at ho hzm;have hsub := List.eraseIdx_sublist out i;have he : (out.eraseIdx i).length <= 4096 := Nat.le_trans hsub.length_le hlen;rw [pgo_succ ho, if_neg (by rw [in_sm hl (hm z hzm) (fun b hb => (hm b (hsub.mem hb)).chk) he]; decide)];split
   ·exact pgo_sm hl i _ (by rw [List.length_eraseIdx]; split <;> omega) he (fun y hy => hm y (hsub.mem hy))
   ·exact pgo_sm hl i out (by omega) hlen hm
theorem prune_sm {long : Int} (hl : 1 <= long /\ long <= 16) {l : List Zn} (hlen : l.length <= 4096) (hm : ∀ z, z ∈ l -> Mt long z) : (prune l).2 = 0 := by
 unfold prune;rw [if_neg (by rw [checked_one.2 ⟨hlen, fun z hz => (hm z hz).chk⟩]; decide)];exact pgo_sm hl _ _ (Nat.le_refl _) (Nat.le_trans (sorted_len l) hlen) fun z hz => hm z ((sorted_mem l z).1 hz)
end Ky
namespace Ky
open Dbm Mi Cv Zs Cmp
structure Ml (long : Int) (l : List Zn) : Prop where
 mt : ∀ z, z ∈ l -> Mt long z
 bare : Bare 0 l
theorem Ml.len {long : Int} (hl : 1 <= long /\ long <= 16) {l : List Zn} (h : Ml long l) : l.length <= (regs long).length := bare_len hl h.mt h.bare
theorem Ml.len4 {long : Int} (hl : 1 <= long /\ long <= 16) {l : List Zn} (h : Ml long l) : l.length <= 3267 := Nat.le_trans (h.len hl) (regs_len hl)
theorem Ml.nil {long : Int} : Ml long [] := ⟨fun z hz => (nomatch hz), fun j z _ hz => by simp at hz⟩
theorem prune_ml {long : Int} (hl : 1 <= long /\ long <= 16) {l : List Zn} (hlen : l.length <= 4096) (hm : ∀ z, z ∈ l -> Mt long z) : (prune l).2 = 0 /\ Ml long (prune l).1 := by
 have h := prune_sm hl hlen hm;have hw := prune_ok h;exact ⟨h, fun z hz => hm z (hw.mem z hz), hw.bare⟩
theorem come_sm {long : Int} (hl : 1 <= long /\ long <= 16) (f : Zn -> Zn × Int) : ∀ (l out : List Zn), (∀ x, x ∈ l -> (f x).2 = 6 \/ ((f x).2 = 0 /\ Mt long (f x).1)) -> (∀ z, z ∈ out -> Mt long z) -> out.length + l.length <= 4096 ->
 (come f out l).2 = 0 /\ Ml long (come f out l).1
 | [], out, _, ho, hlen => prune_ml hl (by simpa using hlen) ho
 | x :: l, out, hf, ho, hlen => by
   rw [come_cons];simp only [List.length_cons] at hlen;rcases hf x (by simp) with h | ⟨h, hm⟩
   ·rw [if_neg (by rw [h]; decide), if_pos h]
    exact come_sm hl f l out (fun y hy => hf y (by simp [hy])) ho (by omega)
   ·rw [if_pos h]
    refine come_sm hl f l _ (fun y hy => hf y (by simp [hy])) (fun z hz => ?_) (by simp; omega);rcases List.mem_append.1 hz with hz | hz
    ·exact ho z hz
    ·rw [List.mem_singleton.1 hz]; exact hm
theorem pairGo_sm {long : Int} (hl : 1 <= long /\ long <= 16) (f : Zn -> Zn -> Zn × Int) (b : List Zn) (hb : b.length <= 800) : ∀ (a out : List Zn), (∀ x y, x ∈ a -> y ∈ b -> (f x y).2 = 6 \/ ((f x y).2 = 0 /\ Mt long (f x y).1)) -> Ml long out ->
 (pairGo f b out a).2 = 0 /\ Ml long (pairGo f b out a).1
 | [], out, _, ho => ⟨rfl, ho⟩
 | x :: a, out, hf, ho => by
   have h1 := ho.len4 hl;obtain ⟨c1, c2⟩ := come_sm hl (f x) b out (fun y hy => hf x y (by simp) hy) ho.mt (by omega);rw [pairGo_cons, if_pos c1];exact pairGo_sm hl f b hb a _ (fun y z hy hz => hf y z (by simp [hy]) hz) c2
theorem paired_sm {long : Int} (hl : 1 <= long /\ long <= 16) (f : Zn -> Zn -> Zn × Int) {a b : List Zn} (ha : ∀ z, z ∈ a -> Zo.chk z = 0) (hb : ∀ z, z ∈ b -> Zo.chk z = 0) (hla : a.length <= 4096) (hlb : b.length <= 800) (hf : ∀ x y, x ∈ a -> y ∈ b -> (f x y).2 = 6 \/ ((f x y).2 = 0 /\ Mt long (f x y).1)) :
 (paired f a b).2 = 0 /\ Ml long (paired f a b).1 := by
 unfold paired;rw [if_pos (checked_two hla (by omega) ha hb)];exact pairGo_sm hl f b hlb a [] hf Ml.nil
theorem or_ml {long : Int} (hl : 1 <= long /\ long <= 16) {a b : List Zn} (ha : ∀ z, z ∈ a -> Mt long z) (hb : ∀ z, z ∈ b -> Mt long z) (hlen : a.length + b.length <= 4096) : (Zs.or a b).2 = 0 /\ Ml long (Zs.or a b).1 := by
 unfold Zs.or;rw [if_pos (checked_two (by omega) (by omega) (fun z hz => (ha z hz).chk) (fun z hz => (hb z hz).chk))];refine prune_ml hl (by simp; omega) fun z hz => ?_;rcases List.mem_append.1 hz with hz | hz
 ·exact ha z hz
 ·exact hb z hz
theorem meet_mt {long : Int} (hl : 1 <= long /\ long <= 16) {a b : Zn} (ha : Mt long a) (hb : Zo.chk b = 0) : (Zo.meet a b).2 = 6 \/ ((Zo.meet a b).2 = 0 /\ Mt long (Zo.meet a b).1) := by
 rw [Zo.meet_of ha.chk hb];have hc : chk 3 (lessr (Zo.matL a) (Zo.matL b)) = 0 := Zo.chk_lessr (Zo.clo ha.chk).1 (Zo.clo hb).1;have hle : ∀ i j, i < 3 -> j < 3 -> i ≠ j -> (lessr (Zo.matL a) (Zo.matL b))[i * 3 + j]?.getD 0 <= (Zo.matL a)[i * 3 + j]?.getD 0 := fun i j hi hj hne => by
  have e : lessr (Zo.matL a) (Zo.matL b) = [min 1 1, min a.b b.b, min a.d b.d, min a.a b.a, min 1 1, min a.f b.f, min a.c b.c, min a.e b.e, min 1 1] := rfl;rw [e]
  rcases (by omega : i = 0 \/ i = 1 \/ i = 2) with rfl | rfl | rfl <;> rcases (by omega : j = 0 \/ j = 1 \/ j = 2) with rfl | rfl | rfl <;> first
   | exact absurd rfl hne
   | exact Int.min_le_left ..
 have hs := mat_of_get (ha.sm hl);rcases of_sm hc (S := 100) (by omega) (fun i j hi hj hne => Int.le_trans (hle i j hi hj hne) (hs i j hi hj hne)) with h | ⟨h1, h2, h3⟩
 ·exact .inl h
 ·exact .inr ⟨h1, ha.less (of_ok h1).1 (get_of_mat fun i j hi hj hne => Int.le_trans (h3 i j hi hj hne) (hle i j hi hj hne))⟩
theorem and_ml {long : Int} (hl : 1 <= long /\ long <= 16) {a b : List Zn} (ha : ∀ z, z ∈ a -> Mt long z) (hb : ∀ z, z ∈ b -> Zo.chk z = 0) (hla : a.length <= 4096) (hlb : b.length <= 800) : (Zs.and a b).2 = 0 /\ Ml long (Zs.and a b).1 :=
 paired_sm hl _ (fun z hz => (ha z hz).chk) hb hla hlb fun x y hx hy => meet_mt hl (ha x hx) (hb y hy)
end Ky
end
end Go.Proofs.YtanhnllkccldhaaGreat
namespace Go.Proofs.YtanhnllkccldhaaGreat.Eng
set_option linter.unusedVariables false
set_option linter.unusedSimpArgs false
open Go Go.RowKit Go.Shelf Go.Proofs
section
variable {cx : Cx} {w0 : Base}
end
end Go.Proofs.YtanhnllkccldhaaGreat.Eng
namespace Go.Proofs.YtanhnllkccldhaaGreat
set_option linter.unusedVariables false
set_option linter.unusedSimpArgs false
set_option maxRecDepth 100000
section
open Go.RowKit Go.Proofs.YtanhnllkccldhaaGreat.Eng Enc
namespace Cl
def go (part : List Zn) (cz : Int) : Nat -> List Zn -> List Zn -> List (List Zn × Int)
 | 0, all, _ => if all.length = 0 then [] else [([], 301)]
 | k + 1, all, last => if all.length = 0 then [] else (all, 0) :: (if (longer all last part cz).2.2 ≠ 0 then [([], (longer all last part cz).2.2)] else if (Cv.all_ (longer all last part cz).2.1 all).1 = true then [] else go part cz k (longer all last part cz).1 (longer all last part cz).2.1)
def seq (old part : List Zn) (cz cr : Int) : List (List Zn × Int) :=
 if cz < (part.length : Int) then [([], 300)] else if (longer part old part cz).2.2 ≠ 0 then [([], (longer part old part cz).2.2)] else go part cz cr.toNat (longer part old part cz).1 (longer part old part cz).1
structure RV where
 a : Option Addr
 c : Nat
 l : List Zn
 e : Int
def V (n₁ : Nat) (x : RV) (W : World) : Prop := Own TZ n₁ W (.slice x.a x.l.length x.c) x.l
def KpR (n₀ n₁ : Nat) (R : List Nat) (W W' : World) : Prop := Below n₀ W W' /\ (∀ k, k < n₁ -> k ∉ R -> W'.heap[k]? = W.heap[k]?) /\ ∀ (k : Nat) (cs : Array Value) (f : Nat × Nat), W.heap[k]? = some (.cells cs TZ f) -> W'.heap[k]? = W.heap[k]?
theorem V.kp {n₀ n₁ : Nat} {R : List Nat} {x : RV} {W X : World} (h : V n₁ x W) (k : KpR n₀ n₁ R W X) : V n₁ x X := by
 obtain ⟨hl, h0 | ⟨g, cap, cur, e1, e2, e3, e4⟩⟩ := h
 ·exact ⟨hl, .inl h0⟩
 ·exact ⟨hl, .inr ⟨g, cap, cur, e1, e2, (k.2.2 g _ _ e3).trans e3, e4⟩⟩
abbrev TZs : TypeId := 22
abbrev TCaps : TypeId := 54
structure Rd (n₀ n₁ Bo Bp Bc : Nat) (vo vp : Value) (cz cr : Int) (W X : World) : Prop where
 below : Below n₀ W X
 size : n₁ <= X.heap.size
 bo : X.heap[Bo]? = some (.cells #[vo] TZs (0, 0))
 bp : X.heap[Bp]? = some (.cells #[vp] TZs (0, 0))
 bc : X.heap[Bc]? = some (.cells #[.int .i64 cz, .int .i64 cr] TCaps (0, 0))
theorem Rd.go {n₀ n₁ Bo Bp Bc : Nat} {vo vp : Value} {cz cr : Int} {W X Y : World} (h : Rd n₀ n₁ Bo Bp Bc vo vp cz cr W X) (hn : n₀ <= n₁) (hB : Below X.heap.size X Y) : Rd n₀ n₁ Bo Bp Bc vo vp cz cr W Y :=
 ⟨h.below.trans (hB.mono (Nat.le_trans hn h.size)), Nat.le_trans h.size hB.size, (hB.block _ (Array.getElem?_eq_some_iff.1 h.bo).1).trans h.bo, (hB.block _ (Array.getElem?_eq_some_iff.1 h.bp).1).trans h.bp, (hB.block _ (Array.getElem?_eq_some_iff.1 h.bc).1).trans h.bc⟩
theorem Rd.kp {n₀ n₁ Bo Bp Bc : Nat} {vo vp : Value} {cz cr : Int} {R : List Nat} {W X Y : World} (h : Rd n₀ n₁ Bo Bp Bc vo vp cz cr W X) (h1 : Bo < n₁ /\ Bo ∉ R) (h2 : Bp < n₁ /\ Bp ∉ R) (h3 : Bc < n₁ /\ Bc ∉ R) (k : KpR n₀ n₁ R X Y) : Rd n₀ n₁ Bo Bp Bc vo vp cz cr W Y :=
 ⟨h.below.trans k.1, Nat.le_trans h.size k.1.size, (k.2.1 _ h1.1 h1.2).trans h.bo, (k.2.1 _ h2.1 h2.2).trans h.bp, (k.2.1 _ h3.1 h3.2).trans h.bc⟩
end Cl
theorem Cl.Rd.cell {n₀ n₁ Bo Bp Bc : Nat} {vo vp : Value} {cz cr : Int} {W X : World} (h : Cl.Rd n₀ n₁ Bo Bp Bc vo vp cz cr W X) : X.cell? ⟨Bo, 0, none⟩ = some vo /\ X.cell? ⟨Bp, 0, none⟩ = some vp /\ X.cell? ((⟨Bc, 0, none⟩ : Addr).add 0) = some (.int .i64 cz) /\ X.cell? ((⟨Bc, 0, none⟩ : Addr).add 1) = some (.int .i64 cr) := by
 refine ⟨?_, ?_, ?_, ?_⟩
 ·simp [World.cell?, h.bo]
 ·simp [World.cell?, h.bp]
 ·simp [World.cell?, Addr.add, h.bc]
 ·simp [World.cell?, Addr.add, h.bc]
end
section
open Go.RowKit Go.Shelf Go.Proofs.YtanhnllkccldhaaGreat.Eng Enc
namespace Cl
def lastS (s : List (List Zn × Int)) : List Zn := ((s.getLast?).map (·.1)).getD []
def close (old part : List Zn) (cz cr : Int) : List Zn × Int × Int :=
 if chk old part cz cr ≠ 0 then ([], 0, chk old part cz cr) else (match (seq old part cz cr).find? (fun x => decide (x.2 ≠ 0)) with
  | some x => ([], 0, x.2)
  | none => ((Cv.prune (lastS (seq old part cz cr))).1, (seq old part cz cr).length, (Cv.prune (lastS (seq old part cz cr))).2))
theorem V.own {n₁ : Nat} (z : RV) : OwnFrom n₁ (fun (_ : Unit) W => V n₁ z W) := fun _ A C row h hg hr => by
 obtain ⟨hl, h0 | ⟨g, cap, cur, e1, e2, e3, e4⟩⟩ := id h
 ·exact ⟨hl, .inl h0⟩
 ·refine ⟨hl, .inr ⟨g, cap, cur, e1, e2, (hg.block g (Array.getElem?_eq_some_iff.1 e3).1 (fun e => ?_)).trans e3, e4⟩⟩
  obtain ⟨_, o, ho, hc⟩ := hr g e.symm;rw [e3] at ho; injection ho with ho; subst ho; cases hc
end Cl
end
section
open Go.RowKit Go.Proofs.YtanhnllkccldhaaGreat.Eng Enc
namespace Cl
open Cv Zs Ky Cmp
theorem regs6 {long : Int} (hl : 1 <= long /\ long <= 6) : (regs long).length <= 507 := by
 unfold regs Rg.up;rw [List.length_map];refine Nat.le_trans (List.length_filter_le _ _) ?_;rw [List.length_range, Rg.many_doc (by omega)];have hm := Fr.mul_bd (u := 3 * (2 * long + 1)) (v := 2 * long + 1) (m := 39) (n := 13) (by omega) (by omega) (by omega) (by omega);simp only;omega
structure Good (long : Int) (l : List Zn) : Prop where
 ml : Ml long l
 same : Cv.prune l = (l, 0)
theorem Good.len {long : Int} (hl : 1 <= long /\ long <= 6) {l : List Zn} (h : Good long l) : l.length <= 507 := Nat.le_trans (h.ml.len (by omega)) (regs6 hl)
theorem Good.chk {long : Int} {l : List Zn} (h : Good long l) (z : Zn) (hz : z ∈ l) : Zo.chk z = 0 := (h.ml.mt z hz).chk
theorem good_of {long : Int} (hl : 1 <= long /\ long <= 6) {l : List Zn} (hlen : l.length <= 4096) (h : Ml long l) (hf : Fine l) : Good long l := by
 have h1 := prune_ml (long := long) (by omega) hlen h.mt;exact ⟨h, Prod.ext (hf.2.2 h1.1) h1.1⟩
theorem or_good {long : Int} (hl : 1 <= long /\ long <= 6) {a b : List Zn} (ha : Good long a) (hb : Good long b) : (Zs.or a b).2 = 0 /\ Good long (Zs.or a b).1 /\ ∀ t, Pts (Zs.or a b).1 t ↔ Pts a t \/ Pts b t := by
 have h1 := ha.len hl;have h2 := hb.len hl;obtain ⟨h3, h4⟩ := or_ml (long := long) (by omega) ha.ml.mt hb.ml.mt (by omega);obtain ⟨_, h5, h6⟩ := or_ok h3;exact ⟨h3, good_of hl h5.1 h4 h5, h6⟩
theorem in_good {long : Int} (hl : 1 <= long /\ long <= 6) {a b : List Zn} (ha : Good long a) (hb : Good long b) : (all_ a b).2 = 0 /\ ((all_ a b).1 = true ↔ ∀ t, Pts a t -> Pts b t) := by
 have h1 := ha.len hl;have h2 := hb.len hl;have h3 := all_sm (long := long) (by omega) ha.ml.mt hb.chk (by omega) (by omega);refine ⟨h3, (all_ok h3).trans ⟨fun h t ⟨z, hz, ht⟩ => h z hz t ht, fun h z hz t ht => h t ⟨z, hz, ht⟩⟩⟩
theorem good_check {long : Int} (hl : 1 <= long /\ long <= 6) {l : List Zn} (hc : Zs.check l = 0) (ho : odd l = false) (hz : ∀ z, z ∈ l -> z.c <= 2 * long + 1) : Good long l := by
 unfold Zs.check at hc;split at hc
 case isFalse => cases hc
 rename_i h;have hw := Cv.prune_ok h.1;have hm : ∀ z, z ∈ l -> Mt long z := fun z hzm => by
  unfold odd at ho;have h1 := List.any_eq_false.1 ho z hzm;unfold oddZ at h1;simp only [Bool.or_eq_true, decide_eq_true_eq, not_or] at h1;exact ⟨hw.chk z hzm, by omega, by omega, hz z hzm⟩
 have h2 := (prune_ml (long := long) (by omega) hw.len hm).2;rw [h.2] at h2;exact ⟨h2, Prod.ext h.2 h.1⟩
theorem good_check0 {long : Int} {l : List Zn} (h : Good long l) : Zs.check l = 0 := by
 unfold Zs.check;rw [h.same, if_pos ⟨rfl, rfl⟩]
theorem good_odd {long : Int} {l : List Zn} (h : Good long l) : odd l = false := by
 unfold odd;rw [List.any_eq_false];intro z hz;have := h.ml.mt z hz;unfold oddZ;simp only [Bool.or_eq_true, decide_eq_true_eq, not_or];have h1 := this.b;have h2 := this.f;omega
def Nx (p a b : List Zn) : Prop := (∀ t, Pts b t ↔ Pts a t \/ Thru (Pts a) (Pts p) t) /\ ∃ t, Pts b t /\ ¬ Pts a t
def Shut (p a : List Zn) : Prop := ∀ t, Thru (Pts a) (Pts p) t -> Pts a t
end Cl
namespace Cl
open Cv Zs Ky Cmp
def great (old p : List Zn) : Bool := decide (40 < old.length) || decide (40 < p.length) || decide (6 < Tb.lng 0 old) || decide (6 < Tb.lng 0 p)
structure Fin (long : Int) (old p l : List Zn) (ls : List (List Zn)) : Prop where
 gl : Good long l
 gs : ∀ x, x ∈ ls -> Good long x
 part : ∀ t, Pts p t -> Pts l t
 shut : Shut p l
 old : ∀ t, Thru (Pts old) (Pts p) t -> Pts l t
 nil : ls = [] -> l = []
 last : ls ≠ [] -> ls[ls.length - 1]? = some l
 step : ∀ (m : Nat) (a b : List Zn), ls[m]? = some a -> ls[m + 1]? = some b -> (∀ t, Pts a t -> Pts b t) /\ ∃ t, Pts b t /\ ¬ Pts a t
end Cl
instance encBool : Enc Bool := ⟨fun x => [.bool x], 1, fun _ => rfl, by decide, fun _ v hv => by rw [List.mem_singleton.1 hv]; rfl, fun x => .bool x⟩
abbrev TBo : TypeId := 4
theorem elBo : ElOk Tryz.prog 98 TBo 1 1 := elOk (z := .bool false) Tryz.underlying98 (by kernel_rfl) rfl (by decide)
theorem infoBo : (Tryz.prog.info? TBo).map (fun i => i.zero.map fun v => v.cells.toList) = some (some [Value.bool false]) := by kernel_rfl
theorem elIn : ElOk Tryz.prog 48 TKi 1 8 := elOk (z := .int .i64 0) Tryz.underlying48 (by kernel_rfl) rfl (by decide)
theorem cellsBool (l : List Bool) : cellsL l = l.map Value.bool := by
 induction l with
 | nil => rfl
 | cons x l ih => simp only [cellsL, ih, List.map_cons]; rfl
def BRow (W : World) (g : Nat) (l : List Bool) : Prop := ∃ cur : Array Value, W.heap[g]? = some (.cells cur TBo (0, 0)) /\ ∀ (k : Nat) (x : Bool), l[k]? = some x -> cur[k]? = some (.bool x)
theorem BRow.lt {W : World} {g : Nat} {l : List Bool} (h : BRow W g l) : g < W.heap.size := by
 obtain ⟨cur, c, _⟩ := h;exact (Array.getElem?_eq_some_iff.1 c).1
theorem BRow.kept {W X : World} {g : Nat} {l : List Bool} (h : BRow W g l) (e : X.heap[g]? = W.heap[g]?) : BRow X g l := by
 obtain ⟨cur, c, d⟩ := h;exact ⟨cur, e.trans c, d⟩
theorem BRow.below {W X : World} {g : Nat} {l : List Bool} (h : BRow W g l) (hB : Below W.heap.size W X) : BRow X g l := h.kept (hB.block _ h.lt)
theorem BRow.at {w0 : Base} {hp : List LB} {r L : List Nat} {w w1 : World} {g : Nat} {l : List Bool} (h : BRow w g l) (h1 : At w0 hp r L w w1) (hL : g ∉ L) : BRow w1 g l := h.kept (h1.step g h.lt hL)
theorem BRow.cell {W : World} {g : Nat} {l : List Bool} (h : BRow W g l) {k : Nat} {x : Bool} (hk : l[k]? = some x) : W.cell? ⟨g, k, none⟩ = some (.bool x) := by
 obtain ⟨cur, c, d⟩ := h;simp [World.cell?, c, d k x hk]
theorem BRow.frozen {W : World} {g : Nat} {l : List Bool} (h : BRow W g l) (j : Nat) : W.frozen? ⟨g, j, none⟩ = false := by
 obtain ⟨cur, c, _⟩ := h;simp [World.frozen?, c]
theorem BRow.set {W : World} {g : Nat} {l : List Bool} (h : BRow W g l) {k : Nat} (hk : k < l.length) (x : Bool) : BRow (W.setCell ⟨g, k, none⟩ (.bool x)) g (l.set k x) := by
 obtain ⟨cur, c, d⟩ := h;have hks : k < cur.size := by
  have := d k _ (List.getElem?_eq_getElem hk);exact (Array.getElem?_eq_some_iff.1 this).1
 refine ⟨cur.setIfInBounds k (.bool x), ?_, fun i y hi => ?_⟩
 ·simp only [World.setCell]
  rw [Array.getElem?_modify, if_pos rfl, c]
  rfl
 ·by_cases hik : i = k
  ·subst hik
   rw [List.getElem?_set_self hk] at hi;injection hi with hi; subst hi;simp [hks]
  ·rw [List.getElem?_set_ne (fun h => hik h.symm)] at hi
   rw [Array.getElem?_setIfInBounds_ne (fun h => hik h.symm)];exact d i y hi
theorem BRow.other {W : World} {g q j : Nat} {l : List Bool} {v : Value} (h : BRow W g l) (hne : g ≠ q) : BRow (W.setCell ⟨q, j, none⟩ v) g l := h.kept (setCell_neM hne)
theorem BRow.of {base : Nat} {W : World} {a : Option Addr} {c : Nat} {l : List Bool} (h : Own TBo base W (.slice a l.length c) l) (hn : 0 < l.length) : ∃ g, a = some ⟨g, 0, none⟩ /\ base <= g /\ l.length <= c /\ c <= maxLen /\ BRow W g l := by
 obtain ⟨hl, ⟨e, h0⟩ | ⟨g, cap, cur, e1, e2, e3, e4, e5, e6, e7⟩⟩ := h
 ·omega
 ·injection e1 with e1 e1' e1''
  subst e1'';refine ⟨g, e1, e2, e4, e5, cur, e3, fun k x hk => ?_⟩;rw [cellsBool] at e7;have e7' : cur.toList.take l.length = l.map Value.bool := by simpa [Enc.size] using e7
  have h1 : (cur.toList.take l.length)[k]? = some (.bool x) := by rw [e7', List.getElem?_map, hk]; rfl
  rw [List.getElem?_take] at h1;split at h1
  ·rw [<- h1, Array.getElem?_toList]
  ·cases h1
theorem BRow.sl {W : World} {g c : Nat} {l : List Bool} (h : BRow W g l) (h1 : l.length <= c) (h2 : c <= maxLen) : Sl W.heap.size W (.slice (some ⟨g, 0, none⟩) l.length c) l := by
 refine ⟨_, _, rfl, h1, h2, (fun e => nomatch e), fun k x hk => ⟨g, 0, rfl, h.lt, fun i c hi => ?_⟩⟩;have hc := h.cell hk
 match i, hi with
 | 0, hi =>
   injection hi with hi; subst hi;rw [show 0 + (k * size Bool + 0) = k by show 0 + (k * 1 + 0) = k; omega];exact hc
theorem rsame14_any (l m : List Int) (a : Option Addr) (cap : Nat) (b : Option Addr) (cb : Nat) (w : World) (hS : Sl w.heap.size w (.slice a l.length cap) l) (hT : Sl w.heap.size w (.slice b m.length cb) m) :
 Calls Tryz.prog 22 #[.slice a l.length cap, .slice b m.length cb] w fun e w' => e = .returned (.bool (decide (l = m))) /\ Below w.heap.size w w' := by
 refine fun_eq 0 w Tryz.func22 (args := [.val (.slice a l.length cap), .val (.slice b m.length cb)]) rfl rfl ?_;obtain ⟨_, _, hfe, hcap1, hcap2, _⟩ := hS.form;injection hfe with _ _ hfe;subst hfe;unfold maxLen at hcap2;refine Branch.mk (fun hc => ?_) (fun hc => ?_)
 ·have hne : l.length ≠ m.length := by have := of_decide_eq_true hc; omega
  refine EndI.mk fun w9 h9 => ?_;rw [decide_eq_false (fun e => hne (by rw [e]))]
 have hlm : l.length = m.length := by have := of_decide_eq_false hc; omega
 refine LoopI.invC (α := Nat × World) (fun y => [(5, .val (.int .i64 y.1))]) (fun y => y.2) (fun y => y.1 <= l.length /\ Below w.heap.size w y.2 /\ l.take y.1 = m.take y.1) (fun y => l.length - y.1) ?_ ?_
 ·intro w1 h1
  exact ⟨(0, w1), Cov.au rfl rfl rfl rfl rfl, rfl, Nat.zero_le _, h1.below, rfl⟩
 rintro ⟨k, V⟩ ⟨hk, hV, hall⟩;simp only at hk hV hall;refine Branch.mk (fun hc2 => ?_) (fun hc2 => ?_)
 ·have hlt : k < l.length := by have := of_decide_eq_true hc2; simp only at this; omega
  have hx := List.getElem?_eq_getElem (l := l) (i := k) hlt;have hy := List.getElem?_eq_getElem (l := m) (i := k) (by omega);generalize l[k] = x at hx;generalize m[k]'(by omega) = y at hy;refine DrawI.go (.tk 0 (.tk 1 (.tk 2 (.tk 3 (.tk 4 (.tk 5 (.tk 6 (.tk 7 (.tk 8 .done))))))))) (by kernel_rfl) fun w4 h4 => ?_;have hg4 : Below V.heap.size V w4 := h4.go;have hw4 := hV.trans (hg4.mono hV.size);have hS4 := hS.go hw4 hw4.size;have hT4 := hT.go hw4 hw4.size;refine hS4.idx hx fun ad had => ?_;refine hS4.ld1 hx had (Below.refl _ _) (by simp) ?_;refine hT4.idx hy fun ad2 had2 => ?_;refine hT4.ld1 hy had2 (Below.refl _ _) (by simp) ?_;refine Branch.mk (fun hc3 => ?_) (fun hc3 => ?_)
  ·have hne : x ≠ y := by simpa using hc3
   refine EndI.mk fun w9 h9 => ?_;rw [decide_eq_false (fun e => hne (by rw [e, hy] at hx; injection hx with hx; exact hx.symm))]
  ·have he : x = y := by simpa using hc3
   refine Need.ok (EndI.mk fun w9 h9 => ⟨(k + 1, w9), Cov.au rfl rfl rfl rfl rfl, rfl, ⟨hlt, h9.below, ?_⟩, by simp only; omega⟩);simp only;rw [List.take_add_one, List.take_add_one, hall, hx, hy, he]
 ·have hge : k = l.length := by have := of_decide_eq_false hc2; simp only at this; omega
  subst hge;rw [List.take_length, hlm, List.take_length] at hall;refine EndI.mk fun w9 h9 => ?_;rw [decide_eq_true hall]
namespace Rg
def pkTo (s : List Bool) (k : Nat) : List Int := ((List.range k).filter fun n => s[n]?.getD false).map Int.ofNat
theorem pkTo_step {s : List Bool} {k : Nat} {x : Bool} (hx : s[k]? = some x) : pkTo s (k + 1) = if x = true then pkTo s k ++ [(k : Int)] else pkTo s k := by
 unfold pkTo;rw [List.range_succ, List.filter_append, List.map_append];simp only [List.filter_cons, List.filter_nil, hx, Option.getD_some];cases x <;> simp
theorem pkTo_len (s : List Bool) (k : Nat) : (pkTo s k).length <= k := by
 unfold pkTo;rw [List.length_map];have := List.length_filter_le (fun n => s[n]?.getD false) (List.range k);rw [List.length_range] at this; exact this
end Rg
theorem rpick14_any (s : List Bool) (hlen : s.length <= 4096) (a : Option Addr) (ca : Nat) (w : World) (hS : Sl w.heap.size w (.slice a s.length ca) s) :
 Calls Tryz.prog 51 #[.slice a s.length ca] w (Ret w fun v w' => Own TKi w.heap.size w' v (Rg.pkTo s s.length)) := by
 refine fun_ret 0 w Tryz.func51 (args := [.val (.slice a s.length ca)]) rfl rfl ?_;have st := Stay.first (w := w)
 refine LoopI.invC (α := Nat × World × Value) (fun y => [(4, .val (.int .i64 y.1)), (3, .val y.2.2)]) (fun y => y.2.1) (fun y => y.1 <= s.length /\ Below w.heap.size w y.2.1 /\ ∃ base, Lp ⟨w, w.heap.size, Nat.le_refl _⟩ [w] [] TKi base y.2.1 y.2.2 (Rg.pkTo s y.1)) (fun y => s.length - y.1) ?_ ?_
 ·intro w1 h1
  exact ⟨(0, w1, .slice none 0 0), Cov.au rfl rfl rfl rfl rfl, rfl, Nat.zero_le _, h1.below, _, Lp.start st h1 (by simp)⟩
 rintro ⟨k, V, ov⟩ ⟨hk, hV, base, lp⟩;simp only at hk hV lp;obtain ⟨ao, co, rfl⟩ := lp.own.form;have hle := Rg.pkTo_len s k;refine Branch.mk (fun z3 => ?_) (fun z3 => ?_)
 ·have hlt : k < s.length := by have := of_decide_eq_true z3; simp only at this; omega
  have hx := List.getElem?_eq_getElem (l := s) (i := k) hlt;generalize s[k] = x at hx;have hes := Rg.pkTo_step hx;have hSV := hS.go hV hV.size;refine hSV.idx hx fun ad had => ?_;refine hSV.ldv hx rfl had (Below.refl _ _) (by simp) ?_;refine Branch.mk (fun z4 => ?_) (fun z4 => ?_)
  ·rw [if_pos z4] at hes
   refine NewI.mk fun b1 hb1 => ?_;have hb1' : V.heap.size <= b1 := hb1;refine GenN.appL (α := Int) elIn lp (fun y hy => .inr (by simp at hy; omega)) (by simp) [(k : Int)] (fun w8 h8 => src_own h8 0 rfl rfl rfl rfl) (by simp; omega) (by decide) fun a' c' w8 w9 h8 lp9 hsz hbl => ?_;rw [<- hes] at lp9 ⊢;refine Need.ok (EndI.mk fun w10 h10 => ⟨(k + 1, w10, .slice a' (Rg.pkTo s (k + 1)).length c'), Cov.au rfl rfl rfl rfl rfl, rfl, ⟨hlt, h10.below, base, lp9.at h10 (by simp)⟩, by simp only; omega⟩)
  ·rw [if_neg (by rw [z4]; decide)] at hes
   rw [<- hes] at lp ⊢;refine Need.ok (EndI.mk fun w10 h10 => ⟨(k + 1, w10, .slice ao (Rg.pkTo s (k + 1)).length co), Cov.au rfl rfl rfl rfl rfl, rfl, ⟨hlt, h10.below, base, lp.at h10 (by simp)⟩, by simp only; omega⟩)
 ·have hge : k = s.length := by have := of_decide_eq_false z3; simp only at this; omega
  subst hge;refine EndI.mk fun w10 h10 => (lp.at h10 (by simp)).own.lower ?_;exact lp.anc w (by simp)
namespace Rg
def mks (l : List Int) (M k : Nat) : List Bool := (List.range M).map fun n : Nat => decide ((n : Int) ∈ l.take k)
end Rg
def BOwn (base : Nat) (W : World) (v : Value) (s : List Bool) : Prop := ∃ g c, v = .slice (some ⟨g, 0, none⟩) s.length c /\ s.length <= c /\ c <= maxLen /\ base <= g /\ BRow W g s
theorem BOwn.sl {base : Nat} {W : World} {v : Value} {s : List Bool} (h : BOwn base W v s) : Sl W.heap.size W v s := by
 obtain ⟨g, c, rfl, h1, h2, h3, h4⟩ := h;exact h4.sl h1 h2
namespace Fr
def made (W p d : Int) : Rt × Bool :=
 if 1048576 < d \/ 2305843009213693952 < W \/ W < -2305843009213693952 then (⟨0, 0⟩, false)
 else if inI (W * d + p) = true then (⟨W * d + p, d⟩, okB (W * d + p) d) else (⟨0, 0⟩, false)
end Fr
namespace Fr
end Fr
namespace Rg
def six (n : Nat) : Rt := ⟨(n : Int).tdiv (Int.gcd ((n : Int) % 6) 6 : Nat), (6 : Int).tdiv (Int.gcd ((n : Int) % 6) 6 : Nat)⟩
end Rg
namespace Rg
def btw1 (A B : List Bool) (p : Pt) (long : Int) (n : Nat) : Bool := decide (0 <= number ⟨p.t, six n⟩ long) && decide (0 <= number ⟨six n, p.u⟩ long) && A[(number ⟨p.t, six n⟩ long).toNat]?.getD false && B[(number ⟨six n, p.u⟩ long).toNat]?.getD false
def btwB (A B : List Bool) (p : Pt) (long : Int) (k : Nat) : Bool := (List.range k).any fun n => btw1 A B p long n
end Rg
namespace Rg
def done (f : Int -> Bool) (M k : Nat) : List Bool := (List.range M).map fun n : Nat => decide (n < k) && f n
theorem done_len (f : Int -> Bool) (M k : Nat) : (done f M k).length = M := by simp [done]
theorem done_get {f : Int -> Bool} {M k n : Nat} (h : n < M) : (done f M k)[n]? = some (decide (n < k) && f n) := by
 unfold done;rw [List.getElem?_map, List.getElem?_range h]; rfl
theorem done_zero (f : Int -> Bool) (M : Nat) : done f M 0 = List.replicate M false := by
 unfold done;simp only [Nat.not_lt_zero, decide_false, Bool.false_and, List.map_const', List.length_range]
theorem done_step (f : Int -> Bool) {M k : Nat} (hk : k < M) : done f M (k + 1) = (done f M k).set k (f k) := by
 apply List.ext_getElem?;intro n
 by_cases hn : n < M
 ·rw [done_get hn]
  by_cases e : k = n
  ·subst e
   rw [List.getElem?_set_self (by rw [done_len]; exact hn), decide_eq_true (by omega : k < k + 1)];simp
  ·rw [List.getElem?_set_ne e, done_get hn]
   congr 2
   rw [decide_eq_decide]; omega
 ·rw [List.getElem?_eq_none (by rw [done_len]; omega), List.getElem?_eq_none (by rw [List.length_set, done_len]; omega)]
theorem done_pick (f : Int -> Bool) {long : Int} {M : Nat} (hM : (many long).1 = M) : pkTo (done f M M) M = up long f := by
 unfold pkTo up;rw [hM, Int.toNat_natCast]
 congr 1
 apply List.filter_congr;intro n hn;have hn' := List.mem_range.1 hn;rw [done_get hn', decide_eq_true hn'];simp
end Rg
theorem Rg.pt_fine {n long : Int} (hl : 1 <= long /\ long <= 16) (hn : 0 <= n /\ n < 3 * (2 * long + 1) * (2 * long + 1)) : (Rg.pt n long).ins /\ (Rg.pt n long).t.ok = true /\ (Rg.pt n long).u.ok = true := by
 have hs : Rg.sides long = 2 * long + 1 := rfl;have ht : 0 <= n / 3 / Rg.sides long /\ n / 3 / Rg.sides long <= 1000 := by
  have h1 : 0 <= n / 3 / Rg.sides long := Int.ediv_nonneg (by omega) (by omega);have h2 : n / 3 / Rg.sides long < Rg.sides long := by
   refine Int.ediv_lt_of_lt_mul (by omega) ?_;have : n < 3 * (Rg.sides long * Rg.sides long) := by rw [<- Int.mul_assoc]; exact hn.2
   omega
  omega
 have hu : 0 <= n / 3 % Rg.sides long /\ n / 3 % Rg.sides long <= 1000 := by
  have h1 := Int.emod_nonneg (n / 3) (b := Rg.sides long) (by omega);have h2 := Int.emod_lt_of_pos (n / 3) (b := Rg.sides long) (by omega);omega
 have h3 := Rg.parts_three (r := n % 3) (by omega);have hp : (0 <= (Rg.parts (n % 3)).1 /\ (Rg.parts (n % 3)).1 <= 10) /\ (0 <= (Rg.parts (n % 3)).2.1 /\ (Rg.parts (n % 3)).2.1 <= 10) /\ (1 <= (Rg.parts (n % 3)).2.2 /\ (Rg.parts (n % 3)).2.2 <= 10) := by
  rcases (by omega : n % 3 = 0 \/ n % 3 = 1 \/ n % 3 = 2) with h | h | h <;> rw [h] <;> simp [Rg.parts]
 exact ⟨⟨Rg.time_ins ht hp.1 hp.2.2, Rg.time_ins hu hp.2.1 hp.2.2⟩, (Rg.time_doc ht h3.1).2, (Rg.time_doc hu h3.2).2⟩
namespace Rg
def mayAt (l : List Int) (long : Int) (k : Nat) : Bool := decide ((askPoint (l[k]?.getD 0) long).2 = 0) && (decide (k = 0) || decide (l[k - 1]?.getD 0 < l[k]?.getD 0))
def mayTo (l : List Int) (long : Int) (k : Nat) : Bool := (List.range k).all fun n => mayAt l long n
def mayL (l : List Int) (long : Int) : Bool := mayTo l long l.length
end Rg
namespace Wn
open Mi Dbm
end Wn
namespace Zs
open Mi Dbm
end Zs
namespace Dbm
end Dbm
namespace Wn
open Mi Dbm
def spMay (s : Sp) : Bool := decide (-288230376151711744 <= s.lo) && decide (s.lo <= 288230376151711744) && (if s.op = true then decide (s.hi = 0) && !s.hs else decide (s.lo <= s.hi) && decide (s.hi <= 288230376151711744))
end Wn
namespace Fr
theorem keeps_no {a b : Rt} (ha : a.ok = true) (hb : b.ok = true) {x : Int} (hx : Bd.may x = true) : (keeps a b x).1 = if x = 9223372036854775807 then true else kept a b x := by
 unfold keeps;rw [ha, hb, hx];simp only [Bool.and_self, if_true];split <;> rfl
theorem kept_doc (a b : Rt) (x : Int) : kept a b x = if a.num / a.den - b.num / b.den ≠ x / 2 then decide (a.num / a.den - b.num / b.den < x / 2) else decide (a.num % a.den * b.den < b.num % b.den * a.den) || (decide (a.num % a.den * b.den = b.num % b.den * a.den) && !(Bd.st x)) := by
 unfold kept sign rest;generalize a.num / a.den - b.num / b.den = n;generalize x / 2 = c;generalize a.num % a.den * b.den = p;generalize b.num % b.den * a.den = q
 by_cases h : n = c
 ·have e : cmpI n c = 0 := by unfold cmpI; split; omega; split; omega; rfl
  rw [if_neg (by rw [e]; decide), if_neg (by omega)];unfold cmpI
  by_cases h1 : p < q
  ·rw [if_pos h1]; simp [h1]
  ·rw [if_neg h1]
   by_cases h2 : q < p
   ·rw [if_pos h2]
    have : ¬ p = q := by omega
    simp [h1, this]
   ·rw [if_neg h2]
    have : p = q := by omega
    simp [this]
 ·have e : cmpI n c ≠ 0 := by unfold cmpI; split; decide; split; decide; omega
  rw [if_pos e, if_pos h];unfold cmpI
  by_cases h1 : n < c
  ·rw [if_pos h1]; simp [h1]
  ·rw [if_neg h1, if_pos (by omega)]; simp [h1]
end Fr
theorem rkept03_any (a b : Rt) (ha : a.ok = true) (hb : b.ok = true) (ia : a.ins) (ib : b.ins) (x : Int) (hx : Bd.may x = true) (ix : inK .i64 x) (w : World) :
 Calls Tryz.prog 132 #[.agg #[.int .i64 a.num, .int .i64 a.den], .agg #[.int .i64 b.num, .int .i64 b.den], .int .i64 x] w fun e w' => e = .returned (.bool (Fr.keeps a b x).1) /\ Below w.heap.size w w' := by
 rw [Fr.keeps_no ha hb hx];refine fun_eq 0 w Tryz.func132 (args := [.agg [.val (.int .i64 a.num), .val (.int .i64 a.den)], .agg [.val (.int .i64 b.num), .val (.int .i64 b.den)], .val (.int .i64 x)]) rfl rfl ?_;have o1 := Fr.ok_bd ha;have o2 := Fr.ok_bd hb;have ix' := ix;simp only [inK] at ix';have m1 := Fr.mul_bd (u := a.num % a.den) (v := b.den) (m := 1048576) (n := 1048576) (by omega) (by omega) (by omega) (by omega);have m2 := Fr.mul_bd (u := b.num % b.den) (v := a.den) (m := 1048576) (n := 1048576) (by omega) (by omega) (by omega) (by omega);refine NewI.mk fun b1 hb1 => ?_;refine NewI.mk fun b2 hb2 => ?_;refine Branch.mk (fun z1 => ?_) (fun z1 => ?_)
 ·rw [if_pos (of_decide_eq_true z1)]
  exact EndI.mk fun w9 h9 => rfl
 rw [if_neg (of_decide_eq_false z1), Fr.kept_doc];refine CallI.to0 (fun w => rnumber_any x ix'.1 ix'.2 w) fun w2 => ?_;refine DrawI.go (.tk 0 (.tk 1 (.tk 2 (.tk 3 (.tk 5 (.tk 6 (.tk 7 (.tk 8 (.ev 4 (.ev 9 (.tk 10 (.tk 11 .done)))))))))))) (by kernel_rfl) fun w3 h3 => ?_;refine CallI.to1 (fun w => rlow03_any a.num a.den o1.1 ia.1 w) fun w4 => ?_;refine CallI.to1 (fun w => rlow03_any b.num b.den o2.1 ib.1 w) fun w5 => ?_;refine Need.ok ?_;refine Branch.mk (fun z2 => ?_) (fun z2 => ?_)
 ·rw [if_pos (of_decide_eq_true z2)]
  exact EndI.mk fun w9 h9 => rfl
 rw [if_neg (of_decide_eq_false z2)];refine DrawI.go (.tk 0 (.tk 1 (.tk 2 (.tk 3 (.tk 5 (.tk 6 (.ev 4 (.tk 7 (.tk 8 .done))))))))) (by kernel_rfl) fun w6 h6 => ?_;refine CallI.to1 (fun w => rpart03_any a.num a.den o1.1 ia.2 w) fun w7 => ?_;refine Need.ok ?_;refine DrawI.go (.tk 0 (.tk 1 (.tk 2 (.tk 3 (.tk 5 (.tk 6 (.ev 4 (.tk 7 (.tk 8 .done))))))))) (by kernel_rfl) fun w8 h8 => ?_;refine CallI.to1 (fun w => rpart03_any b.num b.den o2.1 ib.2 w) fun w9 => ?_;refine Need.ok ?_;refine Branch.mk (fun z3 => ?_) (fun z3 => ?_)
 ·exact EndI.mk fun w9 h9 => by rw [z3]; rfl
 rw [z3];refine Branch.mk (fun z4 => ?_) (fun z4 => ?_)
 ·refine CallI.to0 (fun w => rstrict_any x w) fun w2 => ?_
  exact EndI.mk fun w9 h9 => by rw [z4]; simp
 ·exact EndI.mk fun w9 h9 => by rw [z4]; simp
def Dbm.kp (L : List Int) (M : List Rt) (i j : Nat) : Bool := (Fr.keeps (M[i]?.getD ⟨0, 1⟩) (M[j]?.getD ⟨0, 1⟩) (L[i * 3 + j]?.getD 0)).1
theorem rkept04_any (L : List Int) (hL : L.length = 9) (hm : ∀ q, q < 9 -> Bd.may (L[q]?.getD 0) = true /\ inK .i64 (L[q]?.getD 0)) (t u : Rt) (ht : t.ok = true) (hu : u.ok = true) (it : t.ins) (iu : u.ins) (a b : Option Addr) (ca cb : Nat) (w : World) (hS : Sl w.heap.size w (.slice a L.length ca) L) (hT : Sl w.heap.size w (.slice b 2 cb) [t, u]) :
 Calls Tryz.prog 86 #[.agg #[.int .i64 3, .slice a L.length ca], .slice b 2 cb] w fun e w' => e = .returned (.bool (Dbm.keptL 3 L [t, u])) /\ Below w.heap.size w w' := by
 have hK : Dbm.keptL 3 L [t, u] = true ↔ ∀ i j, i < 3 -> j < 3 -> Dbm.kp L [⟨0, 1⟩, t, u] i j = true := Dbm.keptK;have oz : (⟨0, 1⟩ : Rt).ok = true := by decide
 have iz : (⟨0, 1⟩ : Rt).ins := ⟨by simp [inK], by simp [inK]⟩;have hM : ∀ i, i < 3 -> ∃ x, ([⟨0, 1⟩, t, u] : List Rt)[i]? = some x /\ x.ok = true /\ x.ins := fun i hi => by
  rcases (by omega : i = 0 \/ i = 1 \/ i = 2) with rfl | rfl | rfl
  ·exact ⟨_, rfl, oz, iz⟩
  ·exact ⟨_, rfl, ht, it⟩
  ·exact ⟨_, rfl, hu, iu⟩
 generalize hKL : Dbm.keptL 3 L [t, u] = KL at hK ⊢;refine fun_eq 0 w Tryz.func86 (args := [.agg [.val (.int .i64 3), .val (.slice a L.length ca)], .val (.slice b 2 cb)]) rfl rfl ?_;refine NewI.mk fun b1 hb1 => ?_;refine NewI.mk fun b2 hb2 => ?_;refine GenN.appN (α := Rt) elR [⟨0, 1⟩] [t, u] w.heap.size rfl (fun w5 h5 => Own.own (l := [(⟨0, 1⟩ : Rt)]) h5 1 rfl rfl rfl hb2 (n := 1) rfl (by simp [maxLen])) (fun w5 h5 => (hT.go h5.below h5.below.size).src) (by simp) (by simp [maxLen]) (by simp) fun v5 w5 w6 h5 hB5 hO => ?_;obtain ⟨a5, c5, rfl⟩ := hO.form;have hw6 : Below w.heap.size w w6 := h5.below.trans (hB5.mono h5.below.size);have hO : Own TR w5.heap.size w6 (.slice a5 3 c5) [(⟨0, 1⟩ : Rt), t, u] := hO;refine LoopI.invC (α := Nat × World) (fun y => [(6, .val (.int .i64 y.1))]) (fun y => y.2) (fun y => y.1 <= 3 /\ Below w.heap.size w y.2 /\ Own TR w5.heap.size y.2 (.slice a5 3 c5) [(⟨0, 1⟩ : Rt), t, u] /\ ∀ i j, i < y.1 -> j < 3 -> Dbm.kp L [⟨0, 1⟩, t, u] i j = true) (fun y => 3 - y.1) ?_ ?_
 ·intro w7 h7
  exact ⟨(0, w7), Cov.au rfl rfl rfl rfl rfl, rfl, Nat.zero_le _, h7.below, hO.below (at_belowM h7 (by simp)), by simp⟩
 rintro ⟨i, V⟩ ⟨hi, hV, hOV, hq⟩;simp only at hi hV hOV hq;refine Branch.mk (fun z1 => ?_) (fun z1 => ?_)
 ·have hi3 : i < 3 := by have := of_decide_eq_true z1; simp only at this; omega
  refine LoopI.invC (α := Nat × World) (fun y => [(7, .val (.int .i64 y.1))]) (fun y => y.2) (fun y => y.1 <= 3 /\ Below w.heap.size w y.2 /\ Own TR w5.heap.size y.2 (.slice a5 3 c5) [(⟨0, 1⟩ : Rt), t, u] /\ ∀ j, j < y.1 -> Dbm.kp L [⟨0, 1⟩, t, u] i j = true) (fun y => 3 - y.1) ?_ ?_
  ·intro w7 h7
   exact ⟨(0, w7), Cov.au rfl rfl rfl rfl rfl, rfl, Nat.zero_le _, h7.below, hOV.below (at_belowM h7 (by simp)), by simp⟩
  rintro ⟨j, U⟩ ⟨hj, hU, hOU, hq2⟩;simp only at hj hU hOU hq2;refine Branch.mk (fun z2 => ?_) (fun z2 => ?_)
  ·have hj3 : j < 3 := by have := of_decide_eq_true z2; simp only at this; omega
   obtain ⟨x, hx, ox, ixx⟩ := hM i hi3;obtain ⟨y, hy, oy, iy⟩ := hM j hj3;have hb := List.getElem?_eq_getElem (l := L) (i := i * 3 + j) (by omega);obtain ⟨bm, bi⟩ := hm (i * 3 + j) (by omega);have hkp : Dbm.kp L [⟨0, 1⟩, t, u] i j = (Fr.keeps x y (L[i * 3 + j]'(by omega))).1 := by unfold Dbm.kp; rw [hx, hy, hb]; rfl
   rw [hb] at bm bi;simp only [Option.getD_some] at bm bi;generalize L[i * 3 + j]'(by omega) = q at hb bm bi hkp;refine DrawI.go (.tk 0 (.tk 1 (.tk 2 (.tk 3 (.tk 4 (.tk 5 (.tk 6 (.tk 7 (.tk 8 (.tk 9 (.tk 10 (.tk 11 (.tk 12 (.tk 13 (.tk 14 (.tk 15 (.tk 16 (.tk 17 (.ev 18 (.tk 19 .done)))))))))))))))))))) (by kernel_rfl) fun w8 h8 => ?_;have hO8 := hOU.below (at_belowM h8 (by simp));have hS8 : Sl w8.heap.size w8 (.slice a5 3 c5) [(⟨0, 1⟩ : Rt), t, u] := hO8.sl;have hL8 : Sl w8.heap.size w8 (.slice a L.length ca) L := hS.go h8.below h8.below.size;have eij : (i : Int) * 3 = ((i * 3 : Nat) : Int) := rfl;refine hS8.idx hx fun ad had => ?_;refine hS8.ld hx had (Below.refl _ _) (by simp) ?_;refine hS8.idx hy fun ad2 had2 => ?_;refine hS8.ld hy had2 (Below.refl _ _) (by simp) ?_;refine Need.mk (by simp only; rw [eij]; simp only [inK]; omega) ?_;refine Need.mk (by simp only; rw [eij]; simp only [inK]; omega) ?_;refine hL8.idx hb fun ad3 had3 => ?_;refine hL8.ld1 hb had3 (Below.refl _ _) (by simp) ?_;apply CallI.use1
   focus (exact fun w9 h9 => rkept03_any x y ox oy ixx iy q bm bi w9)
   intro w9 v9 h9 hB9;rw [<- hkp];have hO9 := (hO8.below (at_belowM h9 (by simp))).below hB9;refine Branch.mk (fun z3 => ?_) (fun z3 => ?_)
   ·have hf : Dbm.kp L [⟨0, 1⟩, t, u] i j = false := by simpa using z3
    refine EndI.mk fun w10 h10 => ?_;have : KL = false := by
     cases KL with
     | false => rfl
     | true => rw [hK.1 rfl i j hi3 hj3] at hf; cases hf
    rw [this]
   ·have ht' : Dbm.kp L [⟨0, 1⟩, t, u] i j = true := by simpa using z3
    refine Need.ok (EndI.mk fun w10 h10 => ⟨(j + 1, w10), Cov.au rfl rfl rfl rfl rfl, rfl, ⟨hj3, h10.below, hO9.below (at_belowM h10 (by simp)), fun j' hj' => ?_⟩, by simp only; omega⟩)
    by_cases e : j' = j
    ·subst e; exact ht'
    ·exact hq2 j' (by simp only at hj'; omega)
  ·have hge : j = 3 := by have := of_decide_eq_false z2; simp only at this; omega
   subst hge;refine Need.ok (EndI.mk fun w10 h10 => ⟨(i + 1, w10), Cov.au rfl rfl rfl rfl rfl, rfl, ⟨hi3, h10.below, hOU.below (at_belowM h10 (by simp)), fun i' j' hi' hj' => ?_⟩, by simp only; omega⟩)
   by_cases e : i' = i
   ·subst e; exact hq2 j' hj'
   ·exact hq i' j' (by simp only at hi'; omega) hj'
 ·have hge : i = 3 := by have := of_decide_eq_false z1; simp only at this; omega
  subst hge;refine EndI.mk fun w10 h10 => ?_;rw [hK.2 hq]
theorem rinside_any (z : Zn) (hz : Zo.chk z = 0) (p : Pt) (hp : p.ins) (ht : p.t.ok = true) (hu : p.u.ok = true) (w : World) :
 Calls Tryz.prog 50 #[.agg #[.int .i64 z.a, .int .i64 z.b, .int .i64 z.c, .int .i64 z.d, .int .i64 z.e, .int .i64 z.f], .agg #[.int .i64 p.t.num, .int .i64 p.t.den, .int .i64 p.u.num, .int .i64 p.u.den]] w fun e w' => e = .returned (.bool (Dbm.keptL 3 (Zo.matL z) [p.t, p.u])) /\ Below w.heap.size w w' := by
 refine fun_eq 0 w Tryz.func50 (args := [.agg [.val (.int .i64 z.a), .val (.int .i64 z.b), .val (.int .i64 z.c), .val (.int .i64 z.d), .val (.int .i64 z.e), .val (.int .i64 z.f)], .agg [.val (.int .i64 p.t.num), .val (.int .i64 p.t.den), .val (.int .i64 p.u.num), .val (.int .i64 p.u.den)]]) rfl rfl ?_;refine NewI.mk fun b1 hb1 => ?_;refine NewI.mk fun b2 hb2 => ?_;refine DrawI.go (.tk 0 (.tk 2 (.tk 3 (.tk 4 (.tk 5 (.two 1 (.ev 6 (.ev 7 (.tk 8 .done))) 6 (.ev 1 (.ev 7 (.tk 8 .done))))))))) (by kernel_rfl) fun w1 h1 => ?_;have hc0 : Dbm.chk 3 (Zo.matL z) = 0 := by
  have hk := Zo.chk_eq.1 hz;rcases Classical.em (Dbm.chk 3 (Zo.matL z) = 0) with h | h
  ·exact h
  ·exfalso
   unfold Dbm.close at hk;rw [if_neg h] at hk;simp at hk
 have hm : ∀ q, q < 9 -> Bd.may ((Zo.matL z)[q]?.getD 0) = true /\ inK .i64 ((Zo.matL z)[q]?.getD 0) := fun q hq => by
  have h := Dbm.chk_lim hc0 q hq;refine ⟨Dbm.may_limK (Dbm.lim_mono h (by omega)), ?_⟩;simp only [inK];rcases h with h | h
  ·rw [h]; unfold Dbm.NO; omega
  ·omega
 refine Both.mk ?_ ?_
 ·apply CallI.use
  focus (exact fun w2 h2 => rfull_any z w2)
  rintro v w2 v2 h2 hB2 ⟨a2, c2, rfl, hS2⟩;refine NewI.mk fun b3 hb3 => ?_;apply CallI.use1
  focus (exact fun w3 h3 => rkept04_any (Zo.matL z) rfl hm p.t p.u ht hu hp.1 hp.2 a2 _ c2 _ w3 (hS2.go (at_belowM h3 (by simp)) h3.size) (Sl.own (l := [p.t, p.u]) h3 2 rfl rfl rfl (Nat.le_refl _) (by simp [maxLen])))
  intro w3 v3 h3 hB3;exact EndI.mk fun w9 h9 => rfl
 ·refine NewI.mk fun b3 hb3 => ?_
  apply CallI.use
  focus (exact fun w2 h2 => rfull_any z w2)
  rintro v w2 v2 h2 hB2 ⟨a2, c2, rfl, hS2⟩;apply CallI.use1
  focus (exact fun w3 h3 => rkept04_any (Zo.matL z) rfl hm p.t p.u ht hu hp.1 hp.2 a2 _ c2 _ w3 (hS2.go (at_belowM h3 (by simp)) h3.size) (Sl.own (l := [p.t, p.u]) h3 2 rfl rfl rfl (Nat.le_refl _) (by simp [maxLen])))
  intro w3 v3 h3 hB3;exact EndI.mk fun w9 h9 => rfl
namespace Zs
end Zs
namespace Rg
theorem has_inside {z : Zn} (hz : Zo.chk z = 0) {p : Pt} (ht : p.t.ok = true) (hu : p.u.ok = true) : (Zo.has z p).1 = Dbm.keptL 3 (Zo.matL z) [p.t, p.u] := by
 have hc0 := (Zo.clo hz).1;unfold Zo.has;rw [if_pos ⟨hz, ht, hu⟩];unfold Dbm.keeps;rw [if_pos ⟨hc0, by simp [ht, hu]⟩, if_pos (by simp)]
 rfl
theorem up_congr {long : Int} {p q : Int -> Bool} (h : ∀ x, 0 <= x -> x < (many long).1 -> p x = q x) : up long p = up long q := by
 unfold up
 congr 1
 apply List.filter_congr;intro n hn;have := List.mem_range.1 hn;exact h n (by omega) (by omega)
def hit (l : List Zn) (long : Int) (x : Int) : Bool := (point x long).2 && l.any fun z => (Zo.has z (pt x long)).1
theorem hit_inL (l : List Zn) (long : Int) : up long (hit l long) = up long (inL l long) := up_congr fun x h0 h1 => by
 unfold hit inL isR;rw [decide_eq_true h0, decide_eq_true h1]; simp
end Rg
set_option maxHeartbeats 1000000 in
theorem rlist14_any (l : List Zn) (hz : ∀ z, z ∈ l -> Zo.chk z = 0) (hlen : l.length <= 4096) (long : Int) (hl : 1 <= long /\ long <= 16) (pa : Option Addr) (ca : Nat) (w : World) (hS : Sl w.heap.size w (.slice pa l.length ca) l) :
 Calls Tryz.prog 20 #[.slice pa l.length ca, .int .i64 long] w (Ret w fun v w' => Own TKi w.heap.size w' v (Rg.up long (Rg.inL l long))) := by
 refine fun_ret 0 w Tryz.func20 (args := [.val (.slice pa l.length ca), .val (.int .i64 long)]) rfl rfl ?_;have st := Stay.first (w := w)
 have hmm := Fr.mul_bd (u := 3 * (2 * long + 1)) (v := 2 * long + 1) (m := 99) (n := 33) (by omega) (by omega) (by omega) (by omega);have hmany := Rg.many_doc hl;obtain ⟨M, hM⟩ : ∃ M : Nat, 3 * (2 * long + 1) * (2 * long + 1) = M := ⟨(3 * (2 * long + 1) * (2 * long + 1)).toNat, by omega⟩;have hM1 : (Rg.many long).1 = M := by rw [hmany]; exact hM
 have hM4 : M <= 3267 := by omega
 have hM0 : 0 < M := by
  have h : 9 * 3 <= 3 * (2 * long + 1) * (2 * long + 1) := Int.mul_le_mul (by omega) (by omega) (by omega) (by omega);omega
 rw [<- Rg.hit_inL];apply CallI.use1
 focus (exact fun w4 h4 => rcount14_any long hl w4)
 intro w4 v4 h4 hB4;have st := st.nx h4 hB4;rw [hM];refine GenV.mks (α := Bool) elBo false infoBo M rfl (by simp [Enc.size]; omega) (by omega) fun v w5 v5 h5 hB5 hOw => ?_;have st := st.nx h5 hB5;obtain ⟨ab, cb', rfl⟩ := hOw.form;have hBk := Rg.done_zero (Rg.hit l long) M;have hds := fun k (hk : k < M) => Rg.done_step (Rg.hit l long) hk;have hdp := Rg.done_pick (Rg.hit l long) hM1;have hdl := fun k => Rg.done_len (Rg.hit l long) M k;have hdg := fun k (hk : k < M) => Rg.done_get (f := Rg.hit l long) (k := k) hk;rw [<- hBk] at hOw ⊢;rw [<- hdp];generalize hD : Rg.done (Rg.hit l long) M = D at *;obtain ⟨g, rfl, hgb, hcb1, hcb2, hRow⟩ := BRow.of hOw (by rw [hdl]; omega);have hgw : w.heap.size <= g := by have := h5.below.size; simp only at this; omega
 rw [hdl] at hcb1 ⊢;refine LoopI.invC (α := Nat × World) (fun y => [(6, .val (.int .i64 y.1))]) (fun y => y.2) (fun y => y.1 <= M /\ Below w.heap.size w y.2 /\ BRow y.2 g (D y.1)) (fun y => M - y.1) ?_ ?_
 ·intro w6 h6
  exact ⟨(0, w6), Cov.au rfl rfl rfl rfl rfl, rfl, Nat.zero_le _, h6.below, hRow.at h6 (by simp)⟩
 rintro ⟨k, V⟩ ⟨hk, hV, hRk⟩;simp only at hk hV hRk;refine Branch.mk (fun hb => ?_) (fun hb => ?_)
 ·have hlt : k < M := by have := of_decide_eq_true hb; simp only at this; omega
  have hkn : 0 <= (k : Int) /\ (k : Int) < 3 * (2 * long + 1) * (2 * long + 1) := by omega
  obtain ⟨hpi, hpt, hpu⟩ := Rg.pt_fine hl hkn;have hes := hds k hlt;have hgV : g < V.heap.size := hRk.lt;apply CallI.use1
  focus (exact fun w5 h5 => rof14_any (k : Int) long hl hkn w5)
  intro w6 v6 h6 hB6;refine NewI.mk fun b2 hb2 => ?_;have hb2' : v6.heap.size <= b2 := hb2;have hgb2 : b2 ≠ g := by have e1 := h6.size; have e2 := hB6.size; simp only at e1; omega
  have hV6 : Below w.heap.size w v6 := h6.below.trans (hB6.mono h6.below.size);have hR6 := (hRk.at h6 (by simp)).below hB6;have hgv6 : v6.heap.size <= b2 := hb2';have hgr : ∀ b, b ∈ [b2] -> b ≠ g := fun b hb => by rw [List.mem_singleton.1 hb]; exact hgb2
  have hset0 : (D k).set k false = D k := by
   apply List.ext_getElem?;intro n
   by_cases e : k = n
   ·subst e
    rw [List.getElem?_set_self (by rw [hdl]; exact hlt), hdg k hlt];simp
   ·rw [List.getElem?_set_ne e]
  have hsl : ∀ b, ((D k).set k b).length = M := fun b => by rw [List.length_set, hdl]
  have hsg : ∀ b, ((D k).set k b)[k]? = some b := fun b => List.getElem?_set_self (by rw [hdl]; exact hlt);have hss : ∀ b c, ((D k).set k b).set k c = (D k).set k c := fun b c => by rw [List.set_set]
  refine LoopI.invC (α := Nat × World) (fun y => [(9, .val (.int .i64 y.1))]) (fun y => y.2) (fun y => y.1 <= l.length /\ Below w.heap.size w y.2 /\ BRow y.2 g ((D k).set k ((Rg.point k long).2 && (l.take y.1).any fun z => (Zo.has z (Rg.pt k long)).1))) (fun y => l.length - y.1) ?_ ?_
  ·intro w7 h7
   refine ⟨(0, w7), Cov.au rfl rfl rfl rfl rfl, rfl, Nat.zero_le _, h7.below, ?_⟩;simp only [List.take_zero, List.any_nil, Bool.and_false];rw [hset0];exact hR6.at h7 (by intro q; have := List.mem_singleton.1 q; exact hgb2 this.symm)
  rintro ⟨i, U⟩ ⟨hi, hU, hRi⟩;simp only at hi hU hRi;have exit : ((Rg.point k long).2 && (l.take i).any fun z => (Zo.has z (Rg.pt k long)).1) = Rg.hit l long k -> ∀ {K : Prop}, (BRow U g (D (k + 1)) -> K) -> K := fun h K hK => hK (by rw [hes, <- h]; exact hRi);generalize hacc : ((Rg.point k long).2 && (l.take i).any fun z => (Zo.has z (Rg.pt k long)).1) = acc at *;refine Branch.mk (fun c1 => ?_) (fun c1 => ?_)
  ·have hiN : i < l.length := by have := of_decide_eq_true c1; simp only at this; omega
   refine Branch.mk (fun c2 => ?_) (fun c2 => ?_)
   ·have hg1 := hsg acc
    have hSr := hRi.sl (c := cb') (by rw [hsl]; exact hcb1) hcb2;rw [hsl] at hSr;refine hSr.idx hg1 fun ad had => ?_;refine hSr.ldv hg1 rfl had (Below.refl _ _) (by simp) ?_;refine Branch.mk (fun c3 => ?_) (fun c3 => ?_)
    ·have hz1 := List.getElem?_eq_getElem (l := l) (i := i) hiN
     have hts : l.take (i + 1) = l.take i ++ [l[i]'hiN] := by rw [List.take_add_one, hz1]; rfl
     have hzm := hz _ (List.getElem_mem hiN);generalize l[i]'hiN = z at hz1 hts hzm;refine DrawI.wr (.tk 0 (.tk 1 (.tk 2 (.tk 3 (.tk 4 (.tk 5 (.tk 6 (.ev 7 (.tk 8 (.ev 9 .done)))))))))) [] [g] (by kernel_rfl) rfl (fun b hb h => hgr b hb (by simpa using h)) fun w7 h7 => ?_;have hacc0 : acc = false := by simpa using c3
     have hU7 : Below w.heap.size w w7 := h7.below;have hR7 := hRi.at h7 (by simp);refine hS.idx hz1 fun ad had => ?_;refine hS.ld hz1 had hU7 (by simpa using hgw) ?_;apply CallI.use1
     focus (exact fun w8 h8 => rinside_any z hzm (Rg.pt k long) hpi hpt hpu w8)
     intro w8 v8 h8 hB8;rw [<- Rg.has_inside hzm hpt hpu];have hR8 := (hR7.at h8 (by simp)).below hB8;refine IdxI.mk ⟨_, ⟨rfl, by omega, by omega⟩, ?_⟩;refine StoreI.mk fun w10 h10 => ?_;have r10 := hR8.at h10 (by simp);rw [show ((⟨g, 0, none⟩ : Addr).add ((k : Int).toNat * 1)) = ⟨g, k, none⟩ by simp [addr_addL]];refine ⟨⟨⟨_, r10.cell hg1⟩, r10.frozen _⟩, Zo.kpD_set hgw hgr (by simp [locs]), ?_⟩;have hnew : ((Rg.point k long).2 && (l.take (i + 1)).any fun z => (Zo.has z (Rg.pt k long)).1) = (Zo.has z (Rg.pt k long)).1 := by
      rw [hts, List.any_append];rw [hacc0, c2, Bool.true_and] at hacc;rw [hacc, c2]; simp
     have r11 := r10.set (k := k) (by rw [hsl]; exact hlt) (Zo.has z (Rg.pt k long)).1;rw [hss] at r11;have B11 : Below w.heap.size w (w10.setCell ⟨g, k, none⟩ (.bool (Zo.has z (Rg.pt k long)).1)) := h10.below.setCell (p := ⟨g, k, none⟩) hgw _;generalize w10.setCell ⟨g, k, none⟩ (.bool (Zo.has z (Rg.pt k long)).1) = w11 at r11 B11;rw [<- hnew] at r11;exact Need.ok (EndI.mk fun w12 h12 => ⟨(i + 1, w12), Cov.au rfl rfl rfl rfl rfl, rfl, ⟨hiN, h12.below, r11.at h12 (by simp)⟩, by simp only; omega⟩)
    ·have hacc1 : acc = true := by simpa using c3
     refine exit (by
      rw [hacc1];rw [hacc1] at hacc;simp only [Bool.and_eq_true] at hacc;obtain ⟨z, h1, h2⟩ := List.any_eq_true.1 hacc.2;unfold Rg.hit;rw [c2, Bool.true_and];exact (List.any_eq_true.2 ⟨z, List.mem_of_mem_take h1, h2⟩).symm) fun hR9 => ?_
     exact Need.ok (EndI.mk fun w9 h9 => ⟨(k + 1, w9), Cov.au rfl rfl rfl rfl rfl, rfl, ⟨hlt, h9.below, hR9.at h9 (by simp)⟩, by simp only; omega⟩)
   ·refine exit (by rw [<- hacc, Rg.hit, c2]; rfl) fun hR9 => ?_
    exact Need.ok (EndI.mk fun w9 h9 => ⟨(k + 1, w9), Cov.au rfl rfl rfl rfl rfl, rfl, ⟨hlt, h9.below, hR9.at h9 (by simp)⟩, by simp only; omega⟩)
  ·have hge : i = l.length := by have := of_decide_eq_false c1; simp only at this; omega
   refine exit (by rw [<- hacc, Rg.hit, hge, List.take_length]) fun hR9 => ?_;exact Need.ok (EndI.mk fun w9 h9 => ⟨(k + 1, w9), Cov.au rfl rfl rfl rfl rfl, rfl, ⟨hlt, h9.below, hR9.at h9 (by simp)⟩, by simp only; omega⟩)
 ·have hge : k = M := by have := of_decide_eq_false hb; simp only at this; omega
  subst hge;have hSl := hRk.sl (c := cb') (by rw [hdl]; exact hcb1) hcb2;have cP := rpick14_any (D k) (by rw [hdl]; omega) (some ⟨g, 0, none⟩) cb';rw [hdl] at cP hSl;apply CallI.use
  focus (exact fun w6 h6 => cP w6 (hSl.go (at_belowM h6 (by simp)) h6.size))
  rintro v w6 v6 h6 hB6 hO6;obtain ⟨a6, c6, rfl⟩ := hO6.form;exact EndI.mk fun w9 h9 => (hO6.lower h6.below.size).below (at_belowM h9 (by simp))
namespace Rg
def btw (a b : List Int) (long : Int) (x : Int) : Bool := isR long x && (List.range (6 * long + 1).toNat).any fun n => decide (number ⟨(pt x long).t, six n⟩ long ∈ a) && decide (number ⟨six n, (pt x long).u⟩ long ∈ b)
def comp (a b : List Int) (long : Int) : List Int × Int :=
 if fits long = false then ([], 2) else if mayL a long = true /\ mayL b long = true then (up long (btw a b long), 0) else ([], 8)
end Rg
namespace Ky
open Dbm Mi Cv Zs Cmp
theorem tvs_one (a b : Rt) : Dbm.tvs [a, b] 1 = Fr.v a := rfl
theorem tvs_two (a b : Rt) : Dbm.tvs [a, b] 2 = Fr.v b := rfl
theorem pl_nonneg {x : Rat} (h : 0 <= pl x) : 0 <= x := by
 have e := eq_fr x;have f := fr_nonneg x;have h1 : (0 : Int) <= x.floor := by unfold pl at h; split at h <;> omega
 have h2 : (0 : Rat) <= (x.floor : Rat) := by exact_mod_cast h1
 generalize fr x = r at *;generalize (x.floor : Rat) = y at *
 grind
theorem pl_le {x : Rat} {L : Int} (h : pl x <= 2 * L) : x <= (L : Rat) := by
 have e := eq_fr x;have f := fr_lt x;unfold pl at h;split at h
 ·rename_i hz
  have h1 : x.floor <= L := by omega
  have h2 : (x.floor : Rat) <= (L : Rat) := by exact_mod_cast h1
  rw [hz] at e
  grind
 ·have h1 : x.floor + 1 <= L := by omega
  have h2 : ((x.floor + 1 : Int) : Rat) <= (L : Rat) := by exact_mod_cast h1
  rw [Rat.intCast_add, show ((1 : Int) : Rat) = 1 from rfl] at h2;generalize fr x = r at *;generalize (x.floor : Rat) = y at *
  grind
theorem reg_pt {long n : Int} (hl : 1 <= long /\ long <= 16) (h : n ∈ regs long) : (Rg.pt n long).t.ok = true /\ (Rg.pt n long).u.ok = true /\ Rg.number (Rg.pt n long) long = n /\ 0 <= n /\ 0 <= rep n long 1 /\ rep n long 1 < rep n long 2 /\ rep n long 2 <= (long : Rat) := by
 have hR := mem_regs.1 h;obtain ⟨h0, h1⟩ := isR_lt hR;unfold Rg.isR at hR;simp only [Bool.and_eq_true, decide_eq_true_eq] at hR;have hp := hR.2;unfold Rg.point at hp;have hn : Rg.number (Rg.pt n long) long = n := of_decide_eq_true hp;obtain ⟨k1, k2, k3, k4⟩ := Rg.number_back hn h0 hl;obtain ⟨ht, hu, _⟩ := Rg.cmp_lt k1;have hs : Rg.sides long = 2 * long + 1 := rfl;have hk1 := (Rg.cmp_iff ht hu).1 k1;obtain ⟨a1, a2, a3⟩ := v_parts ht;obtain ⟨b1, b2, b3⟩ := v_parts hu;have hlt : Fr.v (Rg.pt n long).t < Fr.v (Rg.pt n long).u := by
  have := (lt_key (Fr.v (Rg.pt n long).t) (Fr.v (Rg.pt n long).u) 0).2 (by
   rw [a1, b1];rcases hk1 with h | ⟨h, h'⟩
   ·exact .inl (by omega)
   ·exact .inr ⟨by omega, (fr_v_lt ht hu).1.2 h'⟩)
  rw [Rat.intCast_zero] at this
  grind
 have hpos : 0 <= Rg.place (Rg.pt n long).t := by rw [k2]; exact Int.ediv_nonneg (Int.ediv_nonneg h0 (by omega)) (by omega)
 have hT : 0 <= Fr.v (Rg.pt n long).t := pl_nonneg (by rw [pl_place ht]; exact hpos);have hub : Rg.place (Rg.pt n long).u < Rg.sides long := by rw [k3]; exact Int.emod_lt_of_pos _ (by omega)
 have hU : Fr.v (Rg.pt n long).u <= (long : Rat) := pl_le (by rw [pl_place hu]; omega);have e1 : rep n long 1 = Fr.v (Rg.pt n long).t := tvs_one _ _;have e2 : rep n long 2 = Fr.v (Rg.pt n long).u := tvs_two _ _;rw [e1, e2];exact ⟨ht, hu, hn, h0, hT, hlt, hU⟩
theorem inL_pts {l : List Zn} (hc : ∀ z, z ∈ l -> Zo.chk z = 0) {long n : Int} (hl : 1 <= long /\ long <= 16) (hn : n ∈ regs long) : Rg.inL l long n = true ↔ Pts l (rep n long) := by
 obtain ⟨ht, hu, _⟩ := reg_pt hl hn;unfold Rg.inL;rw [mem_regs.1 hn, Bool.true_and, List.any_eq_true];constructor
 ·rintro ⟨z, hz, h⟩
  exact ⟨z, hz, (Zo.has_ok (hc z hz) ht hu).2.1 h⟩
 ·rintro ⟨z, hz, h⟩
  exact ⟨z, hz, (Zo.has_ok (hc z hz) ht hu).2.2 h⟩
theorem inL_reg {l : List Zn} {long n : Int} (h : Rg.inL l long n = true) : n ∈ regs long := by
 unfold Rg.inL at h;simp only [Bool.and_eq_true] at h;exact mem_regs.2 h.1
def rl (l : List Zn) (long : Int) : List Int := Rg.up long (Rg.inL l long)
theorem mem_rl {l : List Zn} (hc : ∀ z, z ∈ l -> Zo.chk z = 0) {long n : Int} (hl : 1 <= long /\ long <= 16) : n ∈ rl l long ↔ n ∈ regs long /\ Pts l (rep n long) := by
 unfold rl;rw [Rg.mem_up (fun x h => Rg.inL_in h)];constructor
 ·intro h
  exact ⟨inL_reg h, (inL_pts hc hl (inL_reg h)).1 h⟩
 ·rintro ⟨h1, h2⟩
  exact (inL_pts hc hl h1).2 h2
theorem rl_rising (l : List Zn) (long : Int) : (rl l long).Pairwise fun x y => x < y := Rg.up_rising _ _
theorem rising_eq : ∀ {l m : List Int}, l.Pairwise (fun x y => x < y) -> m.Pairwise (fun x y => x < y) -> (∀ x, x ∈ l ↔ x ∈ m) -> l = m
 | [], [], _, _, _ => rfl
 | [], y :: m, _, _, h => by have := (h y).2 (by simp); simp at this
 | x :: l, [], _, _, h => by have := (h x).1 (by simp); simp at this
 | x :: l, y :: m, hl, hm, h => by
   rw [List.pairwise_cons] at hl hm;have hxy : x = y := by
    have h1 := (h x).1 (by simp);have h2 := (h y).2 (by simp);rcases List.mem_cons.1 h1 with e | h1
    ·exact e
    ·rcases List.mem_cons.1 h2 with e | h2
     ·exact e.symm
     ·have := hl.1 y h2; have := hm.1 x h1; omega
   subst hxy
   congr 1
   refine rising_eq hl.2 hm.2 fun z => ?_;constructor
   ·intro hz
    rcases List.mem_cons.1 ((h z).1 (by simp [hz])) with e | h1
    ·have := hl.1 z hz; omega
    ·exact h1
   ·intro hz
    rcases List.mem_cons.1 ((h z).2 (by simp [hz])) with e | h1
    ·have := hm.1 z hz; omega
    ·exact h1
end Ky
namespace Ky
open Dbm Mi Cv Zs Cmp
def Ah (l : List Zn) : Prop := ∀ z, z ∈ l -> Zo.chk z = 0 /\ z.f <= 0
theorem Ah.chk {l : List Zn} (h : Ah l) : ∀ z, z ∈ l -> Zo.chk z = 0 := fun z hz => (h z hz).1
end Ky
namespace Rg
end Rg
namespace Rg
end Rg
namespace Rg
def inSp (s : Sp) (a : Rt) : Bool := (Fr.keeps ⟨0, 1⟩ a (be s)).1 && (Fr.keeps a ⟨0, 1⟩ (ab s)).1
end Rg
namespace Rg
def gap (n long : Int) : Rt := (Fr.add (pt n long).u ⟨0 - (pt n long).t.num, (pt n long).t.den⟩).1
def spF (s : Sp) (long : Int) (x : Int) : Bool := inSp s (gap x long)
def within (a : List Int) (s : Sp) (long : Int) : List Int × Int :=
 if fits long = false then ([], 2) else if mayL a long = true /\ Wn.spMay s = true then (a.filter (spF s long), 0) else ([], 8)
end Rg
namespace Rg
end Rg
namespace Rg
end Rg
namespace Rg
open Dbm Fr
end Rg
namespace Rg
def orI : List Int -> List Int -> List Int
 | [], b => b
 | a, [] => a
 | x :: a, y :: b => if x < y then x :: orI a (y :: b) else if x = y then y :: orI a b else y :: orI (x :: a) b
termination_by a b => a.length + b.length
theorem orI_nil (b : List Int) : orI [] b = b := by unfold orI; rfl
theorem orI_end : ∀ (a : List Int), orI a [] = a
 | [] => by unfold orI; rfl
 | x :: a => by unfold orI; rfl
theorem orI_cons (x y : Int) (a b : List Int) : orI (x :: a) (y :: b) = if x < y then x :: orI a (y :: b) else if x = y then y :: orI a b else y :: orI (x :: a) b := by
 conv => lhs; unfold orI
theorem mem_orI : ∀ (n : Nat) (a b : List Int), a.length + b.length <= n -> ∀ z, z ∈ orI a b ↔ z ∈ a \/ z ∈ b
 | n, [], b, h, z => by rw [orI_nil]; simp
 | n, x :: a, [], h, z => by rw [orI_end]; simp
 | 0, x :: a, y :: b, h, z => by simp at h
 | n + 1, x :: a, y :: b, h, z => by
   rw [orI_cons];simp only [List.length_cons] at h;split
   ·have := mem_orI n a (y :: b) (by simp; omega) z
    simp only [List.mem_cons] at this ⊢; rw [this]; constructor
    ·rintro (h | h | h) <;> simp [h]
    ·rintro ((h | h) | h) <;> simp [h]
   split
   ·rename_i _ he
    subst he;have := mem_orI n a b (by omega) z;simp only [List.mem_cons] at this ⊢; rw [this]; constructor
    ·rintro (h | h | h) <;> simp [h]
    ·rintro ((h | h) | (h | h)) <;> simp [h]
   ·have := mem_orI n (x :: a) b (by simp; omega) z
    simp only [List.mem_cons] at this ⊢; rw [this]; constructor
    ·rintro (h | (h | h) | h) <;> simp [h]
    ·rintro ((h | h) | (h | h)) <;> simp [h]
theorem orI_rising : ∀ (n : Nat) (a b : List Int), a.length + b.length <= n -> a.Pairwise (fun x y => x < y) -> b.Pairwise (fun x y => x < y) -> (orI a b).Pairwise fun x y => x < y
 | n, [], b, h, ha, hb => by rw [orI_nil]; exact hb
 | n, x :: a, [], h, ha, hb => by rw [orI_end]; exact ha
 | 0, x :: a, y :: b, h, ha, hb => by simp at h
 | n + 1, x :: a, y :: b, h, ha, hb => by
   rw [orI_cons];simp only [List.length_cons] at h;have ha' := List.pairwise_cons.1 ha;have hb' := List.pairwise_cons.1 hb;split
   ·rename_i hxy
    refine List.pairwise_cons.2 ⟨fun z hz => ?_, orI_rising n a (y :: b) (by simp; omega) ha'.2 hb⟩;rcases (mem_orI n a (y :: b) (by simp; omega) z).1 hz with h | h
    ·exact ha'.1 z h
    ·rcases List.mem_cons.1 h with rfl | h
     ·exact hxy
     ·have := hb'.1 z h; omega
   split
   ·rename_i _ he
    subst he;refine List.pairwise_cons.2 ⟨fun z hz => ?_, orI_rising n a b (by omega) ha'.2 hb'.2⟩;rcases (mem_orI n a b (by omega) z).1 hz with h | h
    ·exact ha'.1 z h
    ·exact hb'.1 z h
   ·rename_i h1 h2
    refine List.pairwise_cons.2 ⟨fun z hz => ?_, orI_rising n (x :: a) b (by simp; omega) ha hb'.2⟩;rcases (mem_orI n (x :: a) b (by simp; omega) z).1 hz with h | h
    ·rcases List.mem_cons.1 h with rfl | h
     ·omega
     ·have := ha'.1 z h; omega
    ·exact hb'.1 z h
def andI : List Int -> List Int -> List Int
 | [], _ => []
 | x :: a, b => if (b.dropWhile fun y => decide (y < x)).head? = some x then x :: andI a (b.dropWhile fun y => decide (y < x)) else andI a (b.dropWhile fun y => decide (y < x))
theorem andI_cons (x : Int) (a b : List Int) : andI (x :: a) b = if (b.dropWhile fun y => decide (y < x)).head? = some x then x :: andI a (b.dropWhile fun y => decide (y < x)) else andI a (b.dropWhile fun y => decide (y < x)) := rfl
theorem drop_while_mem {x z : Int} : ∀ {b : List Int}, b.Pairwise (fun x y => x < y) -> x <= z -> (z ∈ b.dropWhile (fun y => decide (y < x)) ↔ z ∈ b)
 | [], _, _ => by simp
 | y :: b, hb, hz => by
   have hb' := List.pairwise_cons.1 hb;rw [List.dropWhile_cons];split
   ·rename_i h
    rw [drop_while_mem hb'.2 hz];have := of_decide_eq_true h;simp only [List.mem_cons];constructor
    ·exact fun h => .inr h
    ·rintro (h | h)
     ·omega
     ·exact h
   ·rfl
theorem drop_while_rising (x : Int) {b : List Int} (hb : b.Pairwise fun x y => x < y) : (b.dropWhile fun y => decide (y < x)).Pairwise fun x y => x < y := hb.sublist (List.dropWhile_sublist _)
theorem drop_while_head {x : Int} : ∀ {b : List Int}, b.Pairwise (fun x y => x < y) -> ((b.dropWhile fun y => decide (y < x)).head? = some x ↔ x ∈ b)
 | [], _ => by simp
 | y :: b, hb => by
   have hb' := List.pairwise_cons.1 hb;rw [List.dropWhile_cons];split
   ·rename_i h
    have := of_decide_eq_true h;rw [drop_while_head hb'.2];simp only [List.mem_cons];constructor
    ·exact fun h => .inr h
    ·rintro (h | h)
     ·omega
     ·exact h
   ·rename_i h
    have h : ¬ y < x := by simpa using h
    simp only [List.head?_cons, Option.some.injEq, List.mem_cons];constructor
    ·intro e; exact .inl e.symm
    ·rintro (e | e)
     ·exact e.symm
     ·have := hb'.1 x e; omega
theorem mem_andI : ∀ (a b : List Int), a.Pairwise (fun x y => x < y) -> b.Pairwise (fun x y => x < y) -> ∀ z, z ∈ andI a b ↔ z ∈ a /\ z ∈ b
 | [], b, _, _, z => by simp [andI]
 | x :: a, b, ha, hb, z => by
   have ha' := List.pairwise_cons.1 ha;rw [andI_cons];have ih := mem_andI a (b.dropWhile fun y => decide (y < x)) ha'.2 (drop_while_rising x hb) z;have hh := drop_while_head (x := x) hb;split
   ·rename_i h
    have hx := hh.1 h;simp only [List.mem_cons];rw [ih];constructor
    ·rintro (rfl | ⟨h1, h2⟩)
     ·exact ⟨.inl rfl, hx⟩
     ·exact ⟨.inr h1, (List.dropWhile_sublist _).mem h2⟩
    ·rintro ⟨rfl | h1, h2⟩
     ·exact .inl rfl
     ·exact .inr ⟨h1, (drop_while_mem hb (by have := ha'.1 z h1; omega)).2 h2⟩
   ·rename_i h
    have hx : x ∉ b := fun k => h (hh.2 k);rw [ih];simp only [List.mem_cons];constructor
    ·rintro ⟨h1, h2⟩
     exact ⟨.inr h1, (List.dropWhile_sublist _).mem h2⟩
    ·rintro ⟨rfl | h1, h2⟩
     ·exact absurd h2 hx
     ·exact ⟨h1, (drop_while_mem hb (by have := ha'.1 z h1; omega)).2 h2⟩
theorem andI_sub : ∀ (a b : List Int), (andI a b).Sublist a
 | [], b => by simp [andI]
 | x :: a, b => by
   rw [andI_cons];split
   ·exact (andI_sub a _).cons_cons x
   ·exact (andI_sub a _).cons x
end Rg
set_option maxHeartbeats 2000000 in
theorem ror14_any (a b : List Int) (ha : a.length <= 400000) (hb : b.length <= 400000) (pa pb : Option Addr) (ca cb : Nat) (w : World) (hS : Sl w.heap.size w (.slice pa a.length ca) a) (hT : Sl w.heap.size w (.slice pb b.length cb) b) :
 Calls Tryz.prog 21 #[.slice pa a.length ca, .slice pb b.length cb] w (Ret w fun v w' => Own TKi w.heap.size w' v (Rg.orI a b)) := by
 refine fun_ret 0 w Tryz.func21 (args := [.val (.slice pa a.length ca), .val (.slice pb b.length cb)]) rfl rfl ?_;have st := Stay.first (w := w)
 refine LoopI.invC (α := Nat × Nat × World × Value × List Int) (fun y => [(6, .val (.int .i64 y.1)), (7, .val (.int .i64 y.2.1)), (5, .val y.2.2.2.1)]) (fun y => y.2.2.1) (fun y => y.1 <= a.length /\ y.2.1 <= b.length /\ Below w.heap.size w y.2.2.1 /\ y.2.2.2.2.length <= y.1 + y.2.1 /\ y.2.2.2.2 ++ Rg.orI (a.drop y.1) (b.drop y.2.1) = Rg.orI a b /\ ∃ base, Lp ⟨w, w.heap.size, Nat.le_refl _⟩ [w] [] TKi base y.2.2.1 y.2.2.2.1 y.2.2.2.2) (fun y => a.length + b.length - y.1 - y.2.1) ?_ ?_
 ·intro w1 h1
  exact ⟨(0, 0, w1, .slice none 0 0, []), Cov.au rfl rfl rfl rfl rfl, rfl, Nat.zero_le _, Nat.zero_le _, h1.below, by simp, rfl, _, Lp.start st h1 (by simp)⟩
 rintro ⟨i, k, V, ov, out⟩ ⟨hi, hk, hV, hle, hall, base, lp⟩;simp only at hi hk hV hle hall lp;obtain ⟨ao, co, rfl⟩ := lp.own.form;have lpA : ∀ {L : List Nat} {hp : List LB} {w1 : World}, At ⟨w, w.heap.size, Nat.le_refl _⟩ hp [] [] V w1 -> Lp ⟨w, w.heap.size, Nat.le_refl _⟩ [w] [] TKi base w1 (.slice ao out.length co) out := fun h => lp.at h (by simp);have dA : ∀ {j : Nat} {x : Int}, a[j]? = some x -> a.drop j = x :: a.drop (j + 1) := fun {j x} h => by
  have hj := (List.getElem?_eq_some_iff.1 h).1;rw [List.drop_eq_getElem_cons hj]; congr 1; exact (List.getElem?_eq_some_iff.1 h).2
 have dB : ∀ {j : Nat} {x : Int}, b[j]? = some x -> b.drop j = x :: b.drop (j + 1) := fun {j x} h => by
  have hj := (List.getElem?_eq_some_iff.1 h).1;rw [List.drop_eq_getElem_cons hj]; congr 1; exact (List.getElem?_eq_some_iff.1 h).2
 have lpB : ∀ {w1 : World}, Below V.heap.size V w1 -> Lp ⟨w, w.heap.size, Nat.le_refl _⟩ [w] [] TKi base w1 (.slice ao out.length co) out := fun h => lp.go h
 by_cases hA : i < a.length
 case pos =>
  have hx := List.getElem?_eq_getElem (l := a) (i := i) hA;generalize a[i] = x at hx;refine Branch.yes (by simp only [decide_eq_true_eq]; omega) ?_
  by_cases hB : k < b.length
  case neg =>
   have hkb : k = b.length := by omega
   have hdone : out ++ [x] ++ Rg.orI (a.drop (i + 1)) (b.drop k) = Rg.orI a b := by
    rw [<- hall, dA hx, hkb, List.drop_length, Rg.orI_end, Rg.orI_end, List.append_assoc]; rfl
   refine DrawI.go (.tk 0 (.tk 1 (.tk 2 (.tk 3 (.tk 4 (.tk 5 (.tk 6 (.tk 7 (.tk 8 (.tk 9 (.tk 10 (.tk 11 (.tk 12 (.tk 13 (.tk 14 (.tk 15 (.tk 16 (.tk 17 (.tk 18 (.tk 19 (.tk 20 .done))))))))))))))))))))) (by kernel_rfl) fun w3 h3 => ?_;have gw3 : Below V.heap.size V w3 := h3.go;have Sw3 := hS.go (hV.trans (gw3.mono hV.size)) (hV.trans (gw3.mono hV.size)).size;have Tw3 := hT.go (hV.trans (gw3.mono hV.size)) (hV.trans (gw3.mono hV.size)).size;refine Branch.yes (by simp only [decide_eq_true_eq]; omega) ?_;refine Sw3.idx hx fun ad9 had9 => ?_;refine Sw3.ld1 hx had9 (Below.refl _ _) (by simp) ?_;have lp3 : Lp ⟨w, w.heap.size, Nat.le_refl _⟩ [w] [] TKi base w3 (.slice ao out.length co) out := lpB gw3;have gV := gw3.size;refine NewI.mk fun b1 hb1 => ?_;have hb1' : w3.heap.size <= b1 := hb1;refine GenN.appL (α := Int) elIn lp3 (fun y hy => .inr (by simp at hy; omega)) (by simp) [x] (fun w8 h8 => src_own h8 0 rfl rfl rfl rfl) (by simp; omega) (by decide) fun a' c' w8 w9 h8 lp9 hsz hbl => ?_;refine Need.ok (EndI.mk fun w10 h10 => ⟨(i + 1, k, w10, .slice a' (out ++ [x]).length c', out ++ [x]), Cov.au rfl rfl rfl rfl rfl, rfl, ⟨by simp only; omega, by simp only; omega, h10.below, by simp only [List.length_append, List.length_cons, List.length_nil]; omega, hdone, base, lp9.at h10 (by simp)⟩, by simp only; omega⟩)
  case pos =>
   have hy := List.getElem?_eq_getElem (l := b) (i := k) hB;generalize b[k] = y at hy;rw [dA hx, dB hy, Rg.orI_cons, <- dB hy, <- dA hx] at hall;refine DrawI.go (.tk 0 (.tk 1 (.tk 2 (.tk 3 (.tk 4 (.tk 5 (.tk 6 (.tk 7 (.tk 8 (.tk 9 (.tk 10 (.tk 11 (.tk 12 (.tk 13 (.tk 14 (.tk 15 (.tk 16 (.tk 17 (.tk 18 (.tk 19 (.tk 20 .done))))))))))))))))))))) (by kernel_rfl) fun w3 h3 => ?_;have gw3 : Below V.heap.size V w3 := h3.go;have Sw3 := hS.go (hV.trans (gw3.mono hV.size)) (hV.trans (gw3.mono hV.size)).size;have Tw3 := hT.go (hV.trans (gw3.mono hV.size)) (hV.trans (gw3.mono hV.size)).size;refine Branch.no (by simp only [decide_eq_false_iff_not]; omega) ?_;refine Branch.yes (by simp only [decide_eq_true_eq]; omega) ?_;refine Sw3.idx hx fun ad1 had1 => ?_;refine Sw3.ld1 hx had1 (Below.refl _ _) (by simp) ?_;refine Tw3.idx hy fun ad2 had2 => ?_;refine Tw3.ld1 hy had2 (Below.refl _ _) (by simp) ?_;refine Branch.mk (fun z1 => ?_) (fun z1 => ?_)
   ·have hxy : x < y := by simpa using z1
    rw [if_pos hxy] at hall;have hdone : out ++ [x] ++ Rg.orI (a.drop (i + 1)) (b.drop k) = Rg.orI a b := by
     rw [<- hall, List.append_assoc]; rfl
    refine Sw3.idx hx fun ad9 had9 => ?_;refine Sw3.ld1 hx had9 (Below.refl _ _) (by simp) ?_;have lp3 : Lp ⟨w, w.heap.size, Nat.le_refl _⟩ [w] [] TKi base w3 (.slice ao out.length co) out := lpB gw3;have gV := gw3.size;refine NewI.mk fun b1 hb1 => ?_;have hb1' : w3.heap.size <= b1 := hb1;refine GenN.appL (α := Int) elIn lp3 (fun y hy => .inr (by simp at hy; omega)) (by simp) [x] (fun w8 h8 => src_own h8 0 rfl rfl rfl rfl) (by simp; omega) (by decide) fun a' c' w8 w9 h8 lp9 hsz hbl => ?_;refine Need.ok (EndI.mk fun w10 h10 => ⟨(i + 1, k, w10, .slice a' (out ++ [x]).length c', out ++ [x]), Cov.au rfl rfl rfl rfl rfl, rfl, ⟨by simp only; omega, by simp only; omega, h10.below, by simp only [List.length_append, List.length_cons, List.length_nil]; omega, hdone, base, lp9.at h10 (by simp)⟩, by simp only; omega⟩)
   have hxy : ¬ x < y := by simpa using z1
   rw [if_neg hxy] at hall;refine DrawI.go (.tk 0 (.tk 1 (.tk 2 (.tk 3 (.tk 4 (.tk 5 (.tk 6 (.tk 7 (.tk 8 (.tk 9 (.tk 10 (.tk 11 (.tk 12 (.tk 13 (.tk 14 .done))))))))))))))) (by kernel_rfl) fun w4 h4 => ?_;have gw4 : Below V.heap.size V w4 := gw3.trans (h4.go.mono gw3.size);have Sw4 := hS.go (hV.trans (gw4.mono hV.size)) (hV.trans (gw4.mono hV.size)).size;have Tw4 := hT.go (hV.trans (gw4.mono hV.size)) (hV.trans (gw4.mono hV.size)).size;refine Branch.yes (by simp only [decide_eq_true_eq]; omega) ?_;refine Sw4.idx hx fun ad3 had3 => ?_;refine Sw4.ld1 hx had3 (Below.refl _ _) (by simp) ?_;refine Tw4.idx hy fun ad4 had4 => ?_;refine Tw4.ld1 hy had4 (Below.refl _ _) (by simp) ?_;refine Branch.mk (fun z2 => ?_) (fun z2 => ?_)
   ·have he : x = y := by simpa using z2
    rw [if_pos he] at hall;have hdone : out ++ [y] ++ Rg.orI (a.drop (i + 1)) (b.drop (k + 1)) = Rg.orI a b := by
     rw [<- hall, List.append_assoc]; rfl
    refine Need.ok ?_;refine Tw4.idx hy fun ad9 had9 => ?_;refine Tw4.ld1 hy had9 (Below.refl _ _) (by simp) ?_;have lp3 : Lp ⟨w, w.heap.size, Nat.le_refl _⟩ [w] [] TKi base w4 (.slice ao out.length co) out := lpB gw4;have gV := gw4.size;refine NewI.mk fun b1 hb1 => ?_;have hb1' : w4.heap.size <= b1 := hb1;refine GenN.appL (α := Int) elIn lp3 (fun y hy => .inr (by simp at hy; omega)) (by simp) [y] (fun w8 h8 => src_own h8 0 rfl rfl rfl rfl) (by simp; omega) (by decide) fun a' c' w8 w9 h8 lp9 hsz hbl => ?_;refine Need.ok (EndI.mk fun w10 h10 => ⟨(i + 1, k + 1, w10, .slice a' (out ++ [y]).length c', out ++ [y]), Cov.au rfl rfl rfl rfl rfl, rfl, ⟨by simp only; omega, by simp only; omega, h10.below, by simp only [List.length_append, List.length_cons, List.length_nil]; omega, hdone, base, lp9.at h10 (by simp)⟩, by simp only; omega⟩)
   ·have he : ¬ x = y := by simpa using z2
    rw [if_neg he] at hall;have hdone : out ++ [y] ++ Rg.orI (a.drop i) (b.drop (k + 1)) = Rg.orI a b := by
     rw [<- hall, List.append_assoc]; rfl
    refine Tw4.idx hy fun ad9 had9 => ?_;refine Tw4.ld1 hy had9 (Below.refl _ _) (by simp) ?_;have lp3 : Lp ⟨w, w.heap.size, Nat.le_refl _⟩ [w] [] TKi base w4 (.slice ao out.length co) out := lpB gw4;have gV := gw4.size;refine NewI.mk fun b1 hb1 => ?_;have hb1' : w4.heap.size <= b1 := hb1;refine GenN.appL (α := Int) elIn lp3 (fun y hy => .inr (by simp at hy; omega)) (by simp) [y] (fun w8 h8 => src_own h8 0 rfl rfl rfl rfl) (by simp; omega) (by decide) fun a' c' w8 w9 h8 lp9 hsz hbl => ?_;refine Need.ok (EndI.mk fun w10 h10 => ⟨(i, k + 1, w10, .slice a' (out ++ [y]).length c', out ++ [y]), Cov.au rfl rfl rfl rfl rfl, rfl, ⟨by simp only; omega, by simp only; omega, h10.below, by simp only [List.length_append, List.length_cons, List.length_nil]; omega, hdone, base, lp9.at h10 (by simp)⟩, by simp only; omega⟩)
 case neg =>
  have hia : i = a.length := by omega
  refine Branch.no (by simp only [decide_eq_false_iff_not]; omega) ?_;refine Branch.mk (fun z0 => ?_) (fun z0 => ?_)
  ·have hB : k < b.length := by have := of_decide_eq_true z0; simp only at this; omega
   have hy := List.getElem?_eq_getElem (l := b) (i := k) hB;generalize b[k] = y at hy;have hdone : out ++ [y] ++ Rg.orI (a.drop i) (b.drop (k + 1)) = Rg.orI a b := by
    rw [<- hall, dB hy, hia, List.drop_length, Rg.orI_nil, Rg.orI_nil, List.append_assoc]; rfl
   refine DrawI.go (.tk 0 (.tk 1 (.tk 2 (.tk 3 (.tk 4 (.tk 5 (.tk 6 (.tk 7 (.tk 8 (.tk 9 (.tk 10 (.tk 11 (.tk 12 (.tk 13 (.tk 14 (.tk 15 (.tk 16 (.tk 17 (.tk 18 (.tk 19 (.tk 20 .done))))))))))))))))))))) (by kernel_rfl) fun w3 h3 => ?_;have gw3 : Below V.heap.size V w3 := h3.go;have Sw3 := hS.go (hV.trans (gw3.mono hV.size)) (hV.trans (gw3.mono hV.size)).size;have Tw3 := hT.go (hV.trans (gw3.mono hV.size)) (hV.trans (gw3.mono hV.size)).size;refine Branch.no (by simp only [decide_eq_false_iff_not]; omega) ?_;refine Branch.no (by simp only [decide_eq_false_iff_not]; omega) ?_;refine DrawI.go (.tk 0 (.tk 1 (.tk 2 (.tk 3 (.tk 4 (.tk 5 (.tk 6 (.tk 7 (.tk 8 (.tk 9 (.tk 10 (.tk 11 (.tk 12 (.tk 13 (.tk 14 .done))))))))))))))) (by kernel_rfl) fun w4 h4 => ?_;have gw4 : Below V.heap.size V w4 := gw3.trans (h4.go.mono gw3.size);have Sw4 := hS.go (hV.trans (gw4.mono hV.size)) (hV.trans (gw4.mono hV.size)).size;have Tw4 := hT.go (hV.trans (gw4.mono hV.size)) (hV.trans (gw4.mono hV.size)).size;refine Branch.no (by simp only [decide_eq_false_iff_not]; omega) ?_;refine Tw4.idx hy fun ad9 had9 => ?_;refine Tw4.ld1 hy had9 (Below.refl _ _) (by simp) ?_;have lp3 : Lp ⟨w, w.heap.size, Nat.le_refl _⟩ [w] [] TKi base w4 (.slice ao out.length co) out := lpB gw4;have gV := gw4.size;refine NewI.mk fun b1 hb1 => ?_;have hb1' : w4.heap.size <= b1 := hb1;refine GenN.appL (α := Int) elIn lp3 (fun y hy => .inr (by simp at hy; omega)) (by simp) [y] (fun w8 h8 => src_own h8 0 rfl rfl rfl rfl) (by simp; omega) (by decide) fun a' c' w8 w9 h8 lp9 hsz hbl => ?_;refine Need.ok (EndI.mk fun w10 h10 => ⟨(i, k + 1, w10, .slice a' (out ++ [y]).length c', out ++ [y]), Cov.au rfl rfl rfl rfl rfl, rfl, ⟨by simp only; omega, by simp only; omega, h10.below, by simp only [List.length_append, List.length_cons, List.length_nil]; omega, hdone, base, lp9.at h10 (by simp)⟩, by simp only; omega⟩)
  ·have hkb : k = b.length := by have := of_decide_eq_false z0; simp only at this; omega
   rw [hia, hkb, List.drop_length, List.drop_length, Rg.orI_nil, List.append_nil] at hall;refine EndI.mk fun w10 h10 => ?_;rw [<- hall];exact (lp.at h10 (by simp)).own.lower (lp.anc w (by simp))
namespace Rg
end Rg
set_option maxHeartbeats 2000000 in
theorem rand14_any (a b : List Int) (ha : a.length <= 400000) (hb : b.length <= 400000) (pa pb : Option Addr) (ca cb : Nat) (w : World) (hS : Sl w.heap.size w (.slice pa a.length ca) a) (hT : Sl w.heap.size w (.slice pb b.length cb) b) :
 Calls Tryz.prog 59 #[.slice pa a.length ca, .slice pb b.length cb] w (Ret w fun v w' => Own TKi w.heap.size w' v (Rg.andI a b)) := by
 refine fun_ret 0 w Tryz.func59 (args := [.val (.slice pa a.length ca), .val (.slice pb b.length cb)]) rfl rfl ?_;have st := Stay.first (w := w)
 refine LoopI.invC (α := Nat × Nat × World × Value × List Int) (fun y => [(7, .val (.int .i64 y.1)), (6, .val (.int .i64 y.2.1)), (5, .val y.2.2.2.1)]) (fun y => y.2.2.1) (fun y => y.1 <= a.length /\ y.2.1 <= b.length /\ Below w.heap.size w y.2.2.1 /\ y.2.2.2.2.length <= y.1 /\ y.2.2.2.2 ++ Rg.andI (a.drop y.1) (b.drop y.2.1) = Rg.andI a b /\ ∃ base, Lp ⟨w, w.heap.size, Nat.le_refl _⟩ [w] [] TKi base y.2.2.1 y.2.2.2.1 y.2.2.2.2) (fun y => a.length - y.1) ?_ ?_
 ·intro w1 h1
  exact ⟨(0, 0, w1, .slice none 0 0, []), Cov.au rfl rfl rfl rfl rfl, rfl, Nat.zero_le _, Nat.zero_le _, h1.below, by simp, rfl, _, Lp.start st h1 (by simp)⟩
 rintro ⟨i, k, V, ov, out⟩ ⟨hi, hk, hV, hle, hall, base, lp⟩;simp only at hi hk hV hle hall lp;obtain ⟨ao, co, rfl⟩ := lp.own.form;have lpB : ∀ {w1 : World}, Below V.heap.size V w1 -> Lp ⟨w, w.heap.size, Nat.le_refl _⟩ [w] [] TKi base w1 (.slice ao out.length co) out := fun h => lp.go h;refine Branch.mk (fun z0 => ?_) (fun z0 => ?_)
 case refine_2 =>
  have hia : i = a.length := by have := of_decide_eq_false z0; simp only at this; omega
  rw [hia, List.drop_length] at hall;have hall : out = Rg.andI a b := by rw [<- hall]; simp [Rg.andI]
  refine EndI.mk fun w10 h10 => ?_;rw [<- hall];exact (lp.at h10 (by simp)).own.lower (lp.anc w (by simp))
 have hA : i < a.length := by have := of_decide_eq_true z0; simp only at this; omega
 have hx := List.getElem?_eq_getElem (l := a) (i := i) hA;have dA : a.drop i = a[i] :: a.drop (i + 1) := List.drop_eq_getElem_cons hA;generalize a[i] = x at hx dA;rw [dA, Rg.andI_cons] at hall;refine LoopI.invC (α := Nat × World) (fun y => [(6, .val (.int .i64 y.1))]) (fun y => y.2) (fun y => y.1 <= b.length /\ Below V.heap.size V y.2 /\ (b.drop y.1).dropWhile (fun y => decide (y < x)) = (b.drop k).dropWhile (fun y => decide (y < x))) (fun y => b.length - y.1) ?_ ?_
 ·intro w1 h1
  exact ⟨(k, w1), Cov.au rfl rfl rfl rfl rfl, rfl, hk, h1.go, rfl⟩
 rintro ⟨q, U⟩ ⟨hq, hU, hD⟩;simp only at hq hU hD;refine DrawI.go (.tk 0 (.tk 1 (.tk 2 (.tk 3 (.tk 4 (.tk 5 (.tk 6 (.tk 7 (.tk 8 (.tk 9 (.tk 10 (.tk 11 (.tk 12 (.tk 13 (.tk 14 .done))))))))))))))) (by kernel_rfl) fun w3 h3 => ?_;have g3 : Below V.heap.size V w3 := hU.trans (h3.go.mono hU.size);have S3 := hS.go (hV.trans (g3.mono hV.size)) (hV.trans (g3.mono hV.size)).size;have T3 := hT.go (hV.trans (g3.mono hV.size)) (hV.trans (g3.mono hV.size)).size;refine Branch.mk (fun z1 => ?_) (fun z1 => ?_)
 case refine_2 =>
  have hqb : q = b.length := by have := of_decide_eq_false z1; simp only at this; omega
  rw [hqb, List.drop_length] at hD;rw [<- hD] at hall;have hall : out ++ Rg.andI (a.drop (i + 1)) (b.drop q) = Rg.andI a b := by rw [<- hall, hqb, List.drop_length]; simp
  refine DrawI.go (.tk 0 (.tk 1 (.tk 2 (.tk 3 (.tk 4 (.tk 5 (.tk 6 (.tk 7 (.tk 8 (.tk 9 (.tk 10 (.tk 11 (.tk 12 (.tk 13 (.tk 14 .done))))))))))))))) (by kernel_rfl) fun w4 h4 => ?_;have g4 : Below V.heap.size V w4 := g3.trans (h4.go.mono g3.size);refine Branch.no (by simp only [decide_eq_false_iff_not]; omega) ?_;refine Need.ok (EndI.mk fun w10 h10 => ⟨(i + 1, q, w10, .slice ao out.length co, out), Cov.au rfl rfl rfl rfl rfl, rfl, ⟨by simp only; omega, by simp only; omega, h10.below, by simp only; omega, hall, base, (lpB g4).at h10 (by simp)⟩, by simp only; omega⟩)
 have hB : q < b.length := by have := of_decide_eq_true z1; simp only at this; omega
 have hy := List.getElem?_eq_getElem (l := b) (i := q) hB;have dB : b.drop q = b[q] :: b.drop (q + 1) := List.drop_eq_getElem_cons hB;generalize b[q] = y at hy dB;refine T3.idx hy fun ad2 had2 => ?_;refine T3.ld1 hy had2 (Below.refl _ _) (by simp) ?_;refine S3.idx hx fun ad1 had1 => ?_;refine S3.ld1 hx had1 (Below.refl _ _) (by simp) ?_;refine Branch.mk (fun z2 => ?_) (fun z2 => ?_)
 ·have hyx : y < x := by simpa using z2
  rw [dB, List.dropWhile_cons, if_pos (by simpa using hyx)] at hD;refine Need.ok (EndI.mk fun w10 h10 => ⟨(q + 1, w10), Cov.au rfl rfl rfl rfl rfl, rfl, ⟨by simp only; omega, g3.trans (h10.go.mono g3.size), hD⟩, by simp only; omega⟩)
 have hyx : ¬ y < x := by simpa using z2
 rw [dB, List.dropWhile_cons, if_neg (by simpa using hyx)] at hD;rw [<- hD, List.head?_cons, <- dB] at hall;refine DrawI.go (.tk 0 (.tk 1 (.tk 2 (.tk 3 (.tk 4 (.tk 5 (.tk 6 (.tk 7 (.tk 8 (.tk 9 (.tk 10 (.tk 11 (.tk 12 (.tk 13 (.tk 14 .done))))))))))))))) (by kernel_rfl) fun w4 h4 => ?_;have g4 : Below V.heap.size V w4 := g3.trans (h4.go.mono g3.size);have S4 := hS.go (hV.trans (g4.mono hV.size)) (hV.trans (g4.mono hV.size)).size;have T4 := hT.go (hV.trans (g4.mono hV.size)) (hV.trans (g4.mono hV.size)).size;refine Branch.yes (by simp only [decide_eq_true_eq]; omega) ?_;refine T4.idx hy fun ad3 had3 => ?_;refine T4.ld1 hy had3 (Below.refl _ _) (by simp) ?_;refine S4.idx hx fun ad4 had4 => ?_;refine S4.ld1 hx had4 (Below.refl _ _) (by simp) ?_;refine Branch.mk (fun z3 => ?_) (fun z3 => ?_)
 ·have he : y = x := by simpa using z3
  rw [if_pos (by rw [he])] at hall;have hdone : out ++ [x] ++ Rg.andI (a.drop (i + 1)) (b.drop q) = Rg.andI a b := by rw [<- hall, List.append_assoc]; rfl
  refine S4.idx hx fun ad9 had9 => ?_;refine S4.ld1 hx had9 (Below.refl _ _) (by simp) ?_;have gV := g4.size;refine NewI.mk fun b1 hb1 => ?_;have hb1' : w4.heap.size <= b1 := hb1;refine GenN.appL (α := Int) elIn (lpB g4) (fun y hy => .inr (by simp at hy; omega)) (by simp) [x] (fun w8 h8 => src_own h8 0 rfl rfl rfl rfl) (by simp; omega) (by decide) fun a' c' w8 w9 h8 lp9 hsz hbl => ?_;refine Need.ok (EndI.mk fun w10 h10 => ⟨(i + 1, q, w10, .slice a' (out ++ [x]).length c', out ++ [x]), Cov.au rfl rfl rfl rfl rfl, rfl, ⟨by simp only; omega, by simp only; omega, h10.below, by simp only [List.length_append, List.length_cons, List.length_nil]; omega, hdone, base, lp9.at h10 (by simp)⟩, by simp only; omega⟩)
 ·have he : ¬ y = x := by simpa using z3
  rw [if_neg (fun h => he (by injection h))] at hall;refine Need.ok (EndI.mk fun w10 h10 => ⟨(i + 1, q, w10, .slice ao out.length co, out), Cov.au rfl rfl rfl rfl rfl, rfl, ⟨by simp only; omega, by simp only; omega, h10.below, by simp only; omega, hall, base, (lpB g4).at h10 (by simp)⟩, by simp only; omega⟩)
namespace Ky
open Dbm Mi Cv Zs
theorem or_rl {a b : List Zn} (h : (Zs.or a b).2 = 0) {long : Int} (hl : 1 <= long /\ long <= 16) : Rg.orI (rl a long) (rl b long) = rl (Zs.or a b).1 long := by
 obtain ⟨h0, h1, h2⟩ := or_ok h;obtain ⟨c1, c2⟩ := checked2 h0;refine rising_eq (Rg.orI_rising _ _ _ (Nat.le_refl _) (rl_rising _ _) (rl_rising _ _)) (rl_rising _ _) fun x => ?_;rw [Rg.mem_orI _ _ _ (Nat.le_refl _), mem_rl c1 hl, mem_rl c2 hl, mem_rl h1.2.1 hl, h2];constructor
 ·rintro (⟨p, q⟩ | ⟨p, q⟩)
  ·exact ⟨p, .inl q⟩
  ·exact ⟨p, .inr q⟩
 ·rintro ⟨p, q | q⟩
  ·exact .inl ⟨p, q⟩
  ·exact .inr ⟨p, q⟩
theorem and_rl {a b : List Zn} (h : (Zs.and a b).2 = 0) {long : Int} (hl : 1 <= long /\ long <= 16) : Rg.andI (rl a long) (rl b long) = rl (Zs.and a b).1 long := by
 obtain ⟨h0, h1, h2⟩ := and_ok h;obtain ⟨c1, c2⟩ := checked2 h0;refine rising_eq ((rl_rising a long).sublist (Rg.andI_sub _ _)) (rl_rising _ _) fun x => ?_;rw [Rg.mem_andI _ _ (rl_rising _ _) (rl_rising _ _), mem_rl c1 hl, mem_rl c2 hl, mem_rl h1.2.1 hl, h2];constructor
 ·rintro ⟨⟨p, q⟩, _, r⟩
  exact ⟨p, q, r⟩
 ·rintro ⟨p, q, r⟩
  exact ⟨⟨p, q⟩, p, r⟩
end Ky
namespace Cl
open Cv Zs Ky Cmp
def cmpV (a b : List Int) (long : Int) : List Int := Rg.up long fun x => (Rg.point x long).2 && Rg.btwB (Rg.mks a (Rg.many long).1.toNat a.length) (Rg.mks b (Rg.many long).1.toNat b.length) (Rg.pt x long) long (6 * long + 1).toNat
def nextV (p : List Int) (long : Int) (x : List Int) : List Int := Rg.orI x (cmpV x p long)
def St (p : List Int) (long : Int) : List Int -> List (List Int) -> Prop
 | x, [] => ¬ x.length < (nextV p long x).length
 | x, y :: ms => y = nextV p long x /\ x.length < y.length /\ St p long y ms
theorem St.same {p : List Int} {long : Int} : ∀ {x : List Int} {l m : List (List Int)}, St p long x l -> St p long x m -> l = m
 | x, [], [], _, _ => rfl
 | x, [], y :: m, h, k => absurd (k.1 ▸ k.2.1) h
 | x, y :: l, [], h, k => absurd (h.1 ▸ h.2.1) k
 | x, y :: l, z :: m, h, k => by
   obtain rfl : y = z := h.1.trans k.1.symm;rw [St.same h.2.2 k.2.2]
def Rs (long : Int) (x : List Int) : Prop := x.Pairwise (fun a b => a < b) /\ ∀ n, n ∈ x -> n ∈ regs long
theorem Rs.len {long : Int} {x : List Int} (h : Rs long x) : x.length <= (regs long).length := nodup_sub _ _ (h.1.imp fun k => by omega) h.2
end Cl
namespace Tr
def fitN (n : Int) : Bool := decide (0 <= n) && decide (n < 288230376151711744)
def ival (s : Sp) : Int :=
 if fitN s.lo = false \/ fitN s.hi = false \/ (s.op = true /\ (s.hi ≠ 0 \/ s.hs = true)) then 8 else if s.op = false /\ (s.hi < s.lo \/ (s.lo = s.hi /\ (s.ls = true \/ s.hs = true))) then 162 else 0
end Tr
end
end Go.Proofs.YtanhnllkccldhaaGreat
