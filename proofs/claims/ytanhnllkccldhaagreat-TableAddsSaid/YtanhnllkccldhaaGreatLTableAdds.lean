/-
  rallentando/rallentandolaw24.TableAdds: the law.
-/
import Derived.Test.YtanhnllkccldhaaGreatLTableAdds7
import Derived.Test.YtanhnllkccldhaaGreatLTableAdds6
namespace Go.Proofs.YtanhnllkccldhaaGreat
set_option linter.unusedVariables false
set_option linter.unusedSimpArgs false
set_option maxRecDepth 100000
section
open Go.RowKit Go.Proofs.YtanhnllkccldhaaGreat.Eng Enc
set_option maxHeartbeats 4000000 in
open Ky in
theorem tableAdds_walk (p q l : List Zn) (ip : ∀ z, z ∈ p -> Zo.i64 z) (iq : ∀ z, z ∈ q -> Zo.i64 z) (il : ∀ z, z ∈ l -> Zo.i64 z) (zones : Int) (a b d : Option Addr) (ca cb cd : Nat) (w : World) (hS : Sl w.heap.size w (.slice a p.length ca) p) (hT : Sl w.heap.size w (.slice b q.length cb) q) (hL : Sl w.heap.size w (.slice d l.length cd) l) :
 Calls Tryz.prog 4 #[.agg #[.slice a p.length ca, .slice b q.length cb], .slice d l.length cd, .int .i64 zones] w fun e w' => e = .returned (.bool true) /\ Below w.heap.size w w' := by
 refine fun_eq 0 w Tryz.func4 (args := [.agg [.val (.slice a p.length ca), .val (.slice b q.length cb)], .val (.slice d l.length cd), .val (.int .i64 zones)]) rfl rfl ?_;have st := Stay.first (w := w)
 have hi : ∀ x : Tb.Tab, x ∈ [(p, q)] -> (∀ z, z ∈ x.1 -> Zo.i64 z) /\ ∀ z, z ∈ x.2 -> Zo.i64 z := fun x hx => by
  rw [List.mem_singleton.1 hx]; exact ⟨ip, iq⟩
 refine NewI.mk fun b1 hb1 => ?_;refine NewI.mk fun b2 hb2 => ?_;apply CallI.use1
 focus (exact fun w1 h1 => great24_any [⟨⟨a, p.length, ca⟩, ⟨b, q.length, cb⟩⟩] [(p, q)] l hi il _ d _ cd w1 (Tb.Parts.nil.cons (hS.st (st.at h1)) (hT.st (st.at h1))) (Sl.own (l := [(⟨⟨a, p.length, ca⟩, ⟨b, q.length, cb⟩⟩ : Tbl)]) h1 1 rfl rfl rfl (Nat.le_refl _) (by simp [maxLen])) (hL.st (st.at h1)))
 intro w1 v1 h1 hB1;have st := st.nx h1 hB1;refine Branch.mk (fun h1 => ?_) (fun h1 => ?_)
 ·exact EndI.mk fun w9 h9 => rfl
 have hg : Tb.great [(p, q)] l = false := h1;obtain ⟨hgs, _, hln, hl6, _⟩ := Tb.great_no hg;obtain ⟨hl, hlo, _⟩ := Tb.long_fit2 hg;obtain ⟨hct, hcl⟩ := Tb.add_c hg;have hl16 : 1 <= Tb.longOf2 (p, q) l /\ Tb.longOf2 (p, q) l <= 16 := by omega
 have hpq := hgs (p, q) (by simp);have hml : maxL 1 [Tb.lng 0 (Tb.lists [(p, q)]), Tb.lng 0 l] = Tb.longOf2 (p, q) l := by
  unfold Tb.longOf2;simp only [maxL];split <;> split <;> omega
 apply CallI.use
 focus (exact fun w2 h2 => rlists24_any [⟨⟨a, p.length, ca⟩, ⟨b, q.length, cb⟩⟩] [(p, q)] (by have := hpq.1; have := hpq.2; simp only at *; simp [Tb.lists]; omega) _ _ w2 (Tb.Parts.nil.cons (hS.st (st.at h2)) (hT.st (st.at h2))) (Sl.own (l := [(⟨⟨a, p.length, ca⟩, ⟨b, q.length, cb⟩⟩ : Tbl)]) h2 1 rfl rfl rfl (Nat.le_refl _) (by simp [maxLen])))
 rintro v w2 v2 h2 hB2 ⟨a2, c2, rfl, hO2⟩;have st := st.nx h2 hB2;apply CallI.use1
 focus (exact fun w3 h3 => rlong24_any (Tb.lists [(p, q)]) (Tb.lists_i64 hi) a2 c2 w3 ((hO2.st (st.at h3)).sl))
 intro w3 v3 h3 hB3;have st := st.nx h3 hB3;apply CallI.use1
 focus (exact fun w4 h4 => rlong24_any l il d cd w4 (hL.st (st.at h4)))
 intro w4 v4 h4 hB4;have st := st.nx h4 hB4
 (conv => whnf)
 rw [hml];have hadd := fun (w : World) h1 h2 h3 => tadd_any p q l (by omega) zones a b d ca cb cd w h1 h2 h3;have hmt := fun (w : World) h1 h2 => rmay24_any (p, q) ⟨ip, iq⟩ (Tb.longOf2 (p, q) l) hl hct a b ca cb w h1 h2;have hml2 := fun (w : World) h1 => rmaylist_any l il d cd w h1;have hcr := fun (w : World) => rcrowded24_any zones (Tb.longOf2 (p, q) l) hl16 w;obtain ⟨A1, A2, A3⟩ := Tb.adds_law (zones := zones) hg
 by_cases hz : zones < 1 \/ 4096 < zones
 ·have e := A1 hz
  generalize Tb.add (p, q) l zones = X at hadd e;obtain ⟨⟨x1, x2⟩, er⟩ := X;simp only at e;subst e;apply CallI.use
  focus (exact fun w5 h5 => hadd w5 (hS.st (st.at h5)) (hT.st (st.at h5)) (hL.st (st.at h5)))
  rintro v w5 v5 h5 hB5 ⟨a5, c5, a6, c6, rfl, hO5, hO6⟩;have st := st.nx h5 hB5;refine NewI.mk fun b3 hb3 => ?_
  by_cases hz1 : zones < 1
  ·refine Branch.yes (decide_eq_true hz1) ?_
   exact EndI.mk fun w9 h9 => rfl
  ·refine Branch.no (decide_eq_false hz1) ?_
   refine Branch.yes (decide_eq_true (hz.resolve_left hz1)) ?_;exact EndI.mk fun w9 h9 => rfl
 have hz1 : ¬ zones < 1 := fun h => hz (.inl h);have hz2 : ¬ 4096 < zones := fun h => hz (.inr h);have A2 := A2 hz;have A3 := A3 hz;cases hf : Tb.fine (Tb.longOf2 (p, q) l) (p, q) with
 | false =>
   have e := A2 (.inl hf);rw [hf] at hmt;generalize Tb.add (p, q) l zones = X at hadd e;obtain ⟨⟨x1, x2⟩, er⟩ := X;simp only at e;subst e;apply CallI.use
   focus (exact fun w5 h5 => hadd w5 (hS.st (st.at h5)) (hT.st (st.at h5)) (hL.st (st.at h5)))
   rintro v w5 v5 h5 hB5 ⟨a5, c5, a6, c6, rfl, hO5, hO6⟩;have st := st.nx h5 hB5;refine NewI.mk fun b3 hb3 => ?_;refine Branch.no (decide_eq_false hz1) ?_;refine Branch.no (decide_eq_false hz2) ?_;apply CallI.use1
   focus (exact fun w7 h7 => hmt w7 (hS.st (st.at h7)) (hT.st (st.at h7)))
   intro w7 v7 h7 hB7;have st := st.nx h7 hB7;refine Branch.yes rfl ?_;exact EndI.mk fun w9 h9 => rfl
 | true =>
 rw [hf] at hmt;cases hm : Tb.may l with
 | false =>
   have e := A2 (.inr hm);rw [hm] at hml2;generalize Tb.add (p, q) l zones = X at hadd e;obtain ⟨⟨x1, x2⟩, er⟩ := X;simp only at e;subst e;apply CallI.use
   focus (exact fun w5 h5 => hadd w5 (hS.st (st.at h5)) (hT.st (st.at h5)) (hL.st (st.at h5)))
   rintro v w5 v5 h5 hB5 ⟨a5, c5, a6, c6, rfl, hO5, hO6⟩;have st := st.nx h5 hB5;refine NewI.mk fun b3 hb3 => ?_;refine Branch.no (decide_eq_false hz1) ?_;refine Branch.no (decide_eq_false hz2) ?_;apply CallI.use1
   focus (exact fun w7 h7 => hmt w7 (hS.st (st.at h7)) (hT.st (st.at h7)))
   intro w7 v7 h7 hB7;have st := st.nx h7 hB7;refine Branch.no rfl ?_;apply CallI.use1
   focus (exact fun w8 h8 => hml2 w8 (hL.st (st.at h8)))
   intro w8 v8 h8 hB8;have st := st.nx h8 hB8;refine Branch.yes rfl ?_;exact EndI.mk fun w9 h9 => rfl
 | true =>
 rw [hm] at hml2;rcases A3 hf hm with ⟨e, ec⟩ | ⟨x, e, gp, gl, gx, hfx, hxl, hor⟩
 ·rw [e] at hadd
  rw [ec] at hcr;apply CallI.use
  focus (exact fun w5 h5 => hadd w5 (hS.st (st.at h5)) (hT.st (st.at h5)) (hL.st (st.at h5)))
  rintro v w5 v5 h5 hB5 ⟨a5, c5, a6, c6, rfl, hO5, hO6⟩;have st := st.nx h5 hB5;refine NewI.mk fun b3 hb3 => ?_;refine Branch.no (decide_eq_false hz1) ?_;refine Branch.no (decide_eq_false hz2) ?_;apply CallI.use1
  focus (exact fun w7 h7 => hmt w7 (hS.st (st.at h7)) (hT.st (st.at h7)))
  intro w7 v7 h7 hB7;have st := st.nx h7 hB7;refine Branch.no rfl ?_;apply CallI.use1
  focus (exact fun w8 h8 => hml2 w8 (hL.st (st.at h8)))
  intro w8 v8 h8 hB8;have st := st.nx h8 hB8;refine Branch.no rfl ?_;refine Branch.yes rfl ?_;apply CallI.use1
  focus (exact fun w9 h9 => hcr w9)
  intro w9 v9 h9 hB9;have st := st.nx h9 hB9;exact EndI.mk fun w9 h9 => rfl
 ·rw [e] at hadd
  have lp : p.length <= 507 := gp.len hl;have lx := gx.len hl;have ll := gl.len hl;have hlp := fun (w : World) hs => rlist14_any p gp.chk (by omega) (Tb.longOf2 (p, q) l) hl16 a ca w hs;have hll := fun (a : Option Addr) (c : Nat) (w : World) hs => rlist14_any l gl.chk (by omega) (Tb.longOf2 (p, q) l) hl16 a c w hs;have hlx := fun (a : Option Addr) (c : Nat) (w : World) hs => rlist14_any x gx.chk (by omega) (Tb.longOf2 (p, q) l) hl16 a c w hs;have eo : ∀ l' : List Zn, Rg.up (Tb.longOf2 (p, q) l) (Rg.inL l' (Tb.longOf2 (p, q) l)) = rl l' (Tb.longOf2 (p, q) l) := fun _ => rfl;rw [eo] at hlp hll hlx;have hcx : ∀ z, z ∈ x -> z.c <= 2 * Tb.longOf2 (p, q) l + 1 := fun z hz => (gx.ml.mt z hz).c;have hmx := fun (a b : Option Addr) (ca cb : Nat) (w : World) h1 h2 => rmay24_any (x, l) ⟨fun y hy => Zs.chk_i64 (gx.chk y hy), il⟩ (Tb.longOf2 (p, q) l) hl ⟨hcx, hcl⟩ a b ca cb w h1 h2;rw [hfx] at hmx;have np := Tb.rl_le p hl;have nl := Tb.rl_le l hl;generalize rl p (Tb.longOf2 (p, q) l) = RP at hlp hor np;generalize rl l (Tb.longOf2 (p, q) l) = RL at hll hor nl;generalize rl x (Tb.longOf2 (p, q) l) = RX at hlx hor;have horc := fun (a b : Option Addr) (ca cb : Nat) (w : World) h1 h2 => ror14_any RP RL (by omega) (by omega) a b ca cb w h1 h2;rw [hor] at horc;apply CallI.use
  focus (exact fun w5 h5 => hadd w5 (hS.st (st.at h5)) (hT.st (st.at h5)) (hL.st (st.at h5)))
  rintro v w5 v5 h5 hB5 ⟨a5, c5, a6, c6, rfl, hO5, hO6⟩;have st := st.nx h5 hB5;refine NewI.mk fun b3 hb3 => ?_;refine Branch.no (decide_eq_false hz1) ?_;refine Branch.no (decide_eq_false hz2) ?_;apply CallI.use1
  focus (exact fun w7 h7 => hmt w7 (hS.st (st.at h7)) (hT.st (st.at h7)))
  intro w7 v7 h7 hB7;have st := st.nx h7 hB7;refine Branch.no rfl ?_;apply CallI.use1
  focus (exact fun w8 h8 => hml2 w8 (hL.st (st.at h8)))
  intro w8 v8 h8 hB8;have st := st.nx h8 hB8;refine Branch.no rfl ?_;refine Branch.no rfl ?_;apply CallI.use
  focus (exact fun w9 h9 => hll d cd w9 (hL.st (st.at h9)))
  rintro v w9 v9 h9 hB9 hO9;have st := st.nx h9 hB9;obtain ⟨a9, c9, rfl⟩ := hO9.form;apply CallI.use
  focus (exact fun w10 h10 => hlp w10 (hS.st (st.at h10)))
  rintro v w10 v10 h10 hB10 hO10;have st := st.nx h10 hB10;obtain ⟨a10, c10, rfl⟩ := hO10.form;apply CallI.use
  focus (exact fun w11 h11 => horc a10 a9 c10 c9 w11 ((hO10.st (st.at h11)).sl) ((hO9.st (st.at h11)).sl))
  rintro v w11 v11 h11 hB11 hO11;have st := st.nx h11 hB11;obtain ⟨a11, c11, rfl⟩ := hO11.form;refine Branch.yes rfl ?_;apply CallI.use1
  focus (exact fun w12 h12 => hmx a5 a6 c5 c6 w12 ((hO5.st (st.at h12)).sl) ((hO6.st (st.at h12)).sl))
  intro w12 v12 h12 hB12;have st := st.nx h12 hB12;refine Branch.yes rfl ?_;apply CallI.use
  focus (exact fun w13 h13 => hll a6 c6 w13 ((hO6.st (st.at h13)).sl))
  rintro v w13 v13 h13 hB13 hO13;have st := st.nx h13 hB13;obtain ⟨a13, c13, rfl⟩ := hO13.form;apply CallI.use1
  focus (exact fun w14 h14 => rsame14_any RL RL a13 c13 a9 c9 w14 ((hO13.st (st.at h14)).sl) ((hO9.st (st.at h14)).sl))
  intro w14 v14 h14 hB14;have st := st.nx h14 hB14;refine Branch.yes (by simp) ?_;apply CallI.use
  focus (exact fun w15 h15 => hlx a5 c5 w15 ((hO5.st (st.at h15)).sl))
  rintro v w15 v15 h15 hB15 hO15;have st := st.nx h15 hB15;obtain ⟨a15, c15, rfl⟩ := hO15.form;apply CallI.use1
  focus (exact fun w16 h16 => rsame14_any RX RX a15 c15 a11 c11 w16 ((hO15.st (st.at h16)).sl) ((hO11.st (st.at h16)).sl))
  intro w16 v16 h16 hB16;have st := st.nx h16 hB16;refine Branch.yes (by simp) ?_;exact EndI.mk fun w9 h9 => by simpa using hxl
end
section
open Go.ChangeShapes Go.WideShapes Go.ChangeAt Go.RowKit Go.Deep
set_option maxRecDepth 100000 in
theorem tableAdds_lifted (os : Os) (started : os.Started) (H : Type) (enc : TypeId × Value -> H) :
 ReturnsInHanded {} Tryz.checked os 4 .any (Rows.tableAddsSpec.pre6 enc Tryz.prog Tryz.f4 Rows.tableAddsRow.domain false) (Rows.tableAddsSpec.post enc Tryz.prog Tryz.f4 false true false false) := by
 refine returnsInHanded_of_change (C := Tryz.checked) own started (by kernel_rfl) Tryz.func4
  (ChangeSpec.witness6 (enc := enc) (C := Tryz.checked) false ⟨#[], #[.agg #[.slice none 0 0, .slice none 0 0], .slice none 0 0, .int .i64 0], []⟩ 8 (by kernel_rfl) (by kernel_rfl) (by kernel_rfl) (by kernel_rfl)) ?_
 intro W base args ds gs before hval0 hW _ _;have hval : ∀ (j : Nat) t v, Tryz.f4.params[j]? = some t -> args[j]? = some v -> Value.okWide Tryz.prog W .any base t v := hval0;have hW' := hW;obtain ⟨p, q, hA0, hV, rfl, hfz, hnd⟩ := hW;have hA : DataW.TrodAll enc Tryz.prog W 0 (fun _ => true) true Tryz.f4.params.toList args.toList ds p := hA0;rw [Tryz.params4] at hA hval;obtain ⟨v0, vs0, d0, ds0, p0_, q0_, hargs, rfl, rfl, h0, r0⟩ := trodAll_cons hA;obtain ⟨v1, vs1, d1, ds1, p1_, q1_, rfl, rfl, rfl, h1, r1⟩ := trodAll_cons r0;obtain ⟨v2, vs2, d2, ds2, p2_, q2_, rfl, rfl, rfl, h2, r2⟩ := trodAll_cons r1;obtain ⟨rfl, rfl, rfl⟩ := trodAll_nil r2;obtain rfl : args = #[v0, v1, v2] := by cases args; simp_all
 obtain ⟨rfl, rfl⟩ := trodVars_none hV;obtain ⟨ta0, tb0, p0, q0, ca0, cb0, rfl, S0, G0, T0, H0⟩ := open_tbl Tryz.underlying24 (by kernel_rfl) rfl rfl (by kernel_rfl) (by kernel_rfl) Tryz.underlying22 Tryz.underlying22 (opens_zn Tryz.underlying86 (by kernel_rfl) Tryz.underlying84 (by kernel_rfl)) (hval 0 24 v0 rfl rfl) h0;obtain ⟨x1, L1, c1, rfl, S1, G1⟩ := open_lst Tryz.underlying22 (opens_zn Tryz.underlying86 (by kernel_rfl) Tryz.underlying84 (by kernel_rfl)) (hval 1 22 v1 rfl rfl) h1;obtain ⟨a2, rfl, rfl, rfl, w2⟩ := open_int Tryz.underlying3 (hval 2 3 v2 rfl rfl) h2;clear hA0 hval0;exact (tableAdds_walk p0 q0 L1 (fun z hz => Tb.ins_i64 (G0 z hz)) (fun z hz => Tb.ins_i64 (H0 z hz)) (fun z hz => Tb.ins_i64 (G1 z hz)) a2 ta0 tb0 x1 ca0 cb0 c1 W S0 T0 S1).mono fun e W' ⟨he, hg⟩ => ⟨_, he, law_post laidOut (by kernel_rfl) rfl rfl Tryz.underlying4 hW' rfl hg⟩
set_option maxRecDepth 100000 in
theorem tableAdds_k1 : (Rows.tableAddsRow.inPlace == Tryz.pinned.checked.prog.inPlace 4) = true := by kernel_rfl
set_option maxRecDepth 100000 in
theorem tableAdds_k2 : (Rows.tableAddsRow.unfollowed == Tryz.pinned.checked.prog.unfollowed 4) = true := by kernel_rfl
set_option maxRecDepth 100000 in
theorem tableAdds_k3 : (Rows.tableAddsRow.recurses == Tryz.pinned.checked.prog.recurses 4) = true := by kernel_rfl
set_option maxRecDepth 100000 in
theorem tableAdds_k4 : (Rows.tableAddsRow.named == Tryz.pinned.checked.prog.varsNamed 4) = true := by kernel_rfl
set_option maxRecDepth 100000 in
theorem tableAdds_closed : joinedFacts Tryz.pinned.checked.prog 4 Tryz.f4 Rows.tableAddsSpec Rows.tableAddsRow = true := by
 unfold joinedFacts;rw [tableAdds_k1, tableAdds_k2, tableAdds_k3, tableAdds_k4]
 kernel_rfl
set_option maxRecDepth 100000 in
theorem tableAdds_over : Rows.tableAddsRow.holds Tryz.pinned (OpenSpec.ofChange Rows.tableAddsSpec) :=
 OpenClaim.holds_of_wide 4 Tryz.f4 rfl rfl rfl rfl rfl rfl rfl ⟨rfl, rfl, rfl, rfl, rfl⟩ rfl rfl rfl rfl rfl (by kernel_rfl) Tryz.func4 tableAdds_closed
  (of_decide_eq_true (by kernel_rfl)) (by unfold Func.isWrapper; first | (rw [if_pos (by decide +kernel)]; kernel_rfl) | (rw [if_neg (by decide +kernel)]; exact ⟨rfl, rfl⟩))
  (fun os started H enc _ => tableAdds_lifted os started H enc)
theorem tableAdds.proved : Rows.TableAddsSaid := tableAdds_over
#print axioms tableAdds.proved
end
end Go.Proofs.YtanhnllkccldhaaGreat
