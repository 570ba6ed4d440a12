/-
  rallentando/rallentandolaw24.TableNews: the law.
-/
import Derived.Test.YtanhnllkccldhaaGreatLTableNews8
import Derived.Test.YtanhnllkccldhaaGreatLTableNews6
namespace Go.Proofs.YtanhnllkccldhaaGreat
set_option linter.unusedVariables false
set_option linter.unusedSimpArgs false
set_option maxRecDepth 100000
section
open Go.RowKit Go.Proofs.YtanhnllkccldhaaGreat.Eng Enc
set_option maxHeartbeats 4000000 in
open Ky in
theorem tableNews_walk (k : Int) (hk : 0 <= k /\ k <= 255) (s : Sp) (hs : s.ins) (zones : Int) (ts : List Tbl) (ls : List Tb.Tab) (hi : ∀ x, x ∈ ls -> (∀ z, z ∈ x.1 -> Zo.i64 z) /\ ∀ z, z ∈ x.2 -> Zo.i64 z) (a : Option Addr) (c : Nat) (w : World) (hP : Tb.Parts w.heap.size w ts ls) (hS : Sl w.heap.size w (.slice a ts.length c) ts) :
 Calls Tryz.prog 6 #[.int .u8 k, .agg #[.int .i64 s.lo, .bool s.ls, .int .i64 s.hi, .bool s.hs, .bool s.op], .slice a ts.length c, .int .i64 zones] w fun e w' => e = .returned (.bool true) /\ Below w.heap.size w w' := by
 refine fun_eq 0 w Tryz.func6 (args := [.val (.int .u8 k), .agg [.val (.int .i64 s.lo), .val (.bool s.ls), .val (.int .i64 s.hi), .val (.bool s.hs), .val (.bool s.op)], .val (.slice a ts.length c), .val (.int .i64 zones)]) rfl rfl ?_;have st := Stay.first (w := w)
 refine NewI.mk fun b1 hb1 => ?_;apply CallI.use1
 focus (exact fun w1 h1 => great24_any ts ls [] hi (fun z hz => (nomatch hz)) a none c 0 w1 (hP.st (st.at h1)) (hS.st (st.at h1)) Sl.nil)
 intro w1 v1 h1 hB1;have st := st.nx h1 hB1;refine Branch.mk (fun h1 => ?_) (fun h1 => ?_)
 ·exact EndI.mk fun w9 h9 => rfl
 have hg : Tb.great ls [] = false := h1;obtain ⟨hgs, hln, _, hl6, _⟩ := Tb.great_no hg;obtain ⟨hl, hlo⟩ := Tb.long_fit hg;have hl16 : 1 <= Tb.longOf ls /\ Tb.longOf ls <= 16 := by omega
 have hbig : Tb.big ls = false := by
  unfold Tb.great at hg;simp only [Bool.or_eq_false_iff] at hg;exact hg.1
 have hml : maxL 1 [Tb.lng 0 (Tb.lists ls)] = Tb.longOf ls := by
  unfold Tb.longOf;simp only [maxL];split <;> omega
 apply CallI.use
 focus (exact fun w2 h2 => rlists24_any ts ls (by have := Tb.lists_len hln hbig; omega) a c w2 (hP.st (st.at h2)) (hS.st (st.at h2)))
 rintro v w2 v2 h2 hB2 ⟨a2, c2, rfl, hO2⟩;have st := st.nx h2 hB2;apply CallI.use1
 focus (exact fun w3 h3 => rlong24_any (Tb.lists ls) (Tb.lists_i64 hi) a2 c2 w3 ((hO2.st (st.at h3)).sl))
 intro w3 v3 h3 hB3;have st := st.nx h3 hB3
 (conv => whnf)
 rw [hml];have hnew := fun (w : World) h1 h2 => tnew_any k hk s hs zones ts ls a c w h1 h2;have hck := fun (w : World) h1 h2 => rcheck24_any k s ts ls zones (Tb.longOf ls) hl hi (fun x hx => Tb.lists_c hl6 hlo hx) a c w h1 h2;have hcr := fun (w : World) => rcrowded24_any zones (Tb.longOf ls) hl16 w;rcases Tb.news_law (k := k) (s := s) (zones := zones) hg with ⟨f, f0, e1, e2⟩ | ⟨e1, e2, e3⟩ | ⟨e1, hsh, hgt, l, e2, e3, hgl, e4⟩
 ·rw [e2] at hnew
  rw [e1] at hck;apply CallI.use
  focus (exact fun w4 h4 => hnew w4 (hP.st (st.at h4)) (hS.st (st.at h4)))
  rintro v w4 v4 h4 hB4 ⟨a4, c4, rfl, hO4⟩;have st := st.nx h4 hB4;apply CallI.use1
  focus (exact fun w5 h5 => hck w5 (hP.st (st.at h5)) (hS.st (st.at h5)))
  intro w5 v5 h5 hB5;have st := st.nx h5 hB5;refine Branch.yes (by simpa using f0) ?_;refine Branch.yes (by simp) ?_;exact EndI.mk fun w9 h9 => rfl
 ·rw [e2] at hnew
  rw [e1] at hck;rw [e3] at hcr;apply CallI.use
  focus (exact fun w4 h4 => hnew w4 (hP.st (st.at h4)) (hS.st (st.at h4)))
  rintro v w4 v4 h4 hB4 ⟨a4, c4, rfl, hO4⟩;have st := st.nx h4 hB4;apply CallI.use1
  focus (exact fun w5 h5 => hck w5 (hP.st (st.at h5)) (hS.st (st.at h5)))
  intro w5 v5 h5 hB5;have st := st.nx h5 hB5;refine Branch.no rfl ?_;refine Branch.yes rfl ?_;apply CallI.use1
  focus (exact fun w6 h6 => hcr w6)
  intro w6 v6 h6 hB6;have st := st.nx h6 hB6;refine Branch.yes rfl ?_;exact EndI.mk fun w9 h9 => rfl
 ·rw [e2] at hnew
  rw [e1] at hck;have ln := hgl.len hl;have hm := fun (a : Option Addr) (c : Nat) (w : World) hs => rmaylist_any l (fun y hy => Zs.chk_i64 (hgl.chk y hy)) a c w hs;rw [Tb.good_may hgl] at hm;have hli := fun (a : Option Addr) (c : Nat) (w : World) hs => rlist14_any l hgl.chk (by omega) (Tb.longOf ls) hl16 a c w hs;rw [show Rg.up (Tb.longOf ls) (Rg.inL l (Tb.longOf ls)) = rl l (Tb.longOf ls) from rfl, e4] at hli;have hrn := fun (w : World) h1 h2 => rnew24_any k s ts ls (Tb.longOf ls) hl hsh hgt a c w h1 h2;generalize Tb.wayR k s ls (Tb.longOf ls) = R at hli hrn;apply CallI.use
  focus (exact fun w4 h4 => hnew w4 (hP.st (st.at h4)) (hS.st (st.at h4)))
  rintro v w4 v4 h4 hB4 ⟨a4, c4, rfl, hO4⟩;have st := st.nx h4 hB4;apply CallI.use1
  focus (exact fun w5 h5 => hck w5 (hP.st (st.at h5)) (hS.st (st.at h5)))
  intro w5 v5 h5 hB5;have st := st.nx h5 hB5;refine Branch.no rfl ?_;refine Branch.no rfl ?_;refine DrawI.go (.tk 0 (.tk 1 (.tk 2 (.tk 3 (.tk 4 (.tk 5 (.tk 6 (.tk 7 (.tk 8 (.tk 9 (.ev 10 (.tk 11 (.tk 12 (.tk 13 (.tk 14 (.tk 16 (.tk 17 (.tk 18 (.tk 19 (.ev 15 (.ev 20 (.ev 21 (.tk 22 (.tk 23 .done)))))))))))))))))))))))) (by kernel_rfl) fun w6 h6 => ?_;have st := st.at h6;refine Branch.yes rfl ?_;refine Branch.yes (by simpa using e3) ?_;apply CallI.use1
  focus (exact fun w7 h7 => hm a4 c4 w7 ((hO4.st (st.at h7)).sl))
  intro w7 v7 h7 hB7;have st := st.nx h7 hB7;refine Branch.yes rfl ?_;apply CallI.use
  focus (exact fun w8 h8 => hli a4 c4 w8 ((hO4.st (st.at h8)).sl))
  rintro v w8 v8 h8 hB8 hO8;have st := st.nx h8 hB8;obtain ⟨a8, c8, rfl⟩ := hO8.form;apply CallI.use
  focus (exact fun w9 h9 => hrn w9 (hP.st (st.at h9)) (hS.st (st.at h9)))
  rintro v w9 v9 h9 hB9 hO9;have st := st.nx h9 hB9;obtain ⟨a9, c9, rfl⟩ := hO9.form;apply CallI.use1
  focus (exact fun w10 h10 => rsame14_any R R a8 c8 a9 c9 w10 ((hO8.st (st.at h10)).sl) ((hO9.st (st.at h10)).sl))
  intro w10 v10 h10 hB10;have st := st.nx h10 hB10;exact EndI.mk fun w9 h9 => by simp
end
section
open Go.ChangeShapes Go.WideShapes Go.ChangeAt Go.RowKit Go.Deep
set_option maxRecDepth 100000 in
theorem tableNews_lifted (os : Os) (started : os.Started) (H : Type) (enc : TypeId × Value -> H) :
 ReturnsInHanded {} Tryz.checked os 6 .any (Rows.tableNewsSpec.pre6 enc Tryz.prog Tryz.f6 Rows.tableNewsRow.domain false) (Rows.tableNewsSpec.post enc Tryz.prog Tryz.f6 false true false false) := by
 refine returnsInHanded_of_change (C := Tryz.checked) own started (by kernel_rfl) Tryz.func6
  (ChangeSpec.witness6 (enc := enc) (C := Tryz.checked) false ⟨#[], #[.int .u8 0, .agg #[.int .i64 0, .bool false, .int .i64 0, .bool false, .bool false], .slice none 0 0, .int .i64 0], []⟩ 8 (by kernel_rfl) (by kernel_rfl) (by kernel_rfl) (by kernel_rfl)) ?_
 intro W base args ds gs before hval0 hW _ _;have hval : ∀ (j : Nat) t v, Tryz.f6.params[j]? = some t -> args[j]? = some v -> Value.okWide Tryz.prog W .any base t v := hval0;have hW' := hW;obtain ⟨p, q, hA0, hV, rfl, hfz, hnd⟩ := hW;have hA : DataW.TrodAll enc Tryz.prog W 0 (fun _ => true) true Tryz.f6.params.toList args.toList ds p := hA0;rw [Tryz.params6] at hA hval;obtain ⟨v0, vs0, d0, ds0, p0_, q0_, hargs, rfl, rfl, h0, r0⟩ := trodAll_cons hA;obtain ⟨v1, vs1, d1, ds1, p1_, q1_, rfl, rfl, rfl, h1, r1⟩ := trodAll_cons r0;obtain ⟨v2, vs2, d2, ds2, p2_, q2_, rfl, rfl, rfl, h2, r2⟩ := trodAll_cons r1;obtain ⟨v3, vs3, d3, ds3, p3_, q3_, rfl, rfl, rfl, h3, r3⟩ := trodAll_cons r2;obtain ⟨rfl, rfl, rfl⟩ := trodAll_nil r3;obtain rfl : args = #[v0, v1, v2, v3] := by cases args; simp_all
 obtain ⟨rfl, rfl⟩ := trodVars_none hV;obtain ⟨a0, rfl, w0⟩ := open_u8 Tryz.underlying5 (hval 0 5 v0 rfl rfl) h0;obtain ⟨z1, rfl, G1⟩ := open_agg (opens_sp Tryz.underlying32 (by kernel_rfl) rfl rfl rfl rfl rfl (by kernel_rfl) (by kernel_rfl) (by kernel_rfl) (by kernel_rfl) (by kernel_rfl) Tryz.underlying3 Tryz.underlying4 Tryz.underlying3 Tryz.underlying4 Tryz.underlying4) (.inl ⟨_, Tryz.underlying32⟩) (hval 1 32 v1 rfl rfl) h1;obtain ⟨x2, L2, c2, rfl, S2, G2⟩ := open_lstW Tryz.underlying26 (opens_tbl Tryz.underlying24 (by kernel_rfl) rfl rfl (by kernel_rfl) (by kernel_rfl) Tryz.underlying22 Tryz.underlying22 (opens_zn Tryz.underlying86 (by kernel_rfl) Tryz.underlying84 (by kernel_rfl))) (hval 2 26 v2 rfl rfl) h2;obtain ⟨M2, P2, I2⟩ := parts_of W L2 G2;obtain ⟨a3, rfl, rfl, rfl, w3⟩ := open_int Tryz.underlying3 (hval 3 3 v3 rfl rfl) h3;clear hA0 hval0;exact (tableNews_walk a0 w0 z1 G1 a3 L2 M2 (fun x hx => ⟨fun z hz => Tb.ins_i64 ((I2 x hx).1 z hz), fun z hz => Tb.ins_i64 ((I2 x hx).2 z hz)⟩) x2 c2 W P2 S2).mono fun e W' ⟨he, hg⟩ => ⟨_, he, law_post laidOut (by kernel_rfl) rfl rfl Tryz.underlying4 hW' rfl hg⟩
set_option maxRecDepth 100000 in
theorem tableNews_k1 : (Rows.tableNewsRow.inPlace == Tryz.pinned.checked.prog.inPlace 6) = true := by kernel_rfl
set_option maxRecDepth 100000 in
theorem tableNews_k2 : (Rows.tableNewsRow.unfollowed == Tryz.pinned.checked.prog.unfollowed 6) = true := by kernel_rfl
set_option maxRecDepth 100000 in
theorem tableNews_k3 : (Rows.tableNewsRow.recurses == Tryz.pinned.checked.prog.recurses 6) = true := by kernel_rfl
set_option maxRecDepth 100000 in
theorem tableNews_k4 : (Rows.tableNewsRow.named == Tryz.pinned.checked.prog.varsNamed 6) = true := by kernel_rfl
set_option maxRecDepth 100000 in
theorem tableNews_closed : joinedFacts Tryz.pinned.checked.prog 6 Tryz.f6 Rows.tableNewsSpec Rows.tableNewsRow = true := by
 unfold joinedFacts;rw [tableNews_k1, tableNews_k2, tableNews_k3, tableNews_k4]
 kernel_rfl
set_option maxRecDepth 100000 in
theorem tableNews_over : Rows.tableNewsRow.holds Tryz.pinned (OpenSpec.ofChange Rows.tableNewsSpec) :=
 OpenClaim.holds_of_wide 6 Tryz.f6 rfl rfl rfl rfl rfl rfl rfl ⟨rfl, rfl, rfl, rfl, rfl⟩ rfl rfl rfl rfl rfl (by kernel_rfl) Tryz.func6 tableNews_closed
  (of_decide_eq_true (by kernel_rfl)) (by unfold Func.isWrapper; first | (rw [if_pos (by decide +kernel)]; kernel_rfl) | (rw [if_neg (by decide +kernel)]; exact ⟨rfl, rfl⟩))
  (fun os started H enc _ => tableNews_lifted os started H enc)
theorem tableNews.proved : Rows.TableNewsSaid := tableNews_over
#print axioms tableNews.proved
end
end Go.Proofs.YtanhnllkccldhaaGreat
