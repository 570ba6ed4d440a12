/-
  rallentando/rallentandolaw24.TableCats: the law.
-/
import Derived.Test.YtanhnllkccldhaaGreatLTableCats7
import Derived.Test.YtanhnllkccldhaaGreatLTableCats6
namespace Go.Proofs.YtanhnllkccldhaaGreat
set_option linter.unusedVariables false
set_option linter.unusedSimpArgs false
set_option maxRecDepth 100000
open Go.RowKit Go.Proofs.YtanhnllkccldhaaGreat.Eng Enc
set_option maxHeartbeats 4000000 in
theorem tableCats_walk (p q p2 q2 : List Zn) (ip : ∀ z, z ∈ p → Zo.i64 z) (iq : ∀ z, z ∈ q → Zo.i64 z) (ip2 : ∀ z, z ∈ p2 → Zo.i64 z) (iq2 : ∀ z, z ∈ q2 → Zo.i64 z) (t s u : Int) (it : inK .i64 t) (is_ : inK .i64 s) (iu : inK .i64 u) (a b a2 b2 : Option Addr) (ca cb ca2 cb2 : Nat) (w : World) (hS : Sl w.heap.size w (.slice a p.length ca) p) (hT : Sl w.heap.size w (.slice b q.length cb) q) (hS2 : Sl w.heap.size w (.slice a2 p2.length ca2) p2) (hT2 : Sl w.heap.size w (.slice b2 q2.length cb2) q2) :
 Calls Tryz.prog 3 #[.agg #[.slice a p.length ca, .slice b q.length cb], .agg #[.slice a2 p2.length ca2, .slice b2 q2.length cb2], .int .i64 t, .int .i64 s, .int .i64 u] w fun e w' => e = .returned (.bool true) ∧ Below w.heap.size w w' := by
 refine fun_eq 0 w Tryz.func3 (args := [.agg [.val (.slice a p.length ca), .val (.slice b q.length cb)], .agg [.val (.slice a2 p2.length ca2), .val (.slice b2 q2.length cb2)], .val (.int .i64 t), .val (.int .i64 s), .val (.int .i64 u)]) rfl rfl ?_
 have st := Stay.first (w := w)
 have hi : ∀ x : Tb.Tab, x ∈ [(p, q), (p2, q2)] → (∀ z, z ∈ x.1 → Zo.i64 z) ∧ ∀ z, z ∈ x.2 → Zo.i64 z := fun x hx => by
  simp only [List.mem_cons, List.not_mem_nil, or_false] at hx
  rcases hx with rfl | rfl
  ·exact ⟨ip, iq⟩
  ·exact ⟨ip2, iq2⟩
 refine NewI.mk fun b1 hb1 => ?_
 refine NewI.mk fun b3 hb3 => ?_
 apply CallI.use1
 focus (exact fun w1 h1 => alive24_any w1)
 intro w1 v1 h1 hB1
 have st := st.nx h1 hB1
 refine NewI.mk fun b4 hb4 => ?_
 have hb4' : v1.heap.size ≤ b4 := hb4
 apply CallI.use1
 focus (exact fun w2 h2 => great24_any [⟨⟨a, p.length, ca⟩, ⟨b, q.length, cb⟩⟩, ⟨⟨a2, p2.length, ca2⟩, ⟨b2, q2.length, cb2⟩⟩] [(p, q), (p2, q2)] [] hi (fun z hz => (nomatch hz)) _ none _ 0 w2 ((Tb.Parts.nil.cons (hS2.st (st.at h2)) (hT2.st (st.at h2))).cons (hS.st (st.at h2)) (hT.st (st.at h2))) (Sl.own (l := [(⟨⟨a, p.length, ca⟩, ⟨b, q.length, cb⟩⟩ : Tbl), ⟨⟨a2, p2.length, ca2⟩, ⟨b2, q2.length, cb2⟩⟩]) h2 2 rfl rfl rfl (Nat.le_refl _) (by simp [maxLen])) Sl.nil)
 intro w2 v2 h2 hB2
 have st := st.nx h2 hB2
 refine Branch.mk (fun h1 => ?_) (fun h1 => ?_)
 ·exact EndI.mk fun w9 h9 => rfl
 repeat (first | (refine Branch.no rfl ?_) | (refine Branch.mk (fun _ => EndI.mk fun w9 h9 => rfl) (fun _ => ?_)))
 have hnew := fun (w : World) ts a c h1 h2 => tnew_any 4 (by omega) Tb.sp0 Tb.sp0_ins 4096 ts [(p, q), (p2, q2)] a c w h1 h2
 have law := Tb.cats_law (a := (p, q)) (b := (p2, q2)) (t := t) (s := s) (u := u) (zones := 4096)
 apply CallI.use
 focus (exact fun w3 h3 => hnew w3 [⟨⟨a, p.length, ca⟩, ⟨b, q.length, cb⟩⟩, ⟨⟨a2, p2.length, ca2⟩, ⟨b2, q2.length, cb2⟩⟩] _ _ ((Tb.Parts.nil.cons (hS2.st (st.at h3)) (hT2.st (st.at h3))).cons (hS.st (st.at h3)) (hT.st (st.at h3))) (Sl.own (l := [(⟨⟨a, p.length, ca⟩, ⟨b, q.length, cb⟩⟩ : Tbl), ⟨⟨a2, p2.length, ca2⟩, ⟨b2, q2.length, cb2⟩⟩]) h3 2 rfl rfl rfl (Nat.le_refl _) (by simp [maxLen])))
 rintro v w3 v3 h3 hB3 ⟨a3, c3, rfl, hO3⟩
 have st := st.nx h3 hB3
 refine DrawI.go (.tk 0 (.tk 1 (.tk 2 (.tk 3 (.ev 4 (.ev 5 (.tk 6 (.tk 7 (.tk 8 (.tk 9 (.tk 10 .done))))))))))) (by kernel_rfl) fun w4 h4 => ?_
 have st := st.at h4
 apply CallI.use1
 focus (exact fun w5 h5 => point24_any t s it is_ w5)
 intro w5 v5 h5 hB5
 have st := st.nx h5 hB5
 apply CallI.use1
 focus (exact fun w6 h6 => zshas_any p (Tb.pt t s) ⟨Fr.of_ins it, Fr.of_ins is_⟩ a ca w6 (hS.st (st.at h6)))
 intro w6 v6 h6 hB6
 have st := st.nx h6 hB6
 refine DrawI.go (.tk 0 (.tk 1 (.tk 2 (.tk 3 (.ev 4 (.ev 5 (.tk 6 (.tk 7 (.tk 8 (.tk 9 (.tk 10 .done))))))))))) (by kernel_rfl) fun w7 h7 => ?_
 have st := st.at h7
 apply CallI.use1
 focus (exact fun w8 h8 => point24_any s u is_ iu w8)
 intro w8 v8 h8 hB8
 have st := st.nx h8 hB8
 apply CallI.use1
 focus (exact fun w9 h9 => zshas_any q2 (Tb.pt s u) ⟨Fr.of_ins is_, Fr.of_ins iu⟩ b2 cb2 w9 (hT2.st (st.at h9)))
 intro w9 v9 h9 hB9
 have st := st.nx h9 hB9
 apply CallI.use1
 focus (exact fun w10 h10 => point24_any t u it iu w10)
 intro w10 v10 h10 hB10
 have st := st.nx h10 hB10
 apply CallI.use1
 focus (exact fun w11 h11 => zshas_any (Tb.new 4 Tb.sp0 [(p, q), (p2, q2)] 4096).1 (Tb.pt t u) ⟨Fr.of_ins it, Fr.of_ins iu⟩ a3 c3 w11 ((hO3.st (st.at h11)).sl))
 intro w11 v11 h11 hB11
 have st := st.nx h11 hB11
 generalize Tb.new 4 Tb.sp0 [(p, q), (p2, q2)] 4096 = N at law ⊢
 obtain ⟨l, e⟩ := N
 simp only at law
 generalize Zs.has p (Tb.pt t s) = HX at law ⊢
 generalize Zs.has q2 (Tb.pt s u) = HY at law ⊢
 generalize Zs.has l (Tb.pt t u) = HZ at law ⊢
 obtain ⟨x, ex⟩ := HX
 obtain ⟨y, ey⟩ := HY
 obtain ⟨z, ez⟩ := HZ
 simp only at law
 refine Branch.mk (fun z1 => ?_) (fun z1 => ?_)
 ·exact EndI.mk fun w9 h9 => rfl
 refine Branch.mk (fun z2 => ?_) (fun z2 => ?_)
 ·exact EndI.mk fun w9 h9 => rfl
 refine Branch.mk (fun z3 => ?_) (fun z3 => ?_)
 ·exact EndI.mk fun w9 h9 => rfl
 refine Branch.mk (fun z4 => ?_) (fun z4 => ?_)
 ·exact EndI.mk fun w9 h9 => rfl
 obtain ⟨L1, L2⟩ := law (by simpa using z1) (by simpa using z2) (by simpa using z3) (by simpa using z4)
 clear z1 z2 z3 z4
 have hlen : ∀ m : List Zn, ¬ (0 : Int) < (m.length : Int) → m = [] := fun m h => List.eq_nil_of_length_eq_zero (by omega)
 cases x <;> cases y <;> cases z
 all_goals try (exact absurd (L1 rfl rfl) (by decide))
 all_goals
  repeat (first | (refine Branch.no rfl ?_) | (refine Branch.yes rfl ?_))
  refine Branch.mk (fun c1 => ?_) (fun c1 => ?_)
  ·refine Branch.mk (fun c2 => ?_) (fun c2 => ?_)
   ·exact EndI.mk fun w9 h9 => rfl
   ·exact EndI.mk fun w9 h9 => by rw [L2 (.inr (hlen q2 (of_decide_eq_false c2)))]; rfl
  ·exact EndI.mk fun w9 h9 => by rw [L2 (.inl (hlen p (of_decide_eq_false c1)))]; rfl
end Go.Proofs.YtanhnllkccldhaaGreat
namespace Go.Proofs.YtanhnllkccldhaaGreat
set_option linter.unusedVariables false
open Go.ChangeShapes Go.WideShapes Go.ChangeAt Go.RowKit Go.Deep
set_option maxRecDepth 100000 in
theorem tableCats_lifted (os : Os) (started : os.Started) (H : Type) (enc : TypeId × Value → H) :
 ReturnsInHanded {} Tryz.checked os 3 .any (Rows.tableCatsSpec.pre6 enc Tryz.prog Tryz.f3 Rows.tableCatsRow.domain false) (Rows.tableCatsSpec.post enc Tryz.prog Tryz.f3 false true false false) := by
 refine returnsInHanded_of_change (C := Tryz.checked) own started (by kernel_rfl) Tryz.func3
  (ChangeSpec.witness6 (enc := enc) (C := Tryz.checked) false ⟨#[], #[.agg #[.slice none 0 0, .slice none 0 0], .agg #[.slice none 0 0, .slice none 0 0], .int .i64 0, .int .i64 0, .int .i64 0], []⟩ 8 (by kernel_rfl) (by kernel_rfl) (by kernel_rfl) (by kernel_rfl)) ?_
 intro W base args ds gs before hval0 hW _ _
 have hval : ∀ (j : Nat) t v, Tryz.f3.params[j]? = some t → args[j]? = some v → Value.okWide Tryz.prog W .any base t v := hval0
 have hW' := hW
 obtain ⟨p, q, hA0, hV, rfl, hfz, hnd⟩ := hW
 have hA : DataW.TrodAll enc Tryz.prog W 0 (fun _ => true) true Tryz.f3.params.toList args.toList ds p := hA0
 rw [Tryz.params3] at hA hval
 obtain ⟨v0, vs0, d0, ds0, p0_, q0_, hargs, rfl, rfl, h0, r0⟩ := trodAll_cons hA
 obtain ⟨v1, vs1, d1, ds1, p1_, q1_, rfl, rfl, rfl, h1, r1⟩ := trodAll_cons r0
 obtain ⟨v2, vs2, d2, ds2, p2_, q2_, rfl, rfl, rfl, h2, r2⟩ := trodAll_cons r1
 obtain ⟨v3, vs3, d3, ds3, p3_, q3_, rfl, rfl, rfl, h3, r3⟩ := trodAll_cons r2
 obtain ⟨v4, vs4, d4, ds4, p4_, q4_, rfl, rfl, rfl, h4, r4⟩ := trodAll_cons r3
 obtain ⟨rfl, rfl, rfl⟩ := trodAll_nil r4
 obtain rfl : args = #[v0, v1, v2, v3, v4] := by cases args; simp_all
 obtain ⟨rfl, rfl⟩ := trodVars_none hV
 obtain ⟨ta0, tb0, p0, q0, ca0, cb0, rfl, S0, G0, T0, H0⟩ := open_tbl Tryz.underlying24 (by kernel_rfl) rfl rfl (by kernel_rfl) (by kernel_rfl) Tryz.underlying22 Tryz.underlying22 (opens_zn Tryz.underlying86 (by kernel_rfl) Tryz.underlying84 (by kernel_rfl)) (hval 0 24 v0 rfl rfl) h0
 obtain ⟨ta1, tb1, p1, q1, ca1, cb1, rfl, S1, G1, T1, H1⟩ := open_tbl Tryz.underlying24 (by kernel_rfl) rfl rfl (by kernel_rfl) (by kernel_rfl) Tryz.underlying22 Tryz.underlying22 (opens_zn Tryz.underlying86 (by kernel_rfl) Tryz.underlying84 (by kernel_rfl)) (hval 1 24 v1 rfl rfl) h1
 obtain ⟨a2, rfl, rfl, rfl, w2⟩ := open_int Tryz.underlying3 (hval 2 3 v2 rfl rfl) h2
 obtain ⟨a3, rfl, rfl, rfl, w3⟩ := open_int Tryz.underlying3 (hval 3 3 v3 rfl rfl) h3
 obtain ⟨a4, rfl, rfl, rfl, w4⟩ := open_int Tryz.underlying3 (hval 4 3 v4 rfl rfl) h4
 clear hA0 hval0
 exact (tableCats_walk p0 q0 p1 q1 (fun z hz => Tb.ins_i64 (G0 z hz)) (fun z hz => Tb.ins_i64 (H0 z hz)) (fun z hz => Tb.ins_i64 (G1 z hz)) (fun z hz => Tb.ins_i64 (H1 z hz)) a2 a3 a4 (inK_wf w2) (inK_wf w3) (inK_wf w4) ta0 tb0 ta1 tb1 ca0 cb0 ca1 cb1 W S0 T0 S1 T1).mono fun e W' ⟨he, hg⟩ => ⟨_, he, law_post laidOut (by kernel_rfl) rfl rfl Tryz.underlying4 hW' rfl hg⟩
set_option maxRecDepth 100000 in
theorem tableCats_k1 : (Rows.tableCatsRow.inPlace == Tryz.pinned.checked.prog.inPlace 3) = true := by kernel_rfl
set_option maxRecDepth 100000 in
theorem tableCats_k2 : (Rows.tableCatsRow.unfollowed == Tryz.pinned.checked.prog.unfollowed 3) = true := by kernel_rfl
set_option maxRecDepth 100000 in
theorem tableCats_k3 : (Rows.tableCatsRow.recurses == Tryz.pinned.checked.prog.recurses 3) = true := by kernel_rfl
set_option maxRecDepth 100000 in
theorem tableCats_k4 : (Rows.tableCatsRow.named == Tryz.pinned.checked.prog.varsNamed 3) = true := by kernel_rfl
set_option maxRecDepth 100000 in
theorem tableCats_closed : joinedFacts Tryz.pinned.checked.prog 3 Tryz.f3 Rows.tableCatsSpec Rows.tableCatsRow = true := by
 unfold joinedFacts
 rw [tableCats_k1, tableCats_k2, tableCats_k3, tableCats_k4]
 kernel_rfl
set_option maxRecDepth 100000 in
theorem tableCats_over : Rows.tableCatsRow.holds Tryz.pinned (OpenSpec.ofChange Rows.tableCatsSpec) :=
 OpenClaim.holds_of_wide 3 Tryz.f3 rfl rfl rfl rfl rfl rfl rfl ⟨rfl, rfl, rfl, rfl, rfl⟩ rfl rfl rfl rfl rfl (by kernel_rfl) Tryz.func3 tableCats_closed
  (of_decide_eq_true (by kernel_rfl)) (by unfold Func.isWrapper; first | (rw [if_pos (by decide +kernel)]; kernel_rfl) | (rw [if_neg (by decide +kernel)]; exact ⟨rfl, rfl⟩))
  (fun os started H enc _ => tableCats_lifted os started H enc)
theorem tableCats.proved : Rows.TableCatsSaid := tableCats_over
#print axioms tableCats.proved
end Go.Proofs.YtanhnllkccldhaaGreat
