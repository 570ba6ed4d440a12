/-
  rallentando/rallentandolaw24.TablePoints: the law.
-/
import Derived.Test.YtanhnllkccldhaaGreatLTablePoints7
import Derived.Test.YtanhnllkccldhaaGreatLTablePoints6
namespace Go.Proofs.YtanhnllkccldhaaGreat
set_option linter.unusedVariables false
set_option linter.unusedSimpArgs false
set_option maxRecDepth 100000
open Go.RowKit Go.Proofs.YtanhnllkccldhaaGreat.Eng Enc
theorem Sl.fst2 {α : Type} [Enc α] {n : Nat} {W : World} {a : Option Addr} {cap : Nat} {x y : α} (h : Sl n W (.slice a 2 cap) [x, y]) : Sl n W (.slice a 1 cap) [x] := by
 obtain ⟨a', cap', e, h1, h2, h3, h4⟩ := h
 injection e with e1 e2 e3
 subst e1; subst e3
 refine ⟨a, cap, rfl, by simp at h1 ⊢; omega, h2, h3, fun k z hk => ?_⟩
 have hk0 : k = 0 := by have := (List.getElem?_eq_some_iff.1 hk).1; simpa using this
 subst hk0
 exact h4 0 z hk
theorem Tb.new_ival {s : Sp} {ls : List Tb.Tab} {zones : Int} (h : (Tb.new 6 s ls zones).2 = 0) : (0 ≤ s.lo ∧ s.lo < 288230376151711744) ∧ 0 ≤ s.hi ∧ s.hi < 288230376151711744 := by
 rcases Tb.shape_one (Tb.new_ok h).1 with ⟨_, _, _, q⟩ | ⟨q, _⟩
 ·unfold Tr.ival at q
  split at q
  ·cases q
  rename_i h1
  simp only [not_or, Tr.fitN, Bool.not_eq_false, Bool.and_eq_true, decide_eq_true_eq] at h1
  exact ⟨h1.1, h1.2.1⟩
 ·omega
set_option maxHeartbeats 16000000 in
theorem tablePoints_walk (p q p2 q2 : List Zn) (ip : ∀ z, z ∈ p → Zo.i64 z) (iq : ∀ z, z ∈ q → Zo.i64 z) (ip2 : ∀ z, z ∈ p2 → Zo.i64 z) (iq2 : ∀ z, z ∈ q2 → Zo.i64 z) (s : Sp) (hs : s.ins) (t u : Int) (it : inK .i64 t) (iu : inK .i64 u) (a b a2 b2 : Option Addr) (ca cb ca2 cb2 : Nat) (w : World) (hS : Sl w.heap.size w (.slice a p.length ca) p) (hT : Sl w.heap.size w (.slice b q.length cb) q) (hS2 : Sl w.heap.size w (.slice a2 p2.length ca2) p2) (hT2 : Sl w.heap.size w (.slice b2 q2.length cb2) q2) :
 Calls Tryz.prog 8 #[.agg #[.slice a p.length ca, .slice b q.length cb], .agg #[.slice a2 p2.length ca2, .slice b2 q2.length cb2], .agg #[.int .i64 s.lo, .bool s.ls, .int .i64 s.hi, .bool s.hs, .bool s.op], .int .i64 t, .int .i64 u] w fun e w' => e = .returned (.bool true) ∧ Below w.heap.size w w' := by
 refine fun_eq 0 w Tryz.func8 (args := [.agg [.val (.slice a p.length ca), .val (.slice b q.length cb)], .agg [.val (.slice a2 p2.length ca2), .val (.slice b2 q2.length cb2)], .agg [.val (.int .i64 s.lo), .val (.bool s.ls), .val (.int .i64 s.hi), .val (.bool s.hs), .val (.bool s.op)], .val (.int .i64 t), .val (.int .i64 u)]) rfl rfl ?_
 have st := Stay.first (w := w)
 have hi : ∀ x : Tb.Tab, x ∈ [(p, q), (p2, q2)] → (∀ z, z ∈ x.1 → Zo.i64 z) ∧ ∀ z, z ∈ x.2 → Zo.i64 z := fun x hx => by
  simp only [List.mem_cons, List.not_mem_nil, or_false] at hx
  rcases hx with rfl | rfl
  ·exact ⟨ip, iq⟩
  ·exact ⟨ip2, iq2⟩
 refine NewI.mk fun b1 hb1 => ?_
 refine NewI.mk fun b3 hb3 => ?_
 refine NewI.mk fun b4 hb4 => ?_
 apply CallI.use1
 focus (exact fun w1 h1 => alive24_any w1)
 intro w1 v1 h1 hB1
 have st := st.nx h1 hB1
 refine NewI.mk fun b5 hb5 => ?_
 have hb5' : v1.heap.size ≤ b5 := hb5
 apply CallI.use1
 focus (exact fun w2 h2 => great24_any [⟨⟨a, p.length, ca⟩, ⟨b, q.length, cb⟩⟩, ⟨⟨a2, p2.length, ca2⟩, ⟨b2, q2.length, cb2⟩⟩] [(p, q), (p2, q2)] [] hi (fun z hz => (nomatch hz)) _ none _ 0 w2 ((Tb.Parts.nil.cons (hS2.st (st.at h2)) (hT2.st (st.at h2))).cons (hS.st (st.at h2)) (hT.st (st.at h2))) (Sl.own (l := [(⟨⟨a, p.length, ca⟩, ⟨b, q.length, cb⟩⟩ : Tbl), ⟨⟨a2, p2.length, ca2⟩, ⟨b2, q2.length, cb2⟩⟩]) h2 3 rfl rfl rfl (Nat.le_refl _) (by simp [maxLen])) Sl.nil)
 intro w2 v2 h2 hB2
 have st := st.nx h2 hB2
 refine Branch.mk (fun h1 => ?_) (fun h1 => ?_)
 ·exact EndI.mk fun w9 h9 => rfl
 refine Branch.no rfl ?_
 refine Branch.mk (fun c1 => EndI.mk fun w9 h9 => rfl) (fun c1 => ?_)
 refine Branch.mk (fun c2 => EndI.mk fun w9 h9 => rfl) (fun c2 => ?_)
 refine Branch.mk (fun c3 => EndI.mk fun w9 h9 => rfl) (fun c3 => ?_)
 refine Branch.mk (fun c4 => EndI.mk fun w9 h9 => rfl) (fun c4 => ?_)
 have c1 := of_decide_eq_false c1
 have c2 := of_decide_eq_false c2
 have c3 := of_decide_eq_false c3
 have c4 := of_decide_eq_false c4
 have hor := fun (w : World) ts a c h1 h2 => tnew_any 2 (by omega) Tb.sp0 Tb.sp0_ins 4096 ts [(p, q), (p2, q2)] a c w h1 h2
 have hand := fun (w : World) ts a c h1 h2 => tnew_any 3 (by omega) Tb.sp0 Tb.sp0_ins 4096 ts [(p, q), (p2, q2)] a c w h1 h2
 have htm := fun (w : World) ts a c h1 h2 => tnew_any 6 (by omega) s hs 4096 ts [(p, q)] a c w h1 h2
 have hpi : (Tb.pt t u).ins := ⟨Fr.of_ins it, Fr.of_ins iu⟩
 have hhas := fun (l : List Zn) (a : Option Addr) (c : Nat) (w : World) h => zshas_any l (Tb.pt t u) hpi a c w h
 have law1 := Tb.or_law (a := (p, q)) (b := (p2, q2)) (p := Tb.pt t u) (zones := 4096)
 have law2 := Tb.and_law (a := (p, q)) (b := (p2, q2)) (p := Tb.pt t u) (zones := 4096)
 have law3 := Tb.timed_law (a := (p, q)) (s := s) (t := t) (u := u) (zones := 4096)
 have law4 := Tb.new_ival (s := s) (ls := [(p, q)]) (zones := 4096)
 apply CallI.use1
 focus (exact fun w3 h3 => point24_any t u it iu w3)
 intro w3 v3 h3 hB3
 have st := st.nx h3 hB3
 refine NewI.mk fun b6 hb6 => ?_
 have hb6' : v3.heap.size ≤ b6 := hb6
 apply CallI.use1
 focus (exact fun w4 h4 => hhas q b cb w4 (hT.st (st.at h4)))
 intro w4 v4 h4 hB4
 have st := st.nx h4 hB4
 apply CallI.use1
 focus (exact fun w5 h5 => hhas q2 b2 cb2 w5 (hT2.st (st.at h5)))
 intro w5 v5 h5 hB5
 have st := st.nx h5 hB5
 apply CallI.use
 focus (exact fun w6 h6 => hor w6 [⟨⟨a, p.length, ca⟩, ⟨b, q.length, cb⟩⟩, ⟨⟨a2, p2.length, ca2⟩, ⟨b2, q2.length, cb2⟩⟩] _ _ ((Tb.Parts.nil.cons (hS2.st (st.at h6)) (hT2.st (st.at h6))).cons (hS.st (st.at h6)) (hT.st (st.at h6))) (Sl.own (l := [(⟨⟨a, p.length, ca⟩, ⟨b, q.length, cb⟩⟩ : Tbl), ⟨⟨a2, p2.length, ca2⟩, ⟨b2, q2.length, cb2⟩⟩]) h6 3 rfl rfl rfl (Nat.le_refl _) (by simp [maxLen])))
 rintro v w6 v6 h6 hB6 ⟨a6, c6, rfl, hO6⟩
 have st := st.nx h6 hB6
 apply CallI.use
 focus (exact fun w7 h7 => hand w7 [⟨⟨a, p.length, ca⟩, ⟨b, q.length, cb⟩⟩, ⟨⟨a2, p2.length, ca2⟩, ⟨b2, q2.length, cb2⟩⟩] _ _ ((Tb.Parts.nil.cons (hS2.st (st.at h7)) (hT2.st (st.at h7))).cons (hS.st (st.at h7)) (hT.st (st.at h7))) (Sl.own (l := [(⟨⟨a, p.length, ca⟩, ⟨b, q.length, cb⟩⟩ : Tbl), ⟨⟨a2, p2.length, ca2⟩, ⟨b2, q2.length, cb2⟩⟩]) h7 3 rfl rfl rfl (Nat.le_refl _) (by simp [maxLen])))
 rintro v w7 v7 h7 hB7 ⟨a7, c7, rfl, hO7⟩
 have st := st.nx h7 hB7
 generalize Tb.new 2 Tb.sp0 [(p, q), (p2, q2)] 4096 = X1 at law1 hO6 ⊢
 generalize Tb.new 3 Tb.sp0 [(p, q), (p2, q2)] 4096 = X2 at law2 hO7 ⊢
 obtain ⟨l1, e1⟩ := X1
 obtain ⟨l2, e2⟩ := X2
 simp only at law1 law2 hO6 hO7
 generalize Zs.has q (Tb.pt t u) = HX at law1 law2 law3 ⊢
 generalize Zs.has q2 (Tb.pt t u) = HY at law1 law2 ⊢
 obtain ⟨x, ex⟩ := HX
 obtain ⟨y, ey⟩ := HY
 simp only at law1 law2 law3
 refine Branch.mk (fun z1 => EndI.mk fun w9 h9 => rfl) (fun z1 => ?_)
 refine Branch.mk (fun z2 => EndI.mk fun w9 h9 => rfl) (fun z2 => ?_)
 refine Branch.mk (fun z3 => EndI.mk fun w9 h9 => rfl) (fun z3 => ?_)
 refine Branch.mk (fun z4 => EndI.mk fun w9 h9 => rfl) (fun z4 => ?_)
 have z1 : ex = 0 := by simpa using z1
 have z2 : ey = 0 := by simpa using z2
 have z3 : e1 = 0 := by simpa using z3
 have z4 : e2 = 0 := by simpa using z4
 subst z1; subst z2; subst z3; subst z4
 obtain ⟨L1, L2⟩ := law1 rfl rfl rfl
 obtain ⟨L3, L4⟩ := law2 rfl rfl rfl
 have law3 := fun h => law3 h rfl
 apply CallI.use1
 focus (exact fun w8 h8 => hhas l1 a6 c6 w8 ((hO6.st (st.at h8)).sl))
 intro w8 v8 h8 hB8
 have st := st.nx h8 hB8
 apply CallI.use1
 focus (exact fun w9 h9 => hhas l2 a7 c7 w9 ((hO7.st (st.at h9)).sl))
 intro w9 v9 h9 hB9
 have st := st.nx h9 hB9
 generalize Zs.has l1 (Tb.pt t u) = H1 at L1 L2 ⊢
 generalize Zs.has l2 (Tb.pt t u) = H2 at L3 L4 ⊢
 obtain ⟨o1, f1⟩ := H1
 obtain ⟨o2, f2⟩ := H2
 simp only at L1 L2 L3 L4
 subst L1; subst L2; subst L3; subst L4
 refine Branch.no rfl ?_
 refine Branch.no rfl ?_
 cases x
 ·refine Branch.no rfl ?_
  refine Branch.no (by cases y <;> rfl) ?_
  refine Branch.no rfl ?_
  refine Branch.no (by cases y <;> rfl) ?_
  refine DrawI.go (.tk 0 (.tk 1 (.tk 2 (.ev 3 (.tk 4 (.tk 5 (.tk 6 (.tk 7 (.tk 8 .done))))))))) (by kernel_rfl) fun w11 h11 => ?_
  have st := st.at h11
  refine Need.mk (by decide) ?_
  apply CallI.use
  focus (exact fun w10 h10 => htm w10 [⟨⟨a, p.length, ca⟩, ⟨b, q.length, cb⟩⟩] _ _ (Tb.Parts.nil.cons (hS.st (st.at h10)) (hT.st (st.at h10))) (Sl.fst2 (Sl.own (l := [(⟨⟨a, p.length, ca⟩, ⟨b, q.length, cb⟩⟩ : Tbl), ⟨⟨a2, p2.length, ca2⟩, ⟨b2, q2.length, cb2⟩⟩]) h10 3 rfl rfl rfl (Nat.le_refl _) (by simp [maxLen]))))
  rintro v w10 v10 h10 hB10 ⟨a10, c10, rfl, hO10⟩
  have st := st.nx h10 hB10
  generalize Tb.new 6 s [(p, q)] 4096 = X3 at law3 law4 hO10 ⊢
  obtain ⟨l3, e3⟩ := X3
  simp only at law3 law4 hO10
  refine Branch.mk (fun z5 => EndI.mk fun w9 h9 => rfl) (fun z5 => ?_)
  have z5 : e3 = 0 := by simpa using z5
  subst z5
  obtain ⟨M1, M2⟩ := law3 rfl
  obtain ⟨⟨n1, _⟩, n2, _⟩ := law4 rfl
  refine Branch.mk (fun z6 => EndI.mk fun w9 h9 => rfl) (fun z6 => ?_)
  refine Branch.mk (fun z7 => EndI.mk fun w9 h9 => rfl) (fun z7 => ?_)
  have z6 := of_decide_eq_false z6
  have z7 := of_decide_eq_false z7
  refine Need.mk (by simp only [inK]; omega) ?_
  refine Need.mk (by simp only [inK]; omega) ?_
  refine Branch.mk (fun c5 => ?_) (fun c5 => ?_)
  ·refine Branch.mk (fun dop => ?_) (fun dop => ?_)
   ·skip
    have dop : s.op = false := by simpa using dop
    refine Need.mk (by simp only [inK]; omega) ?_
    refine Branch.mk (fun d4 => ?_) (fun d4 => ?_)
    ·skip
     apply CallI.use1
     focus (exact fun w13 h13 => hhas l3 a10 c10 w13 ((hO10.st (st.at h13)).sl))
     intro w13 v13 h13 hB13
     have st := st.nx h13 hB13
     generalize Zs.has l3 (Tb.pt t u) = H3 at M1 M2 ⊢
     obtain ⟨o3, f3⟩ := H3
     simp only at M1 M2
     subst M1
     refine Branch.yes rfl ?_
     refine Branch.yes rfl ?_
     refine Branch.no rfl ?_
     exact EndI.mk fun w9 h9 => by simp [M2, Tb.fits, c5, dop, d4]
    ·skip
     refine Need.mk (by simp only [inK]; omega) ?_
     refine Branch.mk (fun d5 => ?_) (fun d5 => ?_)
     ·skip
      apply CallI.use1
      focus (exact fun w13 h13 => hhas l3 a10 c10 w13 ((hO10.st (st.at h13)).sl))
      intro w13 v13 h13 hB13
      have st := st.nx h13 hB13
      generalize Zs.has l3 (Tb.pt t u) = H3 at M1 M2 ⊢
      obtain ⟨o3, f3⟩ := H3
      simp only at M1 M2
      subst M1
      refine Branch.yes rfl ?_
      refine Branch.yes rfl ?_
      refine Branch.no rfl ?_
      exact EndI.mk fun w9 h9 => by simp [M2, Tb.fits, c5, dop, d4, d5]
     ·skip
      apply CallI.use1
      focus (exact fun w13 h13 => hhas l3 a10 c10 w13 ((hO10.st (st.at h13)).sl))
      intro w13 v13 h13 hB13
      have st := st.nx h13 hB13
      generalize Zs.has l3 (Tb.pt t u) = H3 at M1 M2 ⊢
      obtain ⟨o3, f3⟩ := H3
      simp only at M1 M2
      subst M1
      refine Branch.yes rfl ?_
      refine Branch.yes rfl ?_
      refine Branch.no rfl ?_
      exact EndI.mk fun w9 h9 => by simp [M2, Tb.fits, c5, dop, d4, d5]
   ·skip
    have dop : s.op = true := by simpa using dop
    apply CallI.use1
    focus (exact fun w13 h13 => hhas l3 a10 c10 w13 ((hO10.st (st.at h13)).sl))
    intro w13 v13 h13 hB13
    have st := st.nx h13 hB13
    generalize Zs.has l3 (Tb.pt t u) = H3 at M1 M2 ⊢
    obtain ⟨o3, f3⟩ := H3
    simp only at M1 M2
    subst M1
    refine Branch.yes rfl ?_
    refine Branch.yes rfl ?_
    refine Branch.no rfl ?_
    exact EndI.mk fun w9 h9 => by simp [M2, Tb.fits, c5, dop]
  ·refine Need.mk (by simp only [inK]; omega) ?_
   refine Branch.mk (fun c6 => ?_) (fun c6 => ?_)
   ·refine Branch.mk (fun dop => ?_) (fun dop => ?_)
    ·skip
     have dop : s.op = false := by simpa using dop
     refine Branch.mk (fun d3 => ?_) (fun d3 => ?_)
     ·skip
      have d3 : s.ls = false := by simpa using d3
      refine Need.mk (by simp only [inK]; omega) ?_
      refine Branch.mk (fun d4 => ?_) (fun d4 => ?_)
      ·skip
       apply CallI.use1
       focus (exact fun w13 h13 => hhas l3 a10 c10 w13 ((hO10.st (st.at h13)).sl))
       intro w13 v13 h13 hB13
       have st := st.nx h13 hB13
       generalize Zs.has l3 (Tb.pt t u) = H3 at M1 M2 ⊢
       obtain ⟨o3, f3⟩ := H3
       simp only at M1 M2
       subst M1
       refine Branch.yes rfl ?_
       refine Branch.yes rfl ?_
       refine Branch.no rfl ?_
       exact EndI.mk fun w9 h9 => by simp [M2, Tb.fits, c5, c6, dop, d3, d4]
      ·skip
       refine Need.mk (by simp only [inK]; omega) ?_
       refine Branch.mk (fun d5 => ?_) (fun d5 => ?_)
       ·skip
        apply CallI.use1
        focus (exact fun w13 h13 => hhas l3 a10 c10 w13 ((hO10.st (st.at h13)).sl))
        intro w13 v13 h13 hB13
        have st := st.nx h13 hB13
        generalize Zs.has l3 (Tb.pt t u) = H3 at M1 M2 ⊢
        obtain ⟨o3, f3⟩ := H3
        simp only at M1 M2
        subst M1
        refine Branch.yes rfl ?_
        refine Branch.yes rfl ?_
        refine Branch.no rfl ?_
        exact EndI.mk fun w9 h9 => by simp [M2, Tb.fits, c5, c6, dop, d3, d4, d5]
       ·skip
        apply CallI.use1
        focus (exact fun w13 h13 => hhas l3 a10 c10 w13 ((hO10.st (st.at h13)).sl))
        intro w13 v13 h13 hB13
        have st := st.nx h13 hB13
        generalize Zs.has l3 (Tb.pt t u) = H3 at M1 M2 ⊢
        obtain ⟨o3, f3⟩ := H3
        simp only at M1 M2
        subst M1
        refine Branch.yes rfl ?_
        refine Branch.yes rfl ?_
        refine Branch.no rfl ?_
        exact EndI.mk fun w9 h9 => by simp [M2, Tb.fits, c5, c6, dop, d3, d4, d5]
     ·skip
      have d3 : s.ls = true := by simpa using d3
      apply CallI.use1
      focus (exact fun w13 h13 => hhas l3 a10 c10 w13 ((hO10.st (st.at h13)).sl))
      intro w13 v13 h13 hB13
      have st := st.nx h13 hB13
      generalize Zs.has l3 (Tb.pt t u) = H3 at M1 M2 ⊢
      obtain ⟨o3, f3⟩ := H3
      simp only at M1 M2
      subst M1
      refine Branch.yes rfl ?_
      refine Branch.yes rfl ?_
      refine Branch.no rfl ?_
      exact EndI.mk fun w9 h9 => by simp [M2, Tb.fits, c5, c6, dop, d3]
    ·skip
     have dop : s.op = true := by simpa using dop
     apply CallI.use1
     focus (exact fun w13 h13 => hhas l3 a10 c10 w13 ((hO10.st (st.at h13)).sl))
     intro w13 v13 h13 hB13
     have st := st.nx h13 hB13
     generalize Zs.has l3 (Tb.pt t u) = H3 at M1 M2 ⊢
     obtain ⟨o3, f3⟩ := H3
     simp only at M1 M2
     subst M1
     refine Branch.yes rfl ?_
     refine Branch.yes rfl ?_
     refine Branch.no rfl ?_
     exact EndI.mk fun w9 h9 => by simp [M2, Tb.fits, c5, c6, dop]
   ·refine Branch.mk (fun dop => ?_) (fun dop => ?_)
    ·skip
     have dop : s.op = false := by simpa using dop
     apply CallI.use1
     focus (exact fun w13 h13 => hhas l3 a10 c10 w13 ((hO10.st (st.at h13)).sl))
     intro w13 v13 h13 hB13
     have st := st.nx h13 hB13
     generalize Zs.has l3 (Tb.pt t u) = H3 at M1 M2 ⊢
     obtain ⟨o3, f3⟩ := H3
     simp only at M1 M2
     subst M1
     refine Branch.yes rfl ?_
     refine Branch.yes rfl ?_
     refine Branch.no rfl ?_
     exact EndI.mk fun w9 h9 => by simp [M2, Tb.fits, c5, c6, dop]
    ·skip
     have dop : s.op = true := by simpa using dop
     apply CallI.use1
     focus (exact fun w13 h13 => hhas l3 a10 c10 w13 ((hO10.st (st.at h13)).sl))
     intro w13 v13 h13 hB13
     have st := st.nx h13 hB13
     generalize Zs.has l3 (Tb.pt t u) = H3 at M1 M2 ⊢
     obtain ⟨o3, f3⟩ := H3
     simp only at M1 M2
     subst M1
     refine Branch.yes rfl ?_
     refine Branch.yes rfl ?_
     refine Branch.no rfl ?_
     exact EndI.mk fun w9 h9 => by simp [M2, Tb.fits, c5, c6, dop]
 ·refine Branch.yes rfl ?_
  refine Branch.no (by cases y <;> rfl) ?_
  refine Branch.yes rfl ?_
  refine Branch.no (by cases y <;> rfl) ?_
  refine DrawI.go (.tk 0 (.tk 1 (.tk 2 (.ev 3 (.tk 4 (.tk 5 (.tk 6 (.tk 7 (.tk 8 .done))))))))) (by kernel_rfl) fun w11 h11 => ?_
  have st := st.at h11
  refine Need.mk (by decide) ?_
  apply CallI.use
  focus (exact fun w10 h10 => htm w10 [⟨⟨a, p.length, ca⟩, ⟨b, q.length, cb⟩⟩] _ _ (Tb.Parts.nil.cons (hS.st (st.at h10)) (hT.st (st.at h10))) (Sl.fst2 (Sl.own (l := [(⟨⟨a, p.length, ca⟩, ⟨b, q.length, cb⟩⟩ : Tbl), ⟨⟨a2, p2.length, ca2⟩, ⟨b2, q2.length, cb2⟩⟩]) h10 3 rfl rfl rfl (Nat.le_refl _) (by simp [maxLen]))))
  rintro v w10 v10 h10 hB10 ⟨a10, c10, rfl, hO10⟩
  have st := st.nx h10 hB10
  generalize Tb.new 6 s [(p, q)] 4096 = X3 at law3 law4 hO10 ⊢
  obtain ⟨l3, e3⟩ := X3
  simp only at law3 law4 hO10
  refine Branch.mk (fun z5 => EndI.mk fun w9 h9 => rfl) (fun z5 => ?_)
  have z5 : e3 = 0 := by simpa using z5
  subst z5
  obtain ⟨M1, M2⟩ := law3 rfl
  obtain ⟨⟨n1, _⟩, n2, _⟩ := law4 rfl
  refine Branch.mk (fun z6 => EndI.mk fun w9 h9 => rfl) (fun z6 => ?_)
  refine Branch.mk (fun z7 => EndI.mk fun w9 h9 => rfl) (fun z7 => ?_)
  have z6 := of_decide_eq_false z6
  have z7 := of_decide_eq_false z7
  refine Need.mk (by simp only [inK]; omega) ?_
  refine Need.mk (by simp only [inK]; omega) ?_
  refine Branch.mk (fun c5 => ?_) (fun c5 => ?_)
  ·refine Branch.mk (fun dop => ?_) (fun dop => ?_)
   ·skip
    have dop : s.op = false := by simpa using dop
    refine Need.mk (by simp only [inK]; omega) ?_
    refine Branch.mk (fun d4 => ?_) (fun d4 => ?_)
    ·skip
     apply CallI.use1
     focus (exact fun w13 h13 => hhas l3 a10 c10 w13 ((hO10.st (st.at h13)).sl))
     intro w13 v13 h13 hB13
     have st := st.nx h13 hB13
     generalize Zs.has l3 (Tb.pt t u) = H3 at M1 M2 ⊢
     obtain ⟨o3, f3⟩ := H3
     simp only at M1 M2
     subst M1
     refine Branch.yes rfl ?_
     refine Branch.yes rfl ?_
     refine Branch.yes rfl ?_
     exact EndI.mk fun w9 h9 => by simp [M2, Tb.fits, c5, dop, d4]
    ·skip
     refine Need.mk (by simp only [inK]; omega) ?_
     refine Branch.mk (fun d5 => ?_) (fun d5 => ?_)
     ·skip
      apply CallI.use1
      focus (exact fun w13 h13 => hhas l3 a10 c10 w13 ((hO10.st (st.at h13)).sl))
      intro w13 v13 h13 hB13
      have st := st.nx h13 hB13
      generalize Zs.has l3 (Tb.pt t u) = H3 at M1 M2 ⊢
      obtain ⟨o3, f3⟩ := H3
      simp only at M1 M2
      subst M1
      refine Branch.yes rfl ?_
      refine Branch.yes rfl ?_
      refine Branch.yes rfl ?_
      exact EndI.mk fun w9 h9 => by simp [M2, Tb.fits, c5, dop, d4, d5]
     ·skip
      apply CallI.use1
      focus (exact fun w13 h13 => hhas l3 a10 c10 w13 ((hO10.st (st.at h13)).sl))
      intro w13 v13 h13 hB13
      have st := st.nx h13 hB13
      generalize Zs.has l3 (Tb.pt t u) = H3 at M1 M2 ⊢
      obtain ⟨o3, f3⟩ := H3
      simp only at M1 M2
      subst M1
      refine Branch.yes rfl ?_
      refine Branch.yes rfl ?_
      refine Branch.yes rfl ?_
      exact EndI.mk fun w9 h9 => by simp [M2, Tb.fits, c5, dop, d4, d5]
   ·skip
    have dop : s.op = true := by simpa using dop
    apply CallI.use1
    focus (exact fun w13 h13 => hhas l3 a10 c10 w13 ((hO10.st (st.at h13)).sl))
    intro w13 v13 h13 hB13
    have st := st.nx h13 hB13
    generalize Zs.has l3 (Tb.pt t u) = H3 at M1 M2 ⊢
    obtain ⟨o3, f3⟩ := H3
    simp only at M1 M2
    subst M1
    refine Branch.yes rfl ?_
    refine Branch.yes rfl ?_
    refine Branch.yes rfl ?_
    exact EndI.mk fun w9 h9 => by simp [M2, Tb.fits, c5, dop]
  ·refine Need.mk (by simp only [inK]; omega) ?_
   refine Branch.mk (fun c6 => ?_) (fun c6 => ?_)
   ·refine Branch.mk (fun dop => ?_) (fun dop => ?_)
    ·skip
     have dop : s.op = false := by simpa using dop
     refine Branch.mk (fun d3 => ?_) (fun d3 => ?_)
     ·skip
      have d3 : s.ls = false := by simpa using d3
      refine Need.mk (by simp only [inK]; omega) ?_
      refine Branch.mk (fun d4 => ?_) (fun d4 => ?_)
      ·skip
       apply CallI.use1
       focus (exact fun w13 h13 => hhas l3 a10 c10 w13 ((hO10.st (st.at h13)).sl))
       intro w13 v13 h13 hB13
       have st := st.nx h13 hB13
       generalize Zs.has l3 (Tb.pt t u) = H3 at M1 M2 ⊢
       obtain ⟨o3, f3⟩ := H3
       simp only at M1 M2
       subst M1
       refine Branch.yes rfl ?_
       refine Branch.yes rfl ?_
       refine Branch.yes rfl ?_
       exact EndI.mk fun w9 h9 => by simp [M2, Tb.fits, c5, c6, dop, d3, d4]
      ·skip
       refine Need.mk (by simp only [inK]; omega) ?_
       refine Branch.mk (fun d5 => ?_) (fun d5 => ?_)
       ·skip
        apply CallI.use1
        focus (exact fun w13 h13 => hhas l3 a10 c10 w13 ((hO10.st (st.at h13)).sl))
        intro w13 v13 h13 hB13
        have st := st.nx h13 hB13
        generalize Zs.has l3 (Tb.pt t u) = H3 at M1 M2 ⊢
        obtain ⟨o3, f3⟩ := H3
        simp only at M1 M2
        subst M1
        refine Branch.yes rfl ?_
        refine Branch.yes rfl ?_
        refine Branch.yes rfl ?_
        exact EndI.mk fun w9 h9 => by simp [M2, Tb.fits, c5, c6, dop, d3, d4, d5]
       ·skip
        apply CallI.use1
        focus (exact fun w13 h13 => hhas l3 a10 c10 w13 ((hO10.st (st.at h13)).sl))
        intro w13 v13 h13 hB13
        have st := st.nx h13 hB13
        generalize Zs.has l3 (Tb.pt t u) = H3 at M1 M2 ⊢
        obtain ⟨o3, f3⟩ := H3
        simp only at M1 M2
        subst M1
        refine Branch.yes rfl ?_
        refine Branch.yes rfl ?_
        refine Branch.yes rfl ?_
        exact EndI.mk fun w9 h9 => by simp [M2, Tb.fits, c5, c6, dop, d3, d4, d5]
     ·skip
      have d3 : s.ls = true := by simpa using d3
      apply CallI.use1
      focus (exact fun w13 h13 => hhas l3 a10 c10 w13 ((hO10.st (st.at h13)).sl))
      intro w13 v13 h13 hB13
      have st := st.nx h13 hB13
      generalize Zs.has l3 (Tb.pt t u) = H3 at M1 M2 ⊢
      obtain ⟨o3, f3⟩ := H3
      simp only at M1 M2
      subst M1
      refine Branch.yes rfl ?_
      refine Branch.yes rfl ?_
      refine Branch.yes rfl ?_
      exact EndI.mk fun w9 h9 => by simp [M2, Tb.fits, c5, c6, dop, d3]
    ·skip
     have dop : s.op = true := by simpa using dop
     apply CallI.use1
     focus (exact fun w13 h13 => hhas l3 a10 c10 w13 ((hO10.st (st.at h13)).sl))
     intro w13 v13 h13 hB13
     have st := st.nx h13 hB13
     generalize Zs.has l3 (Tb.pt t u) = H3 at M1 M2 ⊢
     obtain ⟨o3, f3⟩ := H3
     simp only at M1 M2
     subst M1
     refine Branch.yes rfl ?_
     refine Branch.yes rfl ?_
     refine Branch.yes rfl ?_
     exact EndI.mk fun w9 h9 => by simp [M2, Tb.fits, c5, c6, dop]
   ·refine Branch.mk (fun dop => ?_) (fun dop => ?_)
    ·skip
     have dop : s.op = false := by simpa using dop
     apply CallI.use1
     focus (exact fun w13 h13 => hhas l3 a10 c10 w13 ((hO10.st (st.at h13)).sl))
     intro w13 v13 h13 hB13
     have st := st.nx h13 hB13
     generalize Zs.has l3 (Tb.pt t u) = H3 at M1 M2 ⊢
     obtain ⟨o3, f3⟩ := H3
     simp only at M1 M2
     subst M1
     refine Branch.yes rfl ?_
     refine Branch.yes rfl ?_
     refine Branch.yes rfl ?_
     exact EndI.mk fun w9 h9 => by simp [M2, Tb.fits, c5, c6, dop]
    ·skip
     have dop : s.op = true := by simpa using dop
     apply CallI.use1
     focus (exact fun w13 h13 => hhas l3 a10 c10 w13 ((hO10.st (st.at h13)).sl))
     intro w13 v13 h13 hB13
     have st := st.nx h13 hB13
     generalize Zs.has l3 (Tb.pt t u) = H3 at M1 M2 ⊢
     obtain ⟨o3, f3⟩ := H3
     simp only at M1 M2
     subst M1
     refine Branch.yes rfl ?_
     refine Branch.yes rfl ?_
     refine Branch.yes rfl ?_
     exact EndI.mk fun w9 h9 => by simp [M2, Tb.fits, c5, c6, dop]
end Go.Proofs.YtanhnllkccldhaaGreat
namespace Go.Proofs.YtanhnllkccldhaaGreat
set_option linter.unusedVariables false
open Go.ChangeShapes Go.WideShapes Go.ChangeAt Go.RowKit Go.Deep
set_option maxRecDepth 100000 in
theorem tablePoints_lifted (os : Os) (started : os.Started) (H : Type) (enc : TypeId × Value → H) :
 ReturnsInHanded {} Tryz.checked os 8 .any (Rows.tablePointsSpec.pre6 enc Tryz.prog Tryz.f8 Rows.tablePointsRow.domain false) (Rows.tablePointsSpec.post enc Tryz.prog Tryz.f8 false true false false) := by
 refine returnsInHanded_of_change (C := Tryz.checked) own started (by kernel_rfl) Tryz.func8
  (ChangeSpec.witness6 (enc := enc) (C := Tryz.checked) false ⟨#[], #[.agg #[.slice none 0 0, .slice none 0 0], .agg #[.slice none 0 0, .slice none 0 0], .agg #[.int .i64 0, .bool false, .int .i64 0, .bool false, .bool false], .int .i64 0, .int .i64 0], []⟩ 8 (by kernel_rfl) (by kernel_rfl) (by kernel_rfl) (by kernel_rfl)) ?_
 intro W base args ds gs before hval0 hW _ _
 have hval : ∀ (j : Nat) t v, Tryz.f8.params[j]? = some t → args[j]? = some v → Value.okWide Tryz.prog W .any base t v := hval0
 have hW' := hW
 obtain ⟨p, q, hA0, hV, rfl, hfz, hnd⟩ := hW
 have hA : DataW.TrodAll enc Tryz.prog W 0 (fun _ => true) true Tryz.f8.params.toList args.toList ds p := hA0
 rw [Tryz.params8] at hA hval
 obtain ⟨v0, vs0, d0, ds0, p0_, q0_, hargs, rfl, rfl, h0, r0⟩ := trodAll_cons hA
 obtain ⟨v1, vs1, d1, ds1, p1_, q1_, rfl, rfl, rfl, h1, r1⟩ := trodAll_cons r0
 obtain ⟨v2, vs2, d2, ds2, p2_, q2_, rfl, rfl, rfl, h2, r2⟩ := trodAll_cons r1
 obtain ⟨v3, vs3, d3, ds3, p3_, q3_, rfl, rfl, rfl, h3, r3⟩ := trodAll_cons r2
 obtain ⟨v4, vs4, d4, ds4, p4_, q4_, rfl, rfl, rfl, h4, r4⟩ := trodAll_cons r3
 obtain ⟨rfl, rfl, rfl⟩ := trodAll_nil r4
 obtain rfl : args = #[v0, v1, v2, v3, v4] := by cases args; simp_all
 obtain ⟨rfl, rfl⟩ := trodVars_none hV
 obtain ⟨ta0, tb0, p0, q0, ca0, cb0, rfl, S0, G0, T0, H0⟩ := open_tbl Tryz.underlying24 (by kernel_rfl) rfl rfl (by kernel_rfl) (by kernel_rfl) Tryz.underlying22 Tryz.underlying22 (opens_zn Tryz.underlying86 (by kernel_rfl) Tryz.underlying84 (by kernel_rfl)) (hval 0 24 v0 rfl rfl) h0
 obtain ⟨ta1, tb1, p1, q1, ca1, cb1, rfl, S1, G1, T1, H1⟩ := open_tbl Tryz.underlying24 (by kernel_rfl) rfl rfl (by kernel_rfl) (by kernel_rfl) Tryz.underlying22 Tryz.underlying22 (opens_zn Tryz.underlying86 (by kernel_rfl) Tryz.underlying84 (by kernel_rfl)) (hval 1 24 v1 rfl rfl) h1
 obtain ⟨z2, rfl, G2⟩ := open_agg (opens_sp Tryz.underlying32 (by kernel_rfl) rfl rfl rfl rfl rfl (by kernel_rfl) (by kernel_rfl) (by kernel_rfl) (by kernel_rfl) (by kernel_rfl) Tryz.underlying3 Tryz.underlying4 Tryz.underlying3 Tryz.underlying4 Tryz.underlying4) (.inl ⟨_, Tryz.underlying32⟩) (hval 2 32 v2 rfl rfl) h2
 obtain ⟨a3, rfl, rfl, rfl, w3⟩ := open_int Tryz.underlying3 (hval 3 3 v3 rfl rfl) h3
 obtain ⟨a4, rfl, rfl, rfl, w4⟩ := open_int Tryz.underlying3 (hval 4 3 v4 rfl rfl) h4
 clear hA0 hval0
 exact (tablePoints_walk p0 q0 p1 q1 (fun z hz => Tb.ins_i64 (G0 z hz)) (fun z hz => Tb.ins_i64 (H0 z hz)) (fun z hz => Tb.ins_i64 (G1 z hz)) (fun z hz => Tb.ins_i64 (H1 z hz)) z2 G2 a3 a4 (inK_wf w3) (inK_wf w4) ta0 tb0 ta1 tb1 ca0 cb0 ca1 cb1 W S0 T0 S1 T1).mono fun e W' ⟨he, hg⟩ => ⟨_, he, law_post laidOut (by kernel_rfl) rfl rfl Tryz.underlying4 hW' rfl hg⟩
set_option maxRecDepth 100000 in
theorem tablePoints_k1 : (Rows.tablePointsRow.inPlace == Tryz.pinned.checked.prog.inPlace 8) = true := by kernel_rfl
set_option maxRecDepth 100000 in
theorem tablePoints_k2 : (Rows.tablePointsRow.unfollowed == Tryz.pinned.checked.prog.unfollowed 8) = true := by kernel_rfl
set_option maxRecDepth 100000 in
theorem tablePoints_k3 : (Rows.tablePointsRow.recurses == Tryz.pinned.checked.prog.recurses 8) = true := by kernel_rfl
set_option maxRecDepth 100000 in
theorem tablePoints_k4 : (Rows.tablePointsRow.named == Tryz.pinned.checked.prog.varsNamed 8) = true := by kernel_rfl
set_option maxRecDepth 100000 in
theorem tablePoints_closed : joinedFacts Tryz.pinned.checked.prog 8 Tryz.f8 Rows.tablePointsSpec Rows.tablePointsRow = true := by
 unfold joinedFacts
 rw [tablePoints_k1, tablePoints_k2, tablePoints_k3, tablePoints_k4]
 kernel_rfl
set_option maxRecDepth 100000 in
theorem tablePoints_over : Rows.tablePointsRow.holds Tryz.pinned (OpenSpec.ofChange Rows.tablePointsSpec) :=
 OpenClaim.holds_of_wide 8 Tryz.f8 rfl rfl rfl rfl rfl rfl rfl ⟨rfl, rfl, rfl, rfl, rfl⟩ rfl rfl rfl rfl rfl (by kernel_rfl) Tryz.func8 tablePoints_closed
  (of_decide_eq_true (by kernel_rfl)) (by unfold Func.isWrapper; first | (rw [if_pos (by decide +kernel)]; kernel_rfl) | (rw [if_neg (by decide +kernel)]; exact ⟨rfl, rfl⟩))
  (fun os started H enc _ => tablePoints_lifted os started H enc)
theorem tablePoints.proved : Rows.TablePointsSaid := tablePoints_over
#print axioms tablePoints.proved
end Go.Proofs.YtanhnllkccldhaaGreat
