/-
  Merged texts of this law (each with its own head below).
-/
import Derived.Test.YtanhnllkccldhaaGreatLTableNames4
import Derived.Laws.StructEq
import Derived.Test.YtanhnllkccldhaaGreatLTableNames6
import Derived.Test.YtanhnllkccldhaaGreatLTableNames5
namespace Go.Proofs.YtanhnllkccldhaaGreat
set_option linter.unusedVariables false
set_option linter.unusedSimpArgs false
set_option maxRecDepth 100000
open Go.RowKit Go.Proofs.YtanhnllkccldhaaGreat.Eng Enc
theorem run_neq_sp (p q : Sp) (w : World) : (binOp .neq 32 (.agg #[.int .i64 p.lo, .bool p.ls, .int .i64 p.hi, .bool p.hs, .bool p.op]) (.agg #[.int .i64 q.lo, .bool q.ls, .int .i64 q.hi, .bool q.hs, .bool q.op])).run Tryz.prog w = .ok (.bool (decide (p ≠ q))) w := by
 have u3 := Tryz.underlying3
 have a3 := Tryz.isAgg3
 have z3 := Tryz.sizeOf3
 have u4 := Tryz.underlying4
 have a4 := Tryz.isAgg4
 have z4 := Tryz.sizeOf4
 have hS : Tryz.prog.underlying 32 = some (.struct (Tryz.prog.fieldsOf 32)) := by kernel_rfl
 have hp : Tryz.prog.stoodInHeld 32 = false := by kernel_rfl
 rw [run_neq_struct, show (10000 : Nat) = 9999 + 1 from rfl, run_equalIn_agg w 9999 32 _ _ hS hp]
 simp only [Program.fieldsOf, Tryz.underlying32]
 go_simp
 have hpq : p = q ↔ (p.lo = q.lo ∧ p.ls = q.ls ∧ p.hi = q.hi ∧ p.hs = q.hs ∧ p.op = q.op) := by
  obtain ⟨a, b, c, d, e⟩ := p
  obtain ⟨a', b', c', d', e'⟩ := q
  simp only [Sp.mk.injEq]
 simp only [hpq]
 repeat' split
 all_goals simp_all
theorem run_neq_spG (x y : Operand) (p q : Sp) (w : World) : (do eqGuard .neq 32 x y (.agg #[.int .i64 p.lo, .bool p.ls, .int .i64 p.hi, .bool p.hs, .bool p.op]) (.agg #[.int .i64 q.lo, .bool q.ls, .int .i64 q.hi, .bool q.hs, .bool q.op]); binOp .neq 32 (.agg #[.int .i64 p.lo, .bool p.ls, .int .i64 p.hi, .bool p.hs, .bool p.op]) (.agg #[.int .i64 q.lo, .bool q.ls, .int .i64 q.hi, .bool q.hs, .bool q.op]) : Sem Value).run Tryz.prog w = .ok (.bool (decide (p ≠ q))) w := by
 have hg : (eqGuard .neq 32 x y (.agg #[.int .i64 p.lo, .bool p.ls, .int .i64 p.hi, .bool p.hs, .bool p.op]) (.agg #[.int .i64 q.lo, .bool q.ls, .int .i64 q.hi, .bool q.hs, .bool q.op])).run Tryz.prog w = .ok () w := run_eqGuard_agg _ _ _ _ _ _ _ (by kernel_rfl)
 rw [Sem.run_bind, hg]
 exact run_neq_sp p q w
namespace Tb
abbrev TOf : TypeId := 95
theorem Parts.st {ts : List Tbl} {ls : List Tab} {w0 : Base} {l : List World} {X w : World} (h : Parts X.heap.size X ts ls) (st : Stay w0 l w) (hX : X ∈ l := by simp) : Parts w.heap.size w ts ls := h.go (st.get hX) (st.get hX).size
theorem Parts.one {n : Nat} {W : World} {ts : List Tbl} {ls : List Tab} (h : Parts n W ts ls) (k : Nat) (hk : k < ls.length) : ∃ (x y : Option Addr) (cx cy : Nat), ts[k]? = some (⟨⟨x, (ls[k]?.getD ([], [])).1.length, cx⟩, ⟨y, (ls[k]?.getD ([], [])).2.length, cy⟩⟩ : Tbl) ∧ Sl n W (.slice x (ls[k]?.getD ([], [])).1.length cx) (ls[k]?.getD ([], [])).1 ∧ Sl n W (.slice y (ls[k]?.getD ([], [])).2.length cy) (ls[k]?.getD ([], [])).2 := by
 have hl := List.getElem?_eq_getElem (l := ls) (i := k) hk
 have ht := List.getElem?_eq_getElem (l := ts) (i := k) (by have := h.1; omega)
 generalize ls[k]'hk = l at hl
 generalize ts[k]'(by have := h.1; omega) = t at ht
 obtain ⟨h1, e1, h2, e2⟩ := h.2 k t l ht hl
 obtain ⟨⟨ta, tl, tc⟩, ⟨na, nl, nc⟩⟩ := t
 simp only at h1 e1 h2 e2
 subst e1; subst e2
 rw [hl]
 exact ⟨ta, na, tc, nc, ht, h1, h2⟩
def Way2 (fid : FuncId) (f : List Zn → List Zn → List Zn × Int) : Prop := ∀ (l m : List Zn) (a b : Option Addr) (ca cb : Nat) (w : World), Sl w.heap.size w (.slice a l.length ca) l → Sl w.heap.size w (.slice b m.length cb) m → Calls Tryz.prog fid #[.slice a l.length ca, .slice b m.length cb] w (Ret w fun v w' => ∃ a' c', v = .tuple #[.slice a' (f l m).1.length c', .int .i64 (f l m).2] ∧ Own TZ w.heap.size w' (.slice a' (f l m).1.length c') (f l m).1)
end Tb
theorem both1_any (fid : FuncId) (f : List Zn → List Zn → List Zn × Int) (en : Enters Tryz.prog fid) (hf : Tb.Way2 fid f) (s : Sp) (ts : List Tbl) (ls : List Tb.Tab) (h2 : 2 ≤ ls.length) (a : Option Addr) (c B : Nat) (w : World) (hP : Tb.Parts w.heap.size w ts ls) (hS : Sl w.heap.size w (.slice a ts.length c) ts)
 (hbox : w.heap[B]? = some (.cells #[.func (.func fid) #[] #[]] Tb.TOf (0, 0))) :
 Calls Tryz.prog 105 #[.agg #[.int .i64 s.lo, .bool s.ls, .int .i64 s.hi, .bool s.hs, .bool s.op], .slice a ts.length c, .pointer (some ⟨B, 0, none⟩)] w (Ret w fun v w' => ∃ a' c', v = .tuple #[.slice a' (f (Tb.p0 ls).2 (Tb.p1 ls).2).1.length c', .int .i64 (f (Tb.p0 ls).2 (Tb.p1 ls).2).2] ∧ Own TZ w.heap.size w' (.slice a' (f (Tb.p0 ls).2 (Tb.p1 ls).2).1.length c') (f (Tb.p0 ls).2 (Tb.p1 ls).2).1) := by
 refine fun_ret 0 w Tryz.func105 (args := [.agg [.val (.int .i64 s.lo), .val (.bool s.ls), .val (.int .i64 s.hi), .val (.bool s.hs), .val (.bool s.op)], .val (.slice a ts.length c), .val (.pointer (some ⟨B, 0, none⟩))]) rfl rfl ?_
 refine NewI.mk fun b1 hb1 => ?_
 refine DrawI.go (.tk 0 (.tk 1 (.tk 2 (.tk 3 (.tk 4 (.tk 5 (.tk 6 (.tk 7 (.tk 8 (.ev 9 (.tk 10 (.tk 11 (.tk 12 (.tk 13 .done)))))))))))))) (by kernel_rfl) fun w3 h3 => ?_
 have hB3 := at_belowM h3 (by simp)
 obtain ⟨x0, y0, cx0, cy0, t0, _, sn0⟩ := hP.one 0 (by omega)
 obtain ⟨x1, y1, cx1, cy1, t1, _, sn1⟩ := hP.one 1 (by omega)
 have hS3 := hS.go hB3 hB3.size
 have hbox3 := (hB3.block _ (lt_cellsM hbox)).trans hbox
 refine LoadI.mk ⟨_, ⟨cell_oneM hbox3, by simp⟩, ?_⟩
 refine hS3.idx (k := 0) t0 fun ad had => ?_
 refine hS3.ldx (k := 0) t0 had (Below.refl _ _) (by simp) (i := 1) (c := .slice y0 (Tb.p0 ls).2.length cy0) rfl ?_
 refine hS3.idx (k := 1) t1 fun ad2 had2 => ?_
 refine hS3.ldx (k := 1) t1 had2 (Below.refl _ _) (by simp) (i := 1) (c := .slice y1 (Tb.p1 ls).2.length cy1) rfl ?_
 refine Need.mk en ?_
 apply CallI.use
 focus (exact fun w2 h2 => hf (Tb.p0 ls).2 (Tb.p1 ls).2 y0 y1 cy0 cy1 w2 ((sn0.go hB3 hB3.size).go (at_belowM h2 (by simp)) (at_belowM h2 (by simp)).size) ((sn1.go hB3 hB3.size).go (at_belowM h2 (by simp)) (at_belowM h2 (by simp)).size))
 rintro v w2 v2 h2 hB2 ⟨a2, c2, rfl, hO2⟩
 exact EndI.mk fun w9 h9 => ⟨a2, c2, rfl, (hO2.lower h2.below.size).below (at_belowM h9 (by simp))⟩
theorem ways1_any (s : Sp) (ts : List Tbl) (ls : List Tb.Tab) (h2 : 2 ≤ ls.length) (a : Option Addr) (c : Nat) (w : World) (hP : Tb.Parts w.heap.size w ts ls) (hS : Sl w.heap.size w (.slice a ts.length c) ts) :
 Calls Tryz.prog 66 #[.agg #[.int .i64 s.lo, .bool s.ls, .int .i64 s.hi, .bool s.hs, .bool s.op], .slice a ts.length c] w (Ret w fun v w' => ∃ a' c', v = .tuple #[.slice a' (Zs.comp (Tb.p0 ls).1 (Tb.p1 ls).2).1.length c', .int .i64 (Zs.comp (Tb.p0 ls).1 (Tb.p1 ls).2).2] ∧ Own TZ w.heap.size w' (.slice a' (Zs.comp (Tb.p0 ls).1 (Tb.p1 ls).2).1.length c') (Zs.comp (Tb.p0 ls).1 (Tb.p1 ls).2).1) := by
 refine fun_ret 0 w Tryz.func66 (args := [.agg [.val (.int .i64 s.lo), .val (.bool s.ls), .val (.int .i64 s.hi), .val (.bool s.hs), .val (.bool s.op)], .val (.slice a ts.length c)]) rfl rfl ?_
 refine NewI.mk fun b1 hb1 => ?_
 refine DrawI.go (.tk 0 (.tk 1 (.tk 2 (.tk 3 (.tk 4 (.tk 5 (.tk 6 (.tk 7 (.ev 8 (.tk 9 (.tk 10 (.tk 11 (.tk 12 .done))))))))))))) (by kernel_rfl) fun w3 h3 => ?_
 have hB3 := at_belowM h3 (by simp)
 obtain ⟨x0, y0, cx0, cy0, t0, sn0, _⟩ := hP.one 0 (by omega)
 obtain ⟨x1, y1, cx1, cy1, t1, _, sn1⟩ := hP.one 1 (by omega)
 have hS3 := hS.go hB3 hB3.size
 refine hS3.idx (k := 0) t0 fun ad had => ?_
 refine hS3.ldx (k := 0) t0 had (Below.refl _ _) (by simp) (i := 0) (c := .slice x0 (Tb.p0 ls).1.length cx0) rfl ?_
 refine hS3.idx (k := 1) t1 fun ad2 had2 => ?_
 refine hS3.ldx (k := 1) t1 had2 (Below.refl _ _) (by simp) (i := 1) (c := .slice y1 (Tb.p1 ls).2.length cy1) rfl ?_
 apply CallI.use
 focus (exact fun w2 h2 => zscomp_any (Tb.p0 ls).1 (Tb.p1 ls).2 x0 y1 cx0 cy1 w2 ((sn0.go hB3 hB3.size).go (at_belowM h2 (by simp)) (at_belowM h2 (by simp)).size) ((sn1.go hB3 hB3.size).go (at_belowM h2 (by simp)) (at_belowM h2 (by simp)).size))
 rintro v w2 v2 h2 hB2 ⟨a2, c2, rfl, hO2⟩
 exact EndI.mk fun w9 h9 => ⟨a2, c2, rfl, (hO2.lower h2.below.size).below (at_belowM h9 (by simp))⟩
theorem ways2_any (s : Sp) (hs : s.ins) (ts : List Tbl) (ls : List Tb.Tab) (h2 : 1 ≤ ls.length) (a : Option Addr) (c : Nat) (w : World) (hP : Tb.Parts w.heap.size w ts ls) (hS : Sl w.heap.size w (.slice a ts.length c) ts) :
 Calls Tryz.prog 68 #[.agg #[.int .i64 s.lo, .bool s.ls, .int .i64 s.hi, .bool s.hs, .bool s.op], .slice a ts.length c] w (Ret w fun v w' => ∃ a' c', v = .tuple #[.slice a' (Zs.within (Tb.p0 ls).2 s).1.length c', .int .i64 (Zs.within (Tb.p0 ls).2 s).2] ∧ Own TZ w.heap.size w' (.slice a' (Zs.within (Tb.p0 ls).2 s).1.length c') (Zs.within (Tb.p0 ls).2 s).1) := by
 refine fun_ret 0 w Tryz.func68 (args := [.agg [.val (.int .i64 s.lo), .val (.bool s.ls), .val (.int .i64 s.hi), .val (.bool s.hs), .val (.bool s.op)], .val (.slice a ts.length c)]) rfl rfl ?_
 refine NewI.mk fun b1 hb1 => ?_
 refine DrawI.go (.tk 0 (.tk 1 (.tk 2 (.tk 3 (.tk 4 (.ev 5 (.tk 6 (.tk 7 (.tk 8 (.tk 9 .done)))))))))) (by kernel_rfl) fun w3 h3 => ?_
 have hB3 := at_belowM h3 (by simp)
 obtain ⟨x0, y0, cx0, cy0, t0, _, sn0⟩ := hP.one 0 (by omega)
 have hS3 := hS.go hB3 hB3.size
 refine hS3.idx (k := 0) t0 fun ad had => ?_
 refine hS3.ldx (k := 0) t0 had (Below.refl _ _) (by simp) (i := 1) (c := .slice y0 (Tb.p0 ls).2.length cy0) rfl ?_
 apply CallI.use
 focus (exact fun w2 h2 => zswithin_any (Tb.p0 ls).2 s hs y0 cy0 w2 ((sn0.go hB3 hB3.size).go (at_belowM h2 (by simp)) (at_belowM h2 (by simp)).size))
 rintro v w2 v2 h2 hB2 ⟨a2, c2, rfl, hO2⟩
 exact EndI.mk fun w9 h9 => ⟨a2, c2, rfl, (hO2.lower h2.below.size).below (at_belowM h9 (by simp))⟩
theorem both_any (fid : FuncId) (w : World) :
 Calls Tryz.prog 64 #[.func (.func fid) #[] #[]] w (Ret w fun v w' => ∃ B, v = .func (.func 105) #[] #[.pointer (some ⟨B, 0, none⟩)] ∧ w.heap.size ≤ B ∧ w'.heap[B]? = some (.cells #[.func (.func fid) #[] #[]] Tb.TOf (0, 0))) := by
 refine fun_ret 0 w Tryz.func64 (args := [.val (.func (.func fid) #[] #[])]) rfl rfl ?_
 refine NewI.frn fun w1 h1 => ?_
 have hbox : (w1.alloc (.cells #[.func (.func fid) #[] #[]] Tb.TOf)).heap[w1.heap.size]? = some (.cells #[.func (.func fid) #[] #[]] Tb.TOf (0, 0)) := World.alloc_heap_new w1 _
 exact EndI.mk fun w9 h9 => ⟨w1.heap.size, rfl, h1.below.size, ((at_belowM h9 (by simp)).block _ (lt_cellsM hbox)).trans hbox⟩
namespace Tb
abbrev bothV (B : Nat) : Value := .func (.func 105) #[] #[.pointer (some ⟨B, 0, none⟩)]
def waysF (B1 B2 : Nat) (y : Int) : Option Value := if y = 6 then some (.func (.func 68) #[] #[]) else if y = 4 then some (.func (.func 66) #[] #[]) else if y = 3 then some (bothV B2) else if y = 2 then some (bothV B1) else none
end Tb
theorem ways_any (w : World) :
 Calls Tryz.prog 32 #[] w (Ret w fun v w' => ∃ B B1 B2, v = .map (some B) ∧ FMap w' B 4 (Tb.waysF B1 B2) ∧ w'.heap[B1]? = some (.cells #[.func (.func 43) #[] #[]] Tb.TOf (0, 0)) ∧ w'.heap[B2]? = some (.cells #[.func (.func 65) #[] #[]] Tb.TOf (0, 0))) := by
 refine fun_ret 0 w Tryz.func32 (args := []) rfl rfl ?_
 refine ⟨fun w3 h3 => ⟨_, _, run_makeMap _ w3, KpOk.ok h3 ((Below.refl _ _).alloc (Nat.le_refl _) _), ?_⟩⟩
 have hms := FMap.made w3
 have hb3 : Below w.heap.size w (w3.alloc (.map #[] 0)) := h3.below.alloc h3.below.size _
 have hwb : w.heap.size ≤ w3.heap.size := h3.below.size
 generalize w3.alloc (.map #[] 0) = w4 at hms hb3 ⊢
 generalize w3.heap.size = B at hms hwb ⊢
 apply CallI.use
 focus (exact fun w5 h5 => both_any 43 w5)
 rintro v w5 v5 h5 hB5 ⟨B1, rfl, hge1, hbox1⟩
 have hM1 := (hms.at h5 (by simp)).below hB5
 have hne1 : B1 ≠ B := by have := (hms.at h5 (by simp)).lt; omega
 have hwk : ∀ {hp : List LB} {r L : List Nat} {V W : World} (h : At ⟨w, w.heap.size, Nat.le_refl _⟩ hp r L V W), r = [] → ∀ k, some B = some k → w.heap.size ≤ k ∧ k ∉ r := fun h hr k hk => by injection hk with hk; subst hk; subst hr; exact ⟨hwb, by simp⟩
 refine ⟨fun w6 h6 => ?_⟩
 obtain ⟨w7, hrun, hM2, hgr⟩ := (hM1.at h6 (by simp)).put 2 (by omega) (Tb.bothV B1) (by omega)
 refine ⟨w7, hrun, keep_grown h6 hgr (hwk h6 rfl), ?_⟩
 have k1 := (h6.step B1 (lt_cellsM hbox1) (by simp)).trans hbox1
 have k1 := (hgr.block B1 (lt_cellsM k1) (fun e => hne1 (Option.some.inj e))).trans k1
 apply CallI.use
 focus (exact fun w5 h5 => both_any 65 w5)
 rintro v w8 v8 h8 hB8 ⟨B2, rfl, hge2, hbox2⟩
 have hM3 := (hM2.at h8 (by simp)).below hB8
 have hne2 : B2 ≠ B := by have := (hM2.at h8 (by simp)).lt; omega
 have k1 := (h8.step B1 (lt_cellsM k1) (by simp)).trans k1
 have k1 := (hB8.block B1 (lt_cellsM k1)).trans k1
 refine ⟨fun w9 h9 => ?_⟩
 obtain ⟨w10, hrun, hM4, hgr⟩ := (hM3.at h9 (by simp)).put 3 (by omega) (Tb.bothV B2) (by omega)
 refine ⟨w10, hrun, keep_grown h9 hgr (hwk h9 rfl), ?_⟩
 have k1 := (h9.step B1 (lt_cellsM k1) (by simp)).trans k1
 have k1 := (hgr.block B1 (lt_cellsM k1) (fun e => hne1 (Option.some.inj e))).trans k1
 have k2 := (h9.step B2 (lt_cellsM hbox2) (by simp)).trans hbox2
 have k2 := (hgr.block B2 (lt_cellsM k2) (fun e => hne2 (Option.some.inj e))).trans k2
 refine ⟨fun w11 h11 => ?_⟩
 obtain ⟨w12, hrun, hM5, hgr⟩ := (hM4.at h11 (by simp)).put 4 (by omega) (.func (.func 66) #[] #[]) (by omega)
 refine ⟨w12, hrun, keep_grown h11 hgr (hwk h11 rfl), ?_⟩
 have k1 := (h11.step B1 (lt_cellsM k1) (by simp)).trans k1
 have k1 := (hgr.block B1 (lt_cellsM k1) (fun e => hne1 (Option.some.inj e))).trans k1
 have k2 := (h11.step B2 (lt_cellsM k2) (by simp)).trans k2
 have k2 := (hgr.block B2 (lt_cellsM k2) (fun e => hne2 (Option.some.inj e))).trans k2
 refine ⟨fun w13 h13 => ?_⟩
 obtain ⟨w14, hrun, hM6, hgr⟩ := (hM5.at h13 (by simp)).put 6 (by omega) (.func (.func 68) #[] #[]) (by omega)
 refine ⟨w14, hrun, keep_grown h13 hgr (hwk h13 rfl), ?_⟩
 have k1 := (h13.step B1 (lt_cellsM k1) (by simp)).trans k1
 have k1 := (hgr.block B1 (lt_cellsM k1) (fun e => hne1 (Option.some.inj e))).trans k1
 have k2 := (h13.step B2 (lt_cellsM k2) (by simp)).trans k2
 have k2 := (hgr.block B2 (lt_cellsM k2) (fun e => hne2 (Option.some.inj e))).trans k2
 exact EndI.mk fun w15 h15 => ⟨B, B1, B2, rfl, hM6.at h15 (by simp), (h15.step B1 (lt_cellsM k1) (by simp)).trans k1, (h15.step B2 (lt_cellsM k2) (by simp)).trans k2⟩
set_option maxHeartbeats 2000000 in
theorem tnew_any (k : Int) (hk : 0 ≤ k ∧ k ≤ 255) (s : Sp) (hs : s.ins) (zones : Int) (ts : List Tbl) (ls : List Tb.Tab) (a : Option Addr) (c : Nat) (w : World) (hP : Tb.Parts w.heap.size w ts ls) (hS : Sl w.heap.size w (.slice a ts.length c) ts) :
 Calls Tryz.prog 11 #[.int .u8 k, .agg #[.int .i64 s.lo, .bool s.ls, .int .i64 s.hi, .bool s.hs, .bool s.op], .slice a ts.length c, .int .i64 zones] w (Ret w fun v w' => ∃ a' c', v = .tuple #[.slice a' (Tb.new k s ls zones).1.length c', .int .i64 (Tb.new k s ls zones).2] ∧ Own TZ w.heap.size w' (.slice a' (Tb.new k s ls zones).1.length c') (Tb.new k s ls zones).1) := by
 refine fun_ret 0 w Tryz.func11 (args := [.val (.int .u8 k), .agg [.val (.int .i64 s.lo), .val (.bool s.ls), .val (.int .i64 s.hi), .val (.bool s.hs), .val (.bool s.op)], .val (.slice a ts.length c), .val (.int .i64 zones)]) rfl rfl ?_
 have st := Stay.first (w := w)
 have hlen : ts.length = ls.length := hP.1
 refine NewI.mk fun b1 hb1 => ?_
 unfold Tb.new
 apply CallI.use1
 focus (exact fun w2 h2 => tasked_any zones ts ls a c w2 (hP.st (st.at h2)) (hS.st (st.at h2)))
 intro w2 v2 h2 hB2
 have st := st.nx h2 hB2
 refine Branch.mk (fun h1 => ?_) (fun h1 => ?_)
 ·rw [if_pos (of_decide_eq_true h1)]
  exact EndI.mk fun w9 h9 => ⟨_, _, rfl, Own.nil⟩
 rw [if_neg (of_decide_eq_false h1)]
 apply CallI.use
 focus (exact fun w3 h3 => ways_any w3)
 rintro v w3 v3 h3 hB3 ⟨B, B1, B2, rfl, hM, hx1, hx2⟩
 have st := st.nx h3 hB3
 have hnf : ∀ k : Int, Tb.known k = false → ¬ k = 2 ∧ ¬ k = 3 ∧ ¬ k = 4 ∧ ¬ k = 6 := fun k h => by
  unfold Tb.known at h
  simp at h
  omega
 by_cases hkn : Tb.known k = true
 case neg =>
  have hkn : Tb.known k = false := by simpa using hkn
  obtain ⟨k2, k3, k4, k6⟩ := hnf k hkn
  have e0 : Tb.waysF B1 B2 k = none := by
   unfold Tb.waysF
   rw [if_neg k6, if_neg k4, if_neg k3, if_neg k2]
  have e1 : Tb.shape k s ls.length = false := by unfold Tb.shape; rw [hkn]; rfl
  rw [if_pos e1]
  refine ⟨fun w4 h4 => ⟨_, _, (hM.at h4 (by simp)).look k hk, KpOk.ok h4 (Below.refl _ _), ?_⟩⟩
  rw [e0]
  repeat (first | (refine Branch.no rfl ?_) | (refine Branch.yes rfl ?_))
  exact EndI.mk fun w9 h9 => ⟨_, _, rfl, Own.nil⟩
 have hkk : k = 6 ∨ k = 2 ∨ k = 3 ∨ k = 4 := by
  unfold Tb.known at hkn
  simp at hkn
  omega
 rcases hkk with rfl | rfl | rfl | rfl
 ·have e0 : Tb.waysF B1 B2 6 = some (.func (.func 68) #[] #[]) := rfl
  refine ⟨fun w4 h4 => ⟨_, _, (hM.at h4 (by simp)).look 6 (by omega), KpOk.ok h4 (Below.refl _ _), ?_⟩⟩
  rw [e0]
  have st := (st.at h4)
  have sh : Tb.shape 6 s ls.length = (decide (ls.length = 1) && decide (Tr.ival s = 0)) := by unfold Tb.shape Tb.known; simp
  repeat (first | (refine Branch.no rfl ?_) | (refine Branch.yes rfl ?_))
  refine Branch.mk (fun c1 => ?_) (fun c1 => ?_)
  ·have c1 : ¬ ls.length = 1 := by have := of_decide_eq_true c1; omega
   rw [if_pos (show Tb.shape 6 s ls.length = false by rw [sh, decide_eq_false c1]; rfl)]
   repeat (first | (refine Branch.no rfl ?_) | (refine Branch.yes rfl ?_))
   exact EndI.mk fun w9 h9 => ⟨_, _, rfl, Own.nil⟩
  have c1 : ls.length = 1 := by have := of_decide_eq_false c1; omega
  apply CallI.use1
  focus (exact fun w5 h5 => interval_any s w5)
  intro w5 v5 h5 hB5
  have st := st.nx h5 hB5
  refine Branch.mk (fun c2 => ?_) (fun c2 => ?_)
  ·have c2 : ¬ Tr.ival s = 0 := of_decide_eq_true c2
   rw [if_pos (show Tb.shape 6 s ls.length = false by rw [sh, decide_eq_true c1, decide_eq_false c2]; rfl)]
   repeat (first | (refine Branch.no rfl ?_) | (refine Branch.yes rfl ?_))
   exact EndI.mk fun w9 h9 => ⟨_, _, rfl, Own.nil⟩
  have c2 : Tr.ival s = 0 := by simpa using c2
  rw [if_neg (show ¬ Tb.shape 6 s ls.length = false by rw [sh, decide_eq_true c1, decide_eq_true c2]; decide)]
  repeat (first | (refine Branch.no rfl ?_) | (refine Branch.yes rfl ?_))
  refine Need.mk Tryz.call68 ?_
  apply CallI.use
  focus (exact fun w6 h6 => ways2_any s hs ts ls (by omega) a c w6 (hP.st (st.at h6)) (hS.st (st.at h6)))
  rintro v w6 v6 h6 hB6 ⟨a6, c6, rfl, hO6⟩
  have st := st.nx h6 hB6
  have hway : Tb.way 6 s ls = Zs.within (Tb.p0 ls).2 s := rfl
  rw [hway]
  have hcp := fun (w : World) => capped_any (Zs.within (Tb.p0 ls).2 s).1 (Zs.within (Tb.p0 ls).2 s).2 zones a6 c6 w
  have hO6 := hO6.lower h6.below.size
  generalize Zs.within (Tb.p0 ls).2 s = X at hcp hO6 ⊢
  obtain ⟨l, e⟩ := X
  simp only at hcp hO6 ⊢
  unfold Tb.capped
  by_cases h7 : e ≠ 0 ∨ zones < (l.length : Int)
  ·simp only [if_pos h7] at hcp ⊢
   apply CallI.use1
   focus (exact fun w7 h7 => hcp w7)
   intro w7 v7 h8 hB7
   exact EndI.mk fun w9 h9 => ⟨_, _, rfl, Own.nil⟩
  ·simp only [if_neg h7] at hcp ⊢
   apply CallI.use1
   focus (exact fun w7 h7 => hcp w7)
   intro w7 v7 h8 hB7
   exact EndI.mk fun w9 h9 => ⟨_, _, rfl, ((hO6.below (at_belowM h8 (by simp))).below hB7).below (at_belowM h9 (by simp))⟩
 ·have e0 : Tb.waysF B1 B2 2 = some (Tb.bothV B1) := rfl
  refine ⟨fun w4 h4 => ⟨_, _, (hM.at h4 (by simp)).look 2 (by omega), KpOk.ok h4 (Below.refl _ _), ?_⟩⟩
  rw [e0]
  have st := (st.at h4)
  have sh : Tb.shape 2 s ls.length = (decide (ls.length = 2) && decide (s = Tb.sp0)) := by unfold Tb.shape Tb.known; simp
  repeat (first | (refine Branch.no rfl ?_) | (refine Branch.yes rfl ?_))
  refine Branch.mk (fun c1 => ?_) (fun c1 => ?_)
  ·have c1 : ¬ ls.length = 2 := by have := of_decide_eq_true c1; omega
   rw [if_pos (show Tb.shape 2 s ls.length = false by rw [sh, decide_eq_false c1]; rfl)]
   repeat (first | (refine Branch.no rfl ?_) | (refine Branch.yes rfl ?_))
   exact EndI.mk fun w9 h9 => ⟨_, _, rfl, Own.nil⟩
  have c1 : ls.length = 2 := by have := of_decide_eq_false c1; omega
  refine GenV.to (fun w => run_neq_spG _ _ s Tb.sp0 w) fun w5 h5 => ?_
  have st := st.next h5 (by simp) (Below.refl _ _)
  refine Branch.mk (fun c2 => ?_) (fun c2 => ?_)
  ·have c2 : ¬ s = Tb.sp0 := of_decide_eq_true c2
   rw [if_pos (show Tb.shape 2 s ls.length = false by rw [sh, decide_eq_true c1, decide_eq_false c2]; rfl)]
   exact EndI.mk fun w9 h9 => ⟨_, _, rfl, Own.nil⟩
  have c2 : s = Tb.sp0 := by simpa using c2
  rw [if_neg (show ¬ Tb.shape 2 s ls.length = false by rw [sh, decide_eq_true c1, decide_eq_true c2]; decide)]
  refine Need.mk Tryz.call105 ?_
  apply CallI.use
  focus (exact fun w6 h6 => both1_any 43 Zs.or Tryz.call43 (fun l m a b ca cb w h1 h2 => zsor_any l m a b ca cb w h1 h2) s ts ls (by omega) a c B1 w6 (hP.st (st.at h6)) (hS.st (st.at h6)) ((((st.at h6)).get (X := v3) (by simp)).block _ (lt_cellsM hx1) |>.trans hx1))
  rintro v w6 v6 h6 hB6 ⟨a6, c6, rfl, hO6⟩
  have st := st.nx h6 hB6
  have hway : Tb.way 2 s ls = Zs.or (Tb.p0 ls).2 (Tb.p1 ls).2 := rfl
  rw [hway]
  have hcp := fun (w : World) => capped_any (Zs.or (Tb.p0 ls).2 (Tb.p1 ls).2).1 (Zs.or (Tb.p0 ls).2 (Tb.p1 ls).2).2 zones a6 c6 w
  have hO6 := hO6.lower h6.below.size
  generalize Zs.or (Tb.p0 ls).2 (Tb.p1 ls).2 = X at hcp hO6 ⊢
  obtain ⟨l, e⟩ := X
  simp only at hcp hO6 ⊢
  unfold Tb.capped
  by_cases h7 : e ≠ 0 ∨ zones < (l.length : Int)
  ·simp only [if_pos h7] at hcp ⊢
   apply CallI.use1
   focus (exact fun w7 h7 => hcp w7)
   intro w7 v7 h8 hB7
   exact EndI.mk fun w9 h9 => ⟨_, _, rfl, Own.nil⟩
  ·simp only [if_neg h7] at hcp ⊢
   apply CallI.use1
   focus (exact fun w7 h7 => hcp w7)
   intro w7 v7 h8 hB7
   exact EndI.mk fun w9 h9 => ⟨_, _, rfl, ((hO6.below (at_belowM h8 (by simp))).below hB7).below (at_belowM h9 (by simp))⟩
 ·have e0 : Tb.waysF B1 B2 3 = some (Tb.bothV B2) := rfl
  refine ⟨fun w4 h4 => ⟨_, _, (hM.at h4 (by simp)).look 3 (by omega), KpOk.ok h4 (Below.refl _ _), ?_⟩⟩
  rw [e0]
  have st := (st.at h4)
  have sh : Tb.shape 3 s ls.length = (decide (ls.length = 2) && decide (s = Tb.sp0)) := by unfold Tb.shape Tb.known; simp
  repeat (first | (refine Branch.no rfl ?_) | (refine Branch.yes rfl ?_))
  refine Branch.mk (fun c1 => ?_) (fun c1 => ?_)
  ·have c1 : ¬ ls.length = 2 := by have := of_decide_eq_true c1; omega
   rw [if_pos (show Tb.shape 3 s ls.length = false by rw [sh, decide_eq_false c1]; rfl)]
   repeat (first | (refine Branch.no rfl ?_) | (refine Branch.yes rfl ?_))
   exact EndI.mk fun w9 h9 => ⟨_, _, rfl, Own.nil⟩
  have c1 : ls.length = 2 := by have := of_decide_eq_false c1; omega
  refine GenV.to (fun w => run_neq_spG _ _ s Tb.sp0 w) fun w5 h5 => ?_
  have st := st.next h5 (by simp) (Below.refl _ _)
  refine Branch.mk (fun c2 => ?_) (fun c2 => ?_)
  ·have c2 : ¬ s = Tb.sp0 := of_decide_eq_true c2
   rw [if_pos (show Tb.shape 3 s ls.length = false by rw [sh, decide_eq_true c1, decide_eq_false c2]; rfl)]
   exact EndI.mk fun w9 h9 => ⟨_, _, rfl, Own.nil⟩
  have c2 : s = Tb.sp0 := by simpa using c2
  rw [if_neg (show ¬ Tb.shape 3 s ls.length = false by rw [sh, decide_eq_true c1, decide_eq_true c2]; decide)]
  refine Need.mk Tryz.call105 ?_
  apply CallI.use
  focus (exact fun w6 h6 => both1_any 65 Zs.and Tryz.call65 (fun l m a b ca cb w h1 h2 => zsand_any l m a b ca cb w h1 h2) s ts ls (by omega) a c B2 w6 (hP.st (st.at h6)) (hS.st (st.at h6)) ((((st.at h6)).get (X := v3) (by simp)).block _ (lt_cellsM hx2) |>.trans hx2))
  rintro v w6 v6 h6 hB6 ⟨a6, c6, rfl, hO6⟩
  have st := st.nx h6 hB6
  have hway : Tb.way 3 s ls = Zs.and (Tb.p0 ls).2 (Tb.p1 ls).2 := rfl
  rw [hway]
  have hcp := fun (w : World) => capped_any (Zs.and (Tb.p0 ls).2 (Tb.p1 ls).2).1 (Zs.and (Tb.p0 ls).2 (Tb.p1 ls).2).2 zones a6 c6 w
  have hO6 := hO6.lower h6.below.size
  generalize Zs.and (Tb.p0 ls).2 (Tb.p1 ls).2 = X at hcp hO6 ⊢
  obtain ⟨l, e⟩ := X
  simp only at hcp hO6 ⊢
  unfold Tb.capped
  by_cases h7 : e ≠ 0 ∨ zones < (l.length : Int)
  ·simp only [if_pos h7] at hcp ⊢
   apply CallI.use1
   focus (exact fun w7 h7 => hcp w7)
   intro w7 v7 h8 hB7
   exact EndI.mk fun w9 h9 => ⟨_, _, rfl, Own.nil⟩
  ·simp only [if_neg h7] at hcp ⊢
   apply CallI.use1
   focus (exact fun w7 h7 => hcp w7)
   intro w7 v7 h8 hB7
   exact EndI.mk fun w9 h9 => ⟨_, _, rfl, ((hO6.below (at_belowM h8 (by simp))).below hB7).below (at_belowM h9 (by simp))⟩
 ·have e0 : Tb.waysF B1 B2 4 = some (.func (.func 66) #[] #[]) := rfl
  refine ⟨fun w4 h4 => ⟨_, _, (hM.at h4 (by simp)).look 4 (by omega), KpOk.ok h4 (Below.refl _ _), ?_⟩⟩
  rw [e0]
  have st := (st.at h4)
  have sh : Tb.shape 4 s ls.length = (decide (ls.length = 2) && decide (s = Tb.sp0)) := by unfold Tb.shape Tb.known; simp
  repeat (first | (refine Branch.no rfl ?_) | (refine Branch.yes rfl ?_))
  refine Branch.mk (fun c1 => ?_) (fun c1 => ?_)
  ·have c1 : ¬ ls.length = 2 := by have := of_decide_eq_true c1; omega
   rw [if_pos (show Tb.shape 4 s ls.length = false by rw [sh, decide_eq_false c1]; rfl)]
   repeat (first | (refine Branch.no rfl ?_) | (refine Branch.yes rfl ?_))
   exact EndI.mk fun w9 h9 => ⟨_, _, rfl, Own.nil⟩
  have c1 : ls.length = 2 := by have := of_decide_eq_false c1; omega
  refine GenV.to (fun w => run_neq_spG _ _ s Tb.sp0 w) fun w5 h5 => ?_
  have st := st.next h5 (by simp) (Below.refl _ _)
  refine Branch.mk (fun c2 => ?_) (fun c2 => ?_)
  ·have c2 : ¬ s = Tb.sp0 := of_decide_eq_true c2
   rw [if_pos (show Tb.shape 4 s ls.length = false by rw [sh, decide_eq_true c1, decide_eq_false c2]; rfl)]
   exact EndI.mk fun w9 h9 => ⟨_, _, rfl, Own.nil⟩
  have c2 : s = Tb.sp0 := by simpa using c2
  rw [if_neg (show ¬ Tb.shape 4 s ls.length = false by rw [sh, decide_eq_true c1, decide_eq_true c2]; decide)]
  refine Need.mk Tryz.call66 ?_
  apply CallI.use
  focus (exact fun w6 h6 => ways1_any s ts ls (by omega) a c w6 (hP.st (st.at h6)) (hS.st (st.at h6)))
  rintro v w6 v6 h6 hB6 ⟨a6, c6, rfl, hO6⟩
  have st := st.nx h6 hB6
  have hway : Tb.way 4 s ls = Zs.comp (Tb.p0 ls).1 (Tb.p1 ls).2 := rfl
  rw [hway]
  have hcp := fun (w : World) => capped_any (Zs.comp (Tb.p0 ls).1 (Tb.p1 ls).2).1 (Zs.comp (Tb.p0 ls).1 (Tb.p1 ls).2).2 zones a6 c6 w
  have hO6 := hO6.lower h6.below.size
  generalize Zs.comp (Tb.p0 ls).1 (Tb.p1 ls).2 = X at hcp hO6 ⊢
  obtain ⟨l, e⟩ := X
  simp only at hcp hO6 ⊢
  unfold Tb.capped
  by_cases h7 : e ≠ 0 ∨ zones < (l.length : Int)
  ·simp only [if_pos h7] at hcp ⊢
   apply CallI.use1
   focus (exact fun w7 h7 => hcp w7)
   intro w7 v7 h8 hB7
   exact EndI.mk fun w9 h9 => ⟨_, _, rfl, Own.nil⟩
  ·simp only [if_neg h7] at hcp ⊢
   apply CallI.use1
   focus (exact fun w7 h7 => hcp w7)
   intro w7 v7 h8 hB7
   exact EndI.mk fun w9 h9 => ⟨_, _, rfl, ((hO6.below (at_belowM h8 (by simp))).below hB7).below (at_belowM h9 (by simp))⟩
namespace Tb
theorem Parts.nil {n : Nat} {W : World} : Parts n W [] [] := ⟨rfl, fun k t l h => by simp at h⟩
theorem Parts.cons {n : Nat} {W : World} {ts : List Tbl} {ls : List Tab} (h : Parts n W ts ls) {p q : List Zn} {a b : Option Addr} {ca cb : Nat} (h1 : Sl n W (.slice a p.length ca) p) (h2 : Sl n W (.slice b q.length cb) q) : Parts n W (⟨⟨a, p.length, ca⟩, ⟨b, q.length, cb⟩⟩ :: ts) ((p, q) :: ls) := by
 refine ⟨by simp [h.1], fun k t l ht hl => ?_⟩
 cases k with
 | zero =>
   simp at ht hl
   subst ht; subst hl
   exact ⟨h1, rfl, h2, rfl⟩
 | succ k =>
   simp at ht hl
   exact h.2 k t l ht hl
end Tb
end Go.Proofs.YtanhnllkccldhaaGreat
namespace Go.Proofs.YtanhnllkccldhaaGreat
set_option linter.unusedVariables false
set_option linter.unusedSimpArgs false
open Go.RowKit Go.Proofs.YtanhnllkccldhaaGreat.Eng Enc
namespace Cv
open Mi Zo
end Cv
end Go.Proofs.YtanhnllkccldhaaGreat
namespace Go.Proofs.YtanhnllkccldhaaGreat
set_option linter.unusedVariables false
set_option linter.unusedSimpArgs false
set_option maxRecDepth 100000
open Go.RowKit Go.Proofs.YtanhnllkccldhaaGreat.Eng Enc
namespace Zs
open Cv
theorem prune_one (z : Zn) (h0 : checked [[z]] = 0) (h : in_ z [] = (false, 0)) : prune [z] = ([z], 0) := by
 unfold prune
 rw [if_neg (by rw [h0]; simp), sorted_self (List.pairwise_singleton _ _)]
 show pgo 1 [z] = _
 rw [pgo_succ (z := z) rfl]
 show (if (in_ z []).2 ≠ 0 then _ else if (in_ z []).1 = true then _ else pgo 0 [z]) = _
 rw [h]
 rfl
end Zs
namespace Zs
end Zs
namespace Tb
open Zs Cv
def u0 : Zn := ⟨2, 1, 3, 0, 3, 0⟩
def u1 : Zn := ⟨4, -1, 5, -2, 3, 0⟩
def u01 : Zn := ⟨2, 1, 5, -2, 5, 0⟩
theorem un0 : Zo.make ⟨0, false, 0 + 1, false, false⟩ ⟨0, false, 0 + 1, false, false⟩ ⟨0, true, 1, false, false⟩ = (u0, 0) := by decide +kernel
theorem un1 : Zo.make ⟨1, false, 1 + 1, false, false⟩ ⟨1, false, 1 + 1, false, false⟩ ⟨0, true, 1, false, false⟩ = (u1, 0) := by decide +kernel
theorem nm_p0 : prune [u0] = ([u0], 0) := prune_one _ (by decide +kernel) (by decide +kernel)
theorem nm_p1 : prune [u1] = ([u1], 0) := prune_one _ (by decide +kernel) (by decide +kernel)
theorem nm_p01 : prune [u01] = ([u01], 0) := prune_one _ (by decide +kernel) (by decide +kernel)
theorem nm_pn : prune [] = ([], 0) := by
 unfold Cv.prune
 rw [Cv.sorted_self List.Pairwise.nil]
 decide +kernel
theorem nm_t0 : tmay [u0] [u0] = true := by
 have h1 : all_ [u0] [u0] = (true, 0) := by decide +kernel
 unfold tmay Zs.check
 rw [nm_p0, if_neg (by decide +kernel), h1]
 decide +kernel
theorem nm_t1 : tmay [u1] [u1] = true := by
 have h1 : all_ [u1] [u1] = (true, 0) := by decide +kernel
 unfold tmay Zs.check
 rw [nm_p1, if_neg (by decide +kernel), h1]
 decide +kernel
theorem nm_ask2 : ask 10 [([u0], [u0]), ([u1], [u1])] = 0 := by
 unfold ask
 simp only [List.any_cons, List.any_nil, nm_t0, nm_t1]
 decide
theorem nm_ask1 : ask 10 [([u0], [u0])] = 0 := by
 unfold ask
 simp only [List.any_cons, List.any_nil, nm_t0]
 decide
theorem nm_comp : Zs.comp [u0] [u1] = ([u01], 0) := by
 have h1 : Cmp.comp u0 u1 = (u01, 0) := by decide +kernel
 unfold Zs.comp paired
 rw [if_pos (by decide +kernel), pairGo_cons, come_cons, h1]
 show (if (prune [u01]).2 = 0 then pairGo Cmp.comp [u1] (prune [u01]).1 [] else _) = _
 rw [nm_p01]; rfl
theorem nm_and0 : Zs.and [u0] [u1] = ([], 0) := by
 have h1 : (Zo.meet u0 u1).2 = 6 := by decide +kernel
 have hc : come (Zo.meet u0) [] [u1] = ([], 0) := by
  rw [come_cons, if_neg (by rw [h1]; decide), if_pos h1]
  exact nm_pn
 unfold Zs.and paired
 rw [if_pos (by decide +kernel), pairGo_cons, hc]
 rfl
theorem nm_cat : new 4 sp0 [([u0], [u0]), ([u1], [u1])] 10 = ([u01], 0) := by
 have e : way 4 sp0 [([u0], [u0]), ([u1], [u1])] = ([u01], 0) := nm_comp
 unfold new
 rw [nm_ask2, if_neg (by decide), if_neg (by decide), e]
 decide
theorem nm_both : new 3 sp0 [([u0], [u0]), ([u1], [u1])] 10 = ([], 0) := by
 have e : way 3 sp0 [([u0], [u0]), ([u1], [u1])] = ([], 0) := nm_and0
 unfold new
 rw [nm_ask2, if_neg (by decide), if_neg (by decide), e]
 decide
theorem nm_plus : new 5 sp0 [([u0], [u0])] 10 = ([], 2) := by
 unfold new
 rw [nm_ask1, if_neg (by decide), if_pos (by decide)]
theorem nm_yes : has [u01] (pt 1 3) = (true, 0) := by decide +kernel
theorem nm_no : has [u01] (pt 1 2) = (false, 0) := by decide +kernel
theorem sp0_ins : sp0.ins := ⟨by simp only [sp0, inK]; omega, by simp only [sp0, inK]; omega⟩
end Tb
theorem unit24_any (at_ : Int) (h0 : 0 ≤ at_ ∧ at_ ≤ 1) (z : Zn) (hz : Zo.make ⟨at_, false, at_ + 1, false, false⟩ ⟨at_, false, at_ + 1, false, false⟩ ⟨0, true, 1, false, false⟩ = (z, 0)) (w : World) :
 Calls Tryz.prog 30 #[.int .i64 at_] w (Ret w fun v w' => ∃ a b ca cb, v = .agg #[.slice a 1 ca, .slice b 1 cb] ∧ Own TZ w.heap.size w' (.slice a 1 ca) [z] ∧ Own TZ w.heap.size w' (.slice b 1 cb) [z]) := by
 refine fun_at 0 w.heap.size w (Nat.le_refl _) Tryz.func30 (args := [.val (.int .i64 at_)]) rfl rfl ?_
 have hmk := fun (w : World) => make_any ⟨at_, false, at_ + 1, false, false⟩ ⟨at_, false, at_ + 1, false, false⟩ ⟨0, true, 1, false, false⟩ ⟨by simp only [inK]; omega, by simp only [inK]; omega⟩ ⟨by simp only [inK]; omega, by simp only [inK]; omega⟩ ⟨by simp only [inK]; omega, by simp only [inK]; omega⟩ w
 rw [hz] at hmk
 refine NewI.mk fun b1 hb1 => ?_
 refine Need.mk (by simp only [inK]; omega) ?_
 refine Need.mk (by simp only [inK]; omega) ?_
 apply CallI.use1
 focus (exact fun w1 h1 => hmk w1)
 intro w1 v1 h1 hB1
 refine NewI.mk fun b2 hb2 => ?_
 refine Branch.no rfl ?_
 refine NewI.mk fun b3 hb3 => ?_
 refine NewI.mk fun b4 hb4 => ?_
 have hb3' : w.heap.size ≤ b3 := Nat.le_trans h1.below.size (Nat.le_trans hB1.size hb3)
 have hb4' : w.heap.size ≤ b4 := Nat.le_trans h1.below.size (Nat.le_trans hB1.size hb4)
 exact EndI.mk fun w9 h9 => ⟨_, _, _, _, rfl, Own.own (l := [z]) h9 2 rfl rfl rfl hb3', Own.own (l := [z]) h9 3 rfl rfl rfl hb4'⟩
theorem point24_any (t u : Int) (ht : inK .i64 t) (hu : inK .i64 u) (w : World) :
 Calls Tryz.prog 13 #[.int .i64 t, .int .i64 u] w fun e w' => e = .returned (.agg #[.int .i64 (Fr.of t 2).1.num, .int .i64 (Fr.of t 2).1.den, .int .i64 (Fr.of u 2).1.num, .int .i64 (Fr.of u 2).1.den]) ∧ Below w.heap.size w w' := by
 refine fun_eq 0 w Tryz.func13 (args := [.val (.int .i64 t), .val (.int .i64 u)]) rfl rfl ?_
 refine NewI.mk fun b1 hb1 => ?_
 (first
   | (refine CallI.to1 (rof_any t 2 ht (by simp only [inK]; omega)) fun w2 => ?_)
   | (refine Branch.yes rfl ?_)
   | (refine Branch.no rfl ?_)
   | (refine Branch.mk (fun hb => ?_) (fun hb => ?_))
   | (refine NewI.mk fun nb hnb => ?_)
   | (refine Need.mk (by show _ ∧ _; omega) ?_)
   | (refine Need.mk (by omega) ?_)
   | (refine Need.mk ?_ ?_)
   | (refine EndI.mk fun w1 h1 => ?_))
 refine NewI.mk fun b2 hb2 => ?_
 (first
   | (refine CallI.to1 (rof_any u 2 hu (by simp only [inK]; omega)) fun w2 => ?_)
   | (refine Branch.yes rfl ?_)
   | (refine Branch.no rfl ?_)
   | (refine Branch.mk (fun hb => ?_) (fun hb => ?_))
   | (refine NewI.mk fun nb hnb => ?_)
   | (refine Need.mk (by show _ ∧ _; omega) ?_)
   | (refine Need.mk (by omega) ?_)
   | (refine Need.mk ?_ ?_)
   | (refine EndI.mk fun w1 h1 => ?_))
 refine NewI.mk fun b3 hb3 => ?_
 exact EndI.mk fun w3 h3 => rfl
set_option maxHeartbeats 1000000 in
theorem alive24_any (w : World) : Calls Tryz.prog 9 #[] w fun e w' => e = .returned (.bool true) ∧ Below w.heap.size w w' := by
 refine fun_eq 0 w Tryz.func9 (args := []) rfl rfl ?_
 have st := Stay.first (w := w)
 have hnew := fun (w : World) ts a c hP hS => tnew_any 4 (by omega) Tb.sp0 Tb.sp0_ins 10 ts [([Tb.u0], [Tb.u0]), ([Tb.u1], [Tb.u1])] a c w hP hS
 rw [Tb.nm_cat] at hnew
 have p3 := fun w => point24_any 1 3 (by simp [inK]) (by simp [inK]) w
 have p2 := fun w => point24_any 1 2 (by simp [inK]) (by simp [inK]) w
 have hy := fun (w : World) a c h => zshas_any [Tb.u01] (Tb.pt 1 3) ⟨Fr.of_ins (by simp [inK]), Fr.of_ins (by simp [inK])⟩ a c w h
 rw [Tb.nm_yes] at hy
 have hn := fun (w : World) a c h => zshas_any [Tb.u01] (Tb.pt 1 2) ⟨Fr.of_ins (by simp [inK]), Fr.of_ins (by simp [inK])⟩ a c w h
 rw [Tb.nm_no] at hn
 apply CallI.use
 focus (exact fun w1 h1 => unit24_any 0 (by omega) Tb.u0 Tb.un0 w1)
 rintro v w1 v1 h1 hB1 ⟨x1, y1, cx1, cy1, rfl, hX1, hY1⟩
 have st := st.nx h1 hB1
 apply CallI.use
 focus (exact fun w2 h2 => unit24_any 1 (by omega) Tb.u1 Tb.un1 w2)
 rintro v w2 v2 h2 hB2 ⟨x2, y2, cx2, cy2, rfl, hX2, hY2⟩
 have st := st.nx h2 hB2
 refine NewI.mk fun b1 hb1 => ?_
 apply CallI.use
 focus (exact fun w3 h3 => hnew w3 [⟨⟨x1, 1, cx1⟩, ⟨y1, 1, cy1⟩⟩, ⟨⟨x2, 1, cx2⟩, ⟨y2, 1, cy2⟩⟩] _ _ ((Tb.Parts.nil.cons (p := [Tb.u1]) (q := [Tb.u1]) ((hX2.st (st.at h3)).sl) ((hY2.st (st.at h3)).sl)).cons (p := [Tb.u0]) (q := [Tb.u0]) ((hX1.st (st.at h3)).sl) ((hY1.st (st.at h3)).sl)) (Sl.own (l := [(⟨⟨x1, 1, cx1⟩, ⟨y1, 1, cy1⟩⟩ : Tbl), ⟨⟨x2, 1, cx2⟩, ⟨y2, 1, cy2⟩⟩]) h3 0 rfl rfl rfl (Nat.le_refl _) (by simp [maxLen])))
 rintro v w3 v3 h3 hB3 ⟨a3, c3, rfl, hO3⟩
 have st := st.nx h3 hB3
 apply CallI.use1
 focus (exact fun w4 h4 => p3 w4)
 intro w4 v4 h4 hB4
 have st := st.nx h4 hB4
 apply CallI.use1
 focus (exact fun w5 h5 => hy w5 a3 c3 ((hO3.st (st.at h5)).sl))
 intro w5 v5 h5 hB5
 have st := st.nx h5 hB5
 apply CallI.use1
 focus (exact fun w6 h6 => p2 w6)
 intro w6 v6 h6 hB6
 have st := st.nx h6 hB6
 apply CallI.use1
 focus (exact fun w7 h7 => hn w7 a3 c3 ((hO3.st (st.at h7)).sl))
 intro w7 v7 h7 hB7
 have st := st.nx h7 hB7
 repeat (refine Branch.yes rfl ?_)
 exact EndI.mk fun w15 h15 => rfl
set_option maxHeartbeats 1000000 in
theorem tableNames_walk (w : World) :
 Calls Tryz.prog 7 #[] w fun e w' => e = .returned (.bool true) ∧ Below w.heap.size w w' := by
 refine fun_eq 0 w Tryz.func7 (args := []) rfl rfl ?_
 have st := Stay.first (w := w)
 have hnew := fun (w : World) ts a c hP hS => tnew_any 3 (by omega) Tb.sp0 Tb.sp0_ins 10 ts [([Tb.u0], [Tb.u0]), ([Tb.u1], [Tb.u1])] a c w hP hS
 rw [Tb.nm_both] at hnew
 have hpl := fun (w : World) ts a c hP hS => tnew_any 5 (by omega) Tb.sp0 Tb.sp0_ins 10 ts [([Tb.u0], [Tb.u0])] a c w hP hS
 rw [Tb.nm_plus] at hpl
 apply CallI.use
 focus (exact fun w1 h1 => unit24_any 0 (by omega) Tb.u0 Tb.un0 w1)
 rintro v w1 v1 h1 hB1 ⟨x1, y1, cx1, cy1, rfl, hX1, hY1⟩
 have st := st.nx h1 hB1
 apply CallI.use
 focus (exact fun w2 h2 => unit24_any 1 (by omega) Tb.u1 Tb.un1 w2)
 rintro v w2 v2 h2 hB2 ⟨x2, y2, cx2, cy2, rfl, hX2, hY2⟩
 have st := st.nx h2 hB2
 refine NewI.mk fun b1 hb1 => ?_
 apply CallI.use
 focus (exact fun w3 h3 => hnew w3 [⟨⟨x1, 1, cx1⟩, ⟨y1, 1, cy1⟩⟩, ⟨⟨x2, 1, cx2⟩, ⟨y2, 1, cy2⟩⟩] _ _ ((Tb.Parts.nil.cons (p := [Tb.u1]) (q := [Tb.u1]) ((hX2.st (st.at h3)).sl) ((hY2.st (st.at h3)).sl)).cons (p := [Tb.u0]) (q := [Tb.u0]) ((hX1.st (st.at h3)).sl) ((hY1.st (st.at h3)).sl)) (Sl.own (l := [(⟨⟨x1, 1, cx1⟩, ⟨y1, 1, cy1⟩⟩ : Tbl), ⟨⟨x2, 1, cx2⟩, ⟨y2, 1, cy2⟩⟩]) h3 0 rfl rfl rfl (Nat.le_refl _) (by simp [maxLen])))
 rintro v w3 v3 h3 hB3 ⟨a3, c3, rfl, hO3⟩
 have st := st.nx h3 hB3
 apply CallI.use
 focus (exact fun w4 h4 => unit24_any 0 (by omega) Tb.u0 Tb.un0 w4)
 rintro v w4 v4 h4 hB4 ⟨x4, y4, cx4, cy4, rfl, hX4, hY4⟩
 have st := st.nx h4 hB4
 refine NewI.mk fun b2 hb2 => ?_
 apply CallI.use
 focus (exact fun w5 h5 => hpl w5 [⟨⟨x4, 1, cx4⟩, ⟨y4, 1, cy4⟩⟩] _ _ (Tb.Parts.nil.cons (p := [Tb.u0]) (q := [Tb.u0]) ((hX4.st (st.at h5)).sl) ((hY4.st (st.at h5)).sl)) (Sl.own (l := [(⟨⟨x4, 1, cx4⟩, ⟨y4, 1, cy4⟩⟩ : Tbl)]) h5 1 rfl rfl rfl (Nat.le_refl _) (by simp [maxLen])))
 rintro v w5 v5 h5 hB5 ⟨a5, c5, rfl, hO5⟩
 have st := st.nx h5 hB5
 apply CallI.use1
 focus (exact fun w6 h6 => alive24_any w6)
 intro w6 v6 h6 hB6
 have st := st.nx h6 hB6
 repeat (refine Branch.yes rfl ?_)
 exact EndI.mk fun w15 h15 => rfl
end Go.Proofs.YtanhnllkccldhaaGreat
