/-
  Merged texts of this law (each with its own head below).
-/
import Derived.Test.YtanhnllkccldhaaGreatLTableAdds6
import Derived.Test.YtanhnllkccldhaaGreatLTableAdds3
import Derived.Test.YtanhnllkccldhaaGreatLTableAdds4
import Derived.Maps.Own
import Derived.Maps.Views
import Derived.Laws.StructEq
namespace Go.Proofs.YtanhnllkccldhaaGreat
set_option linter.unusedVariables false
set_option linter.unusedSimpArgs false
set_option maxRecDepth 100000
section
open Go.RowKit Go.Proofs.YtanhnllkccldhaaGreat.Eng Enc
namespace Tb
def cnt (long : Int) (k : Nat) : Nat := ((List.range k).filter fun n : Nat => (Rg.point (n : Int) long).2).length
theorem cnt_step (long : Int) (k : Nat) : cnt long (k + 1) = cnt long k + (if (Rg.point (k : Int) long).2 = true then 1 else 0) := by
 unfold cnt;rw [List.range_succ, List.filter_append, List.length_append];cases h : (Rg.point (k : Int) long).2 <;> simp [h]
theorem cnt_le (long : Int) (k : Nat) : cnt long k <= k := by
 unfold cnt;have := List.length_filter_le (fun n : Nat => (Rg.point (n : Int) long).2) (List.range k)
 rwa [List.length_range] at this
theorem cnt_regs {long : Int} {M : Nat} (h : (Rg.many long).1 = M) : (Ky.regs long).length = cnt long M := by
 unfold Ky.regs Rg.up cnt;rw [List.length_map, h, Int.toNat_natCast]
 congr 1
 refine List.filter_congr fun n hn => ?_;have := List.mem_range.1 hn;unfold Rg.isR;rw [h, decide_eq_true (by omega), decide_eq_true (by omega)]; rfl
def crowded (zones long : Int) : Bool := decide (zones < ((Ky.regs long).length : Int)) || decide (4096 < 40 * ((Ky.regs long).length : Int))
theorem may_iff (l : List Zn) : may l = true ↔ Zs.check l = 0 /\ Cl.odd l = false := by
 unfold may Zs.check;simp only [Bool.and_eq_true, decide_eq_true_eq, Bool.not_eq_true'];constructor
 ·rintro ⟨h1, h2, h3⟩
  exact ⟨by rw [if_pos ⟨h2, h3.symm⟩], h1⟩
 ·rintro ⟨h1, h2⟩
  split at h1
  ·rename_i h; exact ⟨h2, h.1, h.2.symm⟩
  ·cases h1
end Tb
set_option maxHeartbeats 1000000 in
theorem rregions24_any (long : Int) (hl : 1 <= long /\ long <= 16) (w : World) : Calls Tryz.prog 47 #[.int .i64 long] w fun e w' => e = .returned (.int .i64 ((Ky.regs long).length : Int)) /\ Below w.heap.size w w' := by
 refine fun_eq 0 w Tryz.func47 (args := [.val (.int .i64 long)]) rfl rfl ?_;have hmm := Fr.mul_bd (u := 3 * (2 * long + 1)) (v := 2 * long + 1) (m := 99) (n := 33) (by omega) (by omega) (by omega) (by omega);have hmany := Rg.many_doc hl;obtain ⟨M, hM⟩ : ∃ M : Nat, 3 * (2 * long + 1) * (2 * long + 1) = M := ⟨(3 * (2 * long + 1) * (2 * long + 1)).toNat, by omega⟩;have hM1 : (Rg.many long).1 = M := by rw [hmany]; exact hM
 rw [Tb.cnt_regs hM1];refine LoopI.invC (α := Nat × World) (fun y => [(3, .val (.int .i64 (Tb.cnt long y.1 : Int))), (4, .val (.int .i64 y.1))]) (fun y => y.2) (fun y => y.1 <= M) (fun y => M - y.1) ?_ ?_
 ·intro w1 h1
  exact ⟨(0, w1), Cov.au rfl rfl rfl rfl rfl, rfl, Nat.zero_le _⟩
 rintro ⟨k, V⟩ hk;simp only at hk;have hc := fun w => rcount14_any long hl w;rw [hM] at hc;refine CallI.to1 hc fun w2 => ?_;have hle := Tb.cnt_le long k;refine Branch.mk (fun hc2 => ?_) (fun hc2 => ?_)
 ·have hlt : k < M := by have := of_decide_eq_true hc2; simp only at this; omega
  have hst := Tb.cnt_step long k;refine CallI.to1 (fun w => rof14_any (k : Int) long hl (by omega) w) fun w3 => ?_;refine NewI.mk fun b1 hb1 => ?_;refine Branch.mk (fun hc3 => ?_) (fun hc3 => ?_)
  ·rw [if_pos hc3] at hst
   have e : ((Tb.cnt long k : Nat) : Int) + 1 = ((Tb.cnt long (k + 1) : Nat) : Int) := by rw [hst]; push_cast; rfl
   refine Need.ok ?_;refine Need.ok (EndI.mk fun w9 h9 => ⟨(k + 1, w9), ?_, rfl, hlt, by simp only; omega⟩);simp only;rw [<- e];exact Cov.au rfl rfl rfl rfl rfl
  ·rw [if_neg (by rw [hc3]; decide)] at hst
   refine Need.ok (EndI.mk fun w9 h9 => ⟨(k + 1, w9), ?_, rfl, hlt, by simp only; omega⟩);simp only;rw [hst];exact Cov.au rfl rfl rfl rfl rfl
 ·have hge : k = M := by have := of_decide_eq_false hc2; simp only at this; omega
  subst hge;exact EndI.mk fun w9 h9 => rfl
theorem rcrowded24_any (zones long : Int) (hl : 1 <= long /\ long <= 16) (w : World) : Calls Tryz.prog 19 #[.int .i64 zones, .int .i64 long] w fun e w' => e = .returned (.bool (Tb.crowded zones long)) /\ Below w.heap.size w w' := by
 refine fun_eq 0 w Tryz.func19 (args := [.val (.int .i64 zones), .val (.int .i64 long)]) rfl rfl ?_;have hr := Ky.regs_len hl;unfold Tb.crowded;refine CallI.to1 (fun w => rregions24_any long hl w) fun w2 => ?_;refine Branch.mk (fun h1 => ?_) (fun h1 => ?_)
 ·exact EndI.mk fun w9 h9 => by rw [h1]; rfl
 refine Need.ok ?_;exact EndI.mk fun w9 h9 => by rw [h1]; rfl
namespace Wn
open Mi Dbm
end Wn
namespace Ky
open Mi Dbm Cv Zs
end Ky
namespace Cl
open Cv Zs Ky Cmp
theorem and_good {long : Int} (hl : 1 <= long /\ long <= 6) {a b : List Zn} (ha : Good long a) (hb : Good long b) : (Zs.and a b).2 = 0 /\ Good long (Zs.and a b).1 /\ ∀ t, Pts (Zs.and a b).1 t ↔ Pts a t /\ Pts b t := by
 have h1 := ha.len hl;have h2 := hb.len hl;obtain ⟨h3, h4⟩ := and_ml (long := long) (by omega) ha.ml.mt hb.chk (by omega) (by omega);obtain ⟨_, h5, h6⟩ := and_ok h3;exact ⟨h3, good_of hl h5.1 h4 h5, h6⟩
end Cl
namespace Tb
open Cv Zs Ky Cmp
abbrev Tab := List Zn × List Zn
def p0 (ls : List Tab) : Tab := ls[0]?.getD ([], [])
def p1 (ls : List Tab) : Tab := ls[1]?.getD ([], [])
def sp0 : Sp := ⟨0, false, 0, false, false⟩
def known (k : Int) : Bool := decide (k = 2) || decide (k = 3) || decide (k = 4) || decide (k = 6)
def shape (k : Int) (s : Sp) (n : Nat) : Bool := known k && (if k = 6 then decide (n = 1) && decide (Tr.ival s = 0) else decide (n = 2) && decide (s = sp0))
def way (k : Int) (s : Sp) (ls : List Tab) : List Zn × Int :=
 if k = 2 then Zs.or (p0 ls).2 (p1 ls).2 else if k = 3 then Zs.and (p0 ls).2 (p1 ls).2 else if k = 4 then Zs.comp (p0 ls).1 (p1 ls).2 else Zs.within (p0 ls).2 s
def new (k : Int) (s : Sp) (ls : List Tab) (zones : Int) : List Zn × Int :=
 if ask zones ls ≠ 0 then ([], ask zones ls) else if shape k s ls.length = false then ([], 2) else capped (way k s ls).1 (way k s ls).2 zones
def lists (ls : List Tab) : List Zn := ls.flatMap fun x => x.1 ++ x.2
def big (ls : List Tab) : Bool := (ls.take 10).any fun x => decide (40 < x.1.length) || decide (40 < x.2.length)
def great (ls : List Tab) (l : List Zn) : Bool := big ls || (decide (10 < ls.length) || (decide (40 < l.length) || (decide (6 < lng 0 (lists ls)) || decide (6 < lng 0 l))))
theorem great_no {ls : List Tab} {l : List Zn} (h : great ls l = false) : (∀ x, x ∈ ls -> x.1.length <= 40 /\ x.2.length <= 40) /\ ls.length <= 10 /\ l.length <= 40 /\ lng 0 (lists ls) <= 6 /\ lng 0 l <= 6 := by
 unfold great big at h;simp only [Bool.or_eq_false_iff, decide_eq_false_iff_not] at h;obtain ⟨h1, h2, h3, h4, h5⟩ := h;refine ⟨fun x hx => ?_, by omega, by omega, by omega, by omega⟩;have h6 := List.any_eq_false.1 h1 x (by rw [List.take_of_length_le (by omega)]; exact hx);simp only [Bool.or_eq_true, decide_eq_true_eq, not_or] at h6;omega
theorem lists_c {ls : List Tab} (h : lng 0 (lists ls) <= 6) {long : Int} (hl : lng 0 (lists ls) <= long) {x : Tab} (hx : x ∈ ls) : (∀ z, z ∈ x.1 -> z.c <= 2 * long + 1) /\ ∀ z, z ∈ x.2 -> z.c <= 2 * long + 1 := by
 have hm := lng_mem (lists ls) 0 (by omega) h;refine ⟨fun z hz => ?_, fun z hz => ?_⟩
 ·have := hm z (List.mem_flatMap.2 ⟨x, hx, List.mem_append_left _ hz⟩)
  omega
 ·have := hm z (List.mem_flatMap.2 ⟨x, hx, List.mem_append_right _ hz⟩)
  omega
structure GT (long : Int) (x : Tab) : Prop where
 a : Cl.Good long x.1
 n : Cl.Good long x.2
 sub : ∀ t, Pts x.2 t -> Pts x.1 t
theorem tmay_gt {long : Int} (hl : 1 <= long /\ long <= 6) {x : Tab} (h : tmay x.1 x.2 = true) (h1 : ∀ z, z ∈ x.1 -> z.c <= 2 * long + 1) (h2 : ∀ z, z ∈ x.2 -> z.c <= 2 * long + 1) : GT long x := by
 unfold tmay at h;split at h
 ·cases h
 rename_i hn;simp only [not_or, Classical.not_not, Bool.not_eq_true] at hn;simp only [Bool.and_eq_true, decide_eq_true_eq, Bool.not_eq_true'] at h;have ga := Cl.good_check hl hn.1 hn.2.2 h1;have gn := Cl.good_check hl hn.2.1 h.2.2 h2;exact ⟨ga, gn, ((Cl.in_good hl gn ga).2).1 h.2.1⟩
theorem gt_tmay {long : Int} (hl : 1 <= long /\ long <= 6) {x : Tab} (h : GT long x) : tmay x.1 x.2 = true := by
 unfold tmay;rw [Cl.good_check0 h.a, Cl.good_check0 h.n, Cl.good_odd h.a, Cl.good_odd h.n, if_neg (by simp), (Cl.in_good hl h.n h.a).1, ((Cl.in_good hl h.n h.a).2).2 h.sub]
 rfl
theorem rl_le (l : List Zn) {long : Int} (hl : 1 <= long /\ long <= 6) : (rl l long).length <= 507 := by
 unfold rl Rg.up;rw [List.length_map];refine Nat.le_trans (List.length_filter_le _ _) ?_;rw [List.length_range, Rg.many_doc (by omega)];have hm := Fr.mul_bd (u := 3 * (2 * long + 1)) (v := 2 * long + 1) (m := 39) (n := 13) (by omega) (by omega) (by omega) (by omega);simp only;omega
def fine (long : Int) (x : Tab) : Bool := may x.1 && (may x.2 && decide ((Rg.andI (rl x.2 long) (rl x.1 long)).length = (rl x.2 long).length))
theorem may_good {long : Int} (hl : 1 <= long /\ long <= 6) {l : List Zn} (h : may l = true) (hc : ∀ z, z ∈ l -> z.c <= 2 * long + 1) : Cl.Good long l := Cl.good_check hl ((may_iff l).1 h).1 ((may_iff l).1 h).2 hc
theorem good_may {long : Int} {l : List Zn} (h : Cl.Good long l) : may l = true := (may_iff l).2 ⟨Cl.good_check0 h, Cl.good_odd h⟩
theorem and_len {long : Int} (hl : 1 <= long /\ long <= 6) {a b : List Zn} (ha : Cl.Good long a) (hb : Cl.Good long b) : (Rg.andI (rl b long) (rl a long)).length = (rl b long).length ↔ ∀ t, Pts b t -> Pts a t := by
 have hm := Rg.mem_andI (rl b long) (rl a long) (rl_rising _ _) (rl_rising _ _);have hl16 : 1 <= long /\ long <= 16 := by omega
 constructor
 ·intro h t ht
  apply Classical.byContradiction;intro hna;obtain ⟨z, hz, hf⟩ := ht;obtain ⟨n, hn, hy⟩ := (hb.ml.mt z hz).rep hl16 hf;have hnb : n ∈ rl b long := (mem_rl hb.chk hl16).2 ⟨hn, z, hz, (hy z).1 hf⟩;have hnn : n ∉ Rg.andI (rl b long) (rl a long) := fun hh => by
   obtain ⟨_, y, hym, hyf⟩ := (mem_rl ha.chk hl16).1 ((hm n).1 hh).2;exact hna ⟨y, hym, (hy y).2 hyf⟩
  have hd : (Rg.andI (rl b long) (rl a long)).Nodup := by
   have := and_rl (a := b) (b := a) (Cl.and_good hl hb ha).1 hl16;rw [this];exact (rl_rising _ _).imp fun k => by omega
  have h1 := nodup_sub (n :: Rg.andI (rl b long) (rl a long)) (rl b long) (List.nodup_cons.2 ⟨hnn, hd⟩) fun x hx => by
   rcases List.mem_cons.1 hx with rfl | hx
   ·exact hnb
   ·exact ((hm x).1 hx).1
  simp only [List.length_cons] at h1;omega
 ·intro h
  have : Rg.andI (rl b long) (rl a long) = rl b long := by
   have e := and_rl (a := b) (b := a) (Cl.and_good hl hb ha).1 hl16;refine rising_eq (by rw [e]; exact rl_rising _ _) (rl_rising _ _) fun x => (hm x).trans ⟨fun k => k.1, fun k => ⟨k, ?_⟩⟩;obtain ⟨k1, k2⟩ := (mem_rl hb.chk hl16).1 k;exact (mem_rl ha.chk hl16).2 ⟨k1, h _ k2⟩
  rw [this]
theorem fine_tmay {long : Int} (hl : 1 <= long /\ long <= 6) {x : Tab} (h1 : ∀ z, z ∈ x.1 -> z.c <= 2 * long + 1) (h2 : ∀ z, z ∈ x.2 -> z.c <= 2 * long + 1) : fine long x = tmay x.1 x.2 := by
 rw [Bool.eq_iff_iff];constructor
 ·intro h
  unfold fine at h;simp only [Bool.and_eq_true, decide_eq_true_eq] at h;have ga := may_good hl h.1 h1;have gn := may_good hl h.2.1 h2;exact gt_tmay hl ⟨ga, gn, (and_len hl ga gn).1 h.2.2⟩
 ·intro h
  have g := tmay_gt hl h h1 h2;unfold fine;rw [good_may g.a, good_may g.n, decide_eq_true ((and_len hl g.a g.n).2 g.sub)]
  rfl
end Tb
namespace Fr
end Fr
namespace Tb
open Cv Zs Ky Cmp Mi Dbm
def fits (s : Sp) (long : Int) : Bool := (decide (2 * s.lo < long) || (decide (long = 2 * s.lo) && !s.ls)) && (s.op || (decide (long < 2 * s.hi) || (decide (long = 2 * s.hi) && !s.hs)))
def pt (t u : Int) : Pt := ⟨(Fr.of t 2).1, (Fr.of u 2).1⟩
def check (k : Int) (s : Sp) (ls : List Tab) (zones long : Int) : Int :=
 if zones < 1 \/ 4096 < zones then 2 else if (ls.any fun x => !fine long x) = true then 8 else if shape k s ls.length = true then 0 else 2
def add (t : Tab) (l : List Zn) (zones : Int) : Tab × Int :=
 if ask zones [t, (l, l)] ≠ 0 then (([], []), ask zones [t, (l, l)]) else if (capped (Zs.or t.1 l).1 (Zs.or t.1 l).2 zones).2 ≠ 0 \/ zones < (l.length : Int) then (([], []), 300) else (((capped (Zs.or t.1 l).1 (Zs.or t.1 l).2 zones).1, l), 0)
def longOf2 (t : Tab) (l : List Zn) : Int := max 1 (max (lng 0 (lists [t])) (lng 0 l))
theorem long_fit2 {t : Tab} {l : List Zn} (h : great [t] l = false) : (1 <= longOf2 t l /\ longOf2 t l <= 6) /\ lng 0 (lists [t]) <= longOf2 t l /\ lng 0 l <= longOf2 t l := by
 obtain ⟨_, _, _, h4, h5⟩ := great_no h;unfold longOf2;omega
theorem add_c {t : Tab} {l : List Zn} (h : great [t] l = false) : ((∀ z, z ∈ t.1 -> z.c <= 2 * longOf2 t l + 1) /\ ∀ z, z ∈ t.2 -> z.c <= 2 * longOf2 t l + 1) /\ ∀ z, z ∈ l -> z.c <= 2 * longOf2 t l + 1 := by
 obtain ⟨hl, h1, h2⟩ := long_fit2 h;obtain ⟨_, _, _, h4, h5⟩ := great_no h;refine ⟨lists_c (ls := [t]) (by omega) h1 (by simp), fun z hz => ?_⟩;have := lng_mem l 0 (by omega) (by omega) z hz;omega
theorem fine_self {long : Int} (hl : 1 <= long /\ long <= 6) {l : List Zn} (hc : ∀ z, z ∈ l -> z.c <= 2 * long + 1) : fine long (l, l) = may l := by
 unfold fine;cases hm : may l with
 | false => rfl
 | true =>
   have g := may_good hl hm hc;rw [decide_eq_true ((and_len hl g g).2 fun t ht => ht)]
   rfl
theorem adds_law {t : Tab} {l : List Zn} {zones : Int} (h : great [t] l = false) :
 ((zones < 1 \/ 4096 < zones) -> (add t l zones).2 = 2) /\
 (¬ (zones < 1 \/ 4096 < zones) -> (fine (longOf2 t l) t = false \/ may l = false) -> (add t l zones).2 = 8) /\
 (¬ (zones < 1 \/ 4096 < zones) -> fine (longOf2 t l) t = true -> may l = true ->
   (add t l zones = (([], []), 300) /\ crowded zones (longOf2 t l) = true) \/ (∃ x, add t l zones = ((x, l), 0) /\ Cl.Good (longOf2 t l) t.1 /\ Cl.Good (longOf2 t l) l /\ Cl.Good (longOf2 t l) x /\ fine (longOf2 t l) (x, l) = true /\ (x.length : Int) <= zones /\ Rg.orI (rl t.1 (longOf2 t l)) (rl l (longOf2 t l)) = rl x (longOf2 t l))) := by
 obtain ⟨hl, _, _⟩ := long_fit2 h;obtain ⟨hct, hcl⟩ := add_c h;have e1 := fine_tmay hl hct.1 hct.2;have e2 := fine_tmay (x := (l, l)) hl hcl hcl;rw [fine_self hl hcl] at e2;simp only at e2;refine ⟨fun hz => ?_, fun hz hf => ?_, fun hz hf hm => ?_⟩
 ·unfold add ask
  rw [if_pos hz, if_pos (by decide)]
 ·have ha : ask zones [t, (l, l)] = 8 := by
   unfold ask;rw [if_neg hz, if_pos];simp only [List.any_cons, List.any_nil, Bool.or_false, Bool.or_eq_true, Bool.not_eq_true'];rw [<- e1, <- e2];exact hf
  unfold add;rw [ha, if_pos (by decide)]
 ·have ha : ask zones [t, (l, l)] = 0 := by
   unfold ask;rw [if_neg hz, if_neg];simp only [List.any_cons, List.any_nil, Bool.or_false, Bool.or_eq_true, Bool.not_eq_true'];rw [<- e1, <- e2, hf, hm];simp
  have gt := tmay_gt hl (e1 ▸ hf) hct.1 hct.2;have gl := may_good hl hm hcl;obtain ⟨o1, o2, o3⟩ := Cl.or_good hl gt.a gl;have hl16 : 1 <= longOf2 t l /\ longOf2 t l <= 16 := by omega
  have l1 := o2.ml.len hl16;have l2 := gl.ml.len hl16;unfold add;rw [ha, if_neg (by decide)]
  by_cases hx : zones < ((Zs.or t.1 l).1.length : Int)
  ·left
   have : (capped (Zs.or t.1 l).1 (Zs.or t.1 l).2 zones) = ([], 300) := by unfold capped; rw [if_pos (.inr hx)]
   rw [this, if_pos (.inl (by decide))];exact ⟨rfl, by unfold crowded; rw [decide_eq_true (by omega : zones < ((regs (longOf2 t l)).length : Int))]; rfl⟩
  have hcp : (capped (Zs.or t.1 l).1 (Zs.or t.1 l).2 zones) = ((Zs.or t.1 l).1, 0) := by unfold capped; rw [if_neg (fun q => q.elim (fun q => q o1) hx)]
  rw [hcp]
  by_cases hy : zones < (l.length : Int)
  ·left
   rw [if_pos (.inr hy)];exact ⟨rfl, by unfold crowded; rw [decide_eq_true (by omega : zones < ((regs (longOf2 t l)).length : Int))]; rfl⟩
  ·right
   rw [if_neg (by rintro (q | q); exact q rfl; exact hy q)];refine ⟨(Zs.or t.1 l).1, rfl, gt.a, gl, o2, ?_, by omega, or_rl o1 hl16⟩;unfold fine;rw [good_may o2, hm, decide_eq_true ((and_len hl o2 gl).2 fun t ht => (o3 t).2 (.inr ht))]
   rfl
end Tb
abbrev TMf : TypeId := 74
abbrev TU8 : TypeId := 5
abbrev TWay : TypeId := 72
theorem und8 : Tryz.prog.underlying TU8 = some (.int .u8) := by kernel_rfl
theorem undMf : Tryz.prog.underlying TMf = some (.map TU8 TWay) := by kernel_rfl
theorem key8 : Maps.Keyed Tryz.prog TU8 := Maps.int_keyed und8
def heldR (v : Value) : Option (DataW Value × List MemPlace) := some (.held v, [])
def FMap (W : World) (b n : Nat) (f : Int -> Option Value) : Prop :=
 ∃ D : DataW Value, W.ownsMap Tryz.prog TU8 heldR b n D /\ Maps.Tidy D /\ ∀ x : Int, D.atKey (.int .u8 x) .nil = (match f x with | some v => .held v | none => .nil)
theorem FMap.lt {W : World} {b n : Nat} {f : Int -> Option Value} (h : FMap W b n f) : b < W.heap.size := by
 obtain ⟨D, h1, _⟩ := h; exact h1.lt
theorem FMap.kept {W X : World} {b n : Nat} {f : Int -> Option Value} (h : FMap W b n f) (e : X.heap[b]? = W.heap[b]?) : FMap X b n f := by
 obtain ⟨D, ⟨es, clock, hb, F, hs, hD⟩, h2, h3⟩ := h;exact ⟨D, ⟨es, clock, e.trans hb, F, hs, hD⟩, h2, h3⟩
theorem FMap.below {W X : World} {b n : Nat} {f : Int -> Option Value} (h : FMap W b n f) (hB : Below W.heap.size W X) : FMap X b n f := h.kept (hB.block b h.lt)
theorem FMap.at {w0 : Base} {hp : List LB} {r L : List Nat} {w w1 : World} {b n : Nat} {f : Int -> Option Value} (h : FMap w b n f) (h1 : At w0 hp r L w w1) (hL : b ∉ L) : FMap w1 b n f := h.kept (h1.step b h.lt hL)
theorem FMap.made (w : World) : FMap (w.alloc (.map #[] 0)) w.heap.size 0 (fun _ => none) :=
 ⟨.map [], World.ownsMap_made w _ _ _, Maps.tidy_empty, fun x => by simp [DataW.atKey]⟩
theorem wf8 {x : Int} (hx : 0 <= x /\ x <= 255) : (Lit.int .u8 x).wf = true := by
 simp [Lit.wf, IntKind.min, IntKind.max, IntKind.bits, IntKind.signed]; omega
theorem FMap.put {W : World} {b n : Nat} {f : Int -> Option Value} (h : FMap W b n f) (x : Int) (hx : 0 <= x /\ x <= 255) (v : Value) (hn : n < 1000000000) :
 ∃ W', (Instr.mapUpdate TMf (.map (some b)) (.int .u8 x) v).run Tryz.prog W = .ok () W' /\ FMap W' b (n + 1) (fun y => if y = x then some v else f y) /\ W.grownBy W' (some b) := by
 obtain ⟨D, h1, h2, h3⟩ := h;have hk := Maps.keyOf_int_mk (P := Tryz.prog) (k := TU8) und8 (wf8 hx);have hkl := key8.key hk;obtain ⟨W', hrun, ho, hg⟩ := h1.update (t := TMf) (e := TWay) key8 undMf (by unfold maxLen; omega) hk (show heldR v = some (.held v, []) from rfl);refine ⟨W', hrun, ⟨_, ho, h2.put hkl _, fun y => ?_⟩, hg⟩
 by_cases e : y = x
 ·subst e
  rw [Maps.atKey_put_same h2.isMap hkl];simp only [if_true]
 ·have hne : (Lit.int .u8 y) ≠ (Lit.int .u8 x) := fun h => e (by injection h)
  rw [Maps.atKey_put_other hne, h3 y];simp only [if_neg e]
namespace Tb
theorem Parts.st {ts : List Tbl} {ls : List Tab} {w0 : Base} {l : List World} {X w : World} (h : Parts X.heap.size X ts ls) (st : Stay w0 l w) (hX : X ∈ l := by simp) : Parts w.heap.size w ts ls := h.go (st.get hX) (st.get hX).size
theorem Parts.one {n : Nat} {W : World} {ts : List Tbl} {ls : List Tab} (h : Parts n W ts ls) (k : Nat) (hk : k < ls.length) : ∃ (x y : Option Addr) (cx cy : Nat), ts[k]? = some (⟨⟨x, (ls[k]?.getD ([], [])).1.length, cx⟩, ⟨y, (ls[k]?.getD ([], [])).2.length, cy⟩⟩ : Tbl) /\ Sl n W (.slice x (ls[k]?.getD ([], [])).1.length cx) (ls[k]?.getD ([], [])).1 /\ Sl n W (.slice y (ls[k]?.getD ([], [])).2.length cy) (ls[k]?.getD ([], [])).2 := by
 have hl := List.getElem?_eq_getElem (l := ls) (i := k) hk;have ht := List.getElem?_eq_getElem (l := ts) (i := k) (by have := h.1; omega);generalize ls[k]'hk = l at hl;generalize ts[k]'(by have := h.1; omega) = t at ht;obtain ⟨h1, e1, h2, e2⟩ := h.2 k t l ht hl;obtain ⟨⟨ta, tl, tc⟩, ⟨na, nl, nc⟩⟩ := t;simp only at h1 e1 h2 e2;subst e1; subst e2;rw [hl];exact ⟨ta, na, tc, nc, ht, h1, h2⟩
end Tb
namespace Tb
end Tb
namespace Tb
theorem Parts.nil {n : Nat} {W : World} : Parts n W [] [] := ⟨rfl, fun k t l h => by simp at h⟩
theorem Parts.cons {n : Nat} {W : World} {ts : List Tbl} {ls : List Tab} (h : Parts n W ts ls) {p q : List Zn} {a b : Option Addr} {ca cb : Nat} (h1 : Sl n W (.slice a p.length ca) p) (h2 : Sl n W (.slice b q.length cb) q) : Parts n W (⟨⟨a, p.length, ca⟩, ⟨b, q.length, cb⟩⟩ :: ts) ((p, q) :: ls) := by
 refine ⟨by simp [h.1], fun k t l ht hl => ?_⟩;cases k with
 | zero =>
   simp at ht hl;subst ht; subst hl;exact ⟨h1, rfl, h2, rfl⟩
 | succ k =>
   simp at ht hl;exact h.2 k t l ht hl
end Tb
set_option maxHeartbeats 2000000 in
theorem tadd_any (p q l : List Zn) (hlen : l.length <= 1000000) (zones : Int) (a b d : Option Addr) (ca cb cd : Nat) (w : World) (hS : Sl w.heap.size w (.slice a p.length ca) p) (hT : Sl w.heap.size w (.slice b q.length cb) q) (hL : Sl w.heap.size w (.slice d l.length cd) l) :
 Calls Tryz.prog 16 #[.agg #[.slice a p.length ca, .slice b q.length cb], .slice d l.length cd, .int .i64 zones] w (Ret w fun v w' => ∃ a1 c1 a2 c2, v = .tuple #[.agg #[.slice a1 (Tb.add (p, q) l zones).1.1.length c1, .slice a2 (Tb.add (p, q) l zones).1.2.length c2], .int .i64 (Tb.add (p, q) l zones).2] /\ Own TZ w.heap.size w' (.slice a1 (Tb.add (p, q) l zones).1.1.length c1) (Tb.add (p, q) l zones).1.1 /\ Own TZ w.heap.size w' (.slice a2 (Tb.add (p, q) l zones).1.2.length c2) (Tb.add (p, q) l zones).1.2) := by
 refine fun_ret 0 w Tryz.func16 (args := [.agg [.val (.slice a p.length ca), .val (.slice b q.length cb)], .val (.slice d l.length cd), .val (.int .i64 zones)]) rfl rfl ?_;have st := Stay.first (w := w)
 refine NewI.mk fun b1 hb1 => ?_;refine NewI.mk fun b2 hb2 => ?_;refine NewI.mk fun b3 hb3 => ?_;unfold Tb.add;apply CallI.use1
 focus (exact fun w2 h2 => tasked_any zones [⟨⟨a, p.length, ca⟩, ⟨b, q.length, cb⟩⟩, ⟨⟨d, l.length, cd⟩, ⟨d, l.length, cd⟩⟩] [(p, q), (l, l)] _ _ w2 (((Tb.Parts.nil.cons (hL.st (st.at h2)) (hL.st (st.at h2)))).cons (hS.st (st.at h2)) (hT.st (st.at h2))) (Sl.own (l := [(⟨⟨a, p.length, ca⟩, ⟨b, q.length, cb⟩⟩ : Tbl), ⟨⟨d, l.length, cd⟩, ⟨d, l.length, cd⟩⟩]) h2 2 rfl rfl rfl (Nat.le_refl _) (by simp [maxLen])))
 intro w2 v2 h2 hB2;have st := st.nx h2 hB2;refine Branch.mk (fun h1 => ?_) (fun h1 => ?_)
 ·rw [if_pos (of_decide_eq_true h1)]
  exact EndI.mk fun w9 h9 => ⟨_, _, _, _, rfl, Own.nil, Own.nil⟩
 rw [if_neg (of_decide_eq_false h1)];apply CallI.use
 focus (exact fun w3 h3 => zsor_any p l a d ca cd w3 (hS.st (st.at h3)) (hL.st (st.at h3)))
 rintro v w3 v3 h3 hB3 ⟨a3, c3, rfl, hO3⟩;have st := st.nx h3 hB3;have hcp := fun (w : World) => capped_any (Zs.or p l).1 (Zs.or p l).2 zones a3 c3 w
 by_cases h4 : (Zs.or p l).2 ≠ 0 \/ zones < ((Zs.or p l).1.length : Int)
 ·have e : Tb.capped (Zs.or p l).1 (Zs.or p l).2 zones = ([], 300) := by unfold Tb.capped; rw [if_pos h4]
  simp only [if_pos h4] at hcp;rw [if_pos (show (Tb.capped (Zs.or p l).1 (Zs.or p l).2 zones).2 ≠ 0 \/ zones < (l.length : Int) from .inl (by rw [e]; decide))];apply CallI.use1
  focus (exact fun w4 h4 => hcp w4)
  intro w4 v4 h4 hB4;have st := st.nx h4 hB4;refine Branch.yes rfl ?_;exact EndI.mk fun w9 h9 => ⟨_, _, _, _, rfl, Own.nil, Own.nil⟩
 ·have e : Tb.capped (Zs.or p l).1 (Zs.or p l).2 zones = ((Zs.or p l).1, 0) := by unfold Tb.capped; rw [if_neg h4]
  simp only [if_neg h4] at hcp;apply CallI.use1
  focus (exact fun w4 h4 => hcp w4)
  intro w4 v4 h4 hB4;have st := st.nx h4 hB4;refine Branch.no rfl ?_;refine Branch.mk (fun h5 => ?_) (fun h5 => ?_)
  ·rw [if_pos (show (Tb.capped (Zs.or p l).1 (Zs.or p l).2 zones).2 ≠ 0 \/ zones < (l.length : Int) from .inr (of_decide_eq_true h5))]
   exact EndI.mk fun w9 h9 => ⟨_, _, _, _, rfl, Own.nil, Own.nil⟩
  ·rw [if_neg (show ¬ ((Tb.capped (Zs.or p l).1 (Zs.or p l).2 zones).2 ≠ 0 \/ zones < (l.length : Int)) from fun q => q.elim (fun q => q (by rw [e])) (of_decide_eq_false h5)), e]
   apply CallI.use
   focus (exact fun w5 h5 => cloneZ_any l d cd w5 (hL.st (st.at h5)) hlen)
   rintro v w5 v5 h5 hB5 hO5;have st := st.nx h5 hB5;obtain ⟨a5, c5, rfl⟩ := hO5.form;exact EndI.mk fun w9 h9 => ⟨_, _, _, _, rfl, ((hO3.st st).at h9 (fun x hx => by simp at hx; rw [hx]; exact h3.lt b2 (by simp))).lower h3.below.size, (hO5.at h9 (fun x hx => by simp at hx; rw [hx]; exact h5.lt b2 (by simp))).lower h5.below.size⟩
namespace Rg
end Rg
namespace Tr
end Tr
theorem rin24_any (l m : List Int) (hl : l.length <= 400000) (hm : m.length <= 400000) (a b : Option Addr) (ca cb : Nat) (w : World) (hS : Sl w.heap.size w (.slice a l.length ca) l) (hT : Sl w.heap.size w (.slice b m.length cb) m) :
 Calls Tryz.prog 45 #[.slice a l.length ca, .slice b m.length cb] w fun e w' => e = .returned (.bool (decide ((Rg.andI l m).length = l.length))) /\ Below w.heap.size w w' := by
 refine fun_eq 0 w Tryz.func45 (args := [.val (.slice a l.length ca), .val (.slice b m.length cb)]) rfl rfl ?_;have st := Stay.first (w := w)
 apply CallI.use
 focus (exact fun w1 h1 => rand14_any l m hl hm a b ca cb w1 (hS.st (st.at h1)) (hT.st (st.at h1)))
 rintro v w1 v1 h1 hB1 hO1;have st := st.nx h1 hB1;obtain ⟨a1, c1, rfl⟩ := hO1.form;exact EndI.mk fun w9 h9 => by simp only [Int.natCast_inj]
namespace Tb
open Ky Cl
theorem lists_take {ls : List Tab} {k : Nat} {x : Tab} (h : ls[k]? = some x) : lists (ls.take (k + 1)) = lists (ls.take k) ++ x.1 ++ x.2 := by
 unfold lists;rw [List.take_add_one, h, List.flatMap_append];simp
theorem lists_le (ls : List Tab) (k : Nat) : (lists (ls.take k)).length <= (lists ls).length := by
 conv => rhs; rw [<- List.take_append_drop k ls]
 unfold lists;rw [List.flatMap_append, List.length_append];omega
theorem lists_i64 {ls : List Tab} (h : ∀ x, x ∈ ls -> (∀ z, z ∈ x.1 -> Zo.i64 z) /\ ∀ z, z ∈ x.2 -> Zo.i64 z) : ∀ z, z ∈ lists ls -> Zo.i64 z := fun z hz => by
 unfold lists at hz;obtain ⟨x, hx, hz⟩ := List.mem_flatMap.1 hz;rcases List.mem_append.1 hz with hz | hz
 ·exact (h x hx).1 z hz
 ·exact (h x hx).2 z hz
theorem lists_len {ls : List Tab} (h1 : ls.length <= 10) (h2 : big ls = false) : (lists ls).length <= 800 := by
 have key : ∀ l : List Tab, (∀ x, x ∈ l -> x.1.length <= 40 /\ x.2.length <= 40) -> (lists l).length <= 80 * l.length := by
  intro l
  induction l with
  | nil => intro _; simp [lists]
  | cons x l ih =>
    intro h;have := ih fun y hy => h y (by simp [hy]);have hx := h x (by simp);unfold lists at this ⊢;simp only [List.flatMap_cons, List.length_append, List.length_cons];omega
 have := key ls fun x hx => by
  unfold big at h2;have h6 := List.any_eq_false.1 h2 x (by rw [List.take_of_length_le h1]; exact hx);simp only [Bool.or_eq_true, decide_eq_true_eq, not_or] at h6;omega
 omega
end Tb
set_option maxHeartbeats 1000000 in
theorem rlists24_any (ts : List Tbl) (ls : List Tb.Tab) (htot : (Tb.lists ls).length <= 100000) (a : Option Addr) (c : Nat) (w : World) (hP : Tb.Parts w.heap.size w ts ls) (hS : Sl w.heap.size w (.slice a ts.length c) ts) :
 Calls Tryz.prog 15 #[.slice a ts.length c] w (Ret w fun v w' => ∃ a' c', v = .slice a' (Tb.lists ls).length c' /\ Own TZ w.heap.size w' (.slice a' (Tb.lists ls).length c') (Tb.lists ls)) := by
 refine fun_ret 0 w Tryz.func15 (args := [.val (.slice a ts.length c)]) rfl rfl ?_;have hlen := hP.1;obtain ⟨_, _, hfe, hcap1, hcap2, _⟩ := hS.form;injection hfe with _ _ hfe;subst hfe;unfold maxLen at hcap2;refine LoopI.invC (α := Nat × World × Value) (fun y => [(4, .val (.int .i64 y.1)), (3, .val y.2.2)]) (fun y => y.2.1) (fun y => y.1 <= ts.length /\ Below w.heap.size w y.2.1 /\ Own TZ w.heap.size y.2.1 y.2.2 (Tb.lists (ls.take y.1))) (fun y => ts.length - y.1) ?_ ?_
 ·intro w3 h3
  exact ⟨(0, w3, .slice none 0 0), Cov.au rfl rfl rfl rfl rfl, rfl, Nat.zero_le _, h3.below, Own.nil⟩
 rintro ⟨k, U, tv⟩ ⟨hk, hU, hO⟩;simp only at hk hU hO;refine Branch.mk (fun hc => ?_) (fun hc => ?_)
 ·have hlt : k < ts.length := by have := of_decide_eq_true hc; simp only at this; omega
  obtain ⟨x, y, cx, cy, t0, sa, sn⟩ := hP.one k (by omega);have hl := List.getElem?_eq_getElem (l := ls) (i := k) (by omega);generalize ls[k]'(by omega) = l at hl;rw [hl] at t0 sa sn;simp only [Option.getD_some] at t0 sa sn;have hft := Tb.lists_take hl;have hfl := Tb.lists_le ls (k + 1);rw [hft, List.length_append, List.length_append] at hfl;have hSU := hS.go hU hU.size;refine hSU.idx t0 fun ad had => ?_;refine hSU.ldx t0 had (Below.refl _ _) (by simp) (i := 0) (c := .slice x l.1.length cx) rfl ?_;refine GenN.app (α := Zn) elZ (Tb.lists (ls.take k)) l.1 w.heap.size (fun w5 h5 => hO.at h5 (by simp)) (fun w5 h5 => (sa.go h5.below h5.below.size).src) (by unfold maxLen; omega) (by omega) (fun w5 h5 => h5.below.size) (fun w5 w6 h5 hg => keep_grown h5 hg (fun k hk => ⟨(hO.lt k hk).1, by simp⟩)) fun v1 w5 w6 h5 hg hO1 => ?_;have hB6 : Below w.heap.size w w6 := grown_belowM h5.below hg (fun k hk => (hO.lt k hk).1) h5.below.size;have hS6 := hS.go hB6 hB6.size;refine hS6.idx t0 fun ad2 had2 => ?_;refine hS6.ldx t0 had2 (Below.refl _ _) (by simp) (i := 1) (c := .slice y l.2.length cy) rfl ?_;refine GenN.app (α := Zn) elZ (Tb.lists (ls.take k) ++ l.1) l.2 w.heap.size (fun w7 h7 => hO1.at h7 (by simp)) (fun w7 h7 => (sn.go h7.below h7.below.size).src) (by unfold maxLen; simp; omega) (by simp; omega) (fun w7 h7 => h7.below.size) (fun w7 w8 h7 hg => keep_grown h7 hg (fun k hk => ⟨(hO1.lt k hk).1, by simp⟩)) fun v2 w7 w8 h7 hg2 hO2 => ?_;rw [<- hft] at hO2;refine Need.ok (EndI.mk fun w9 h9 => ⟨(k + 1, w9, v2), Cov.au rfl rfl rfl rfl rfl, rfl, ⟨hlt, h9.below, hO2.below (at_belowM h9 (by simp))⟩, by simp only; omega⟩)
 ·have hge : k = ts.length := by have := of_decide_eq_false hc; simp only at this; omega
  subst hge;rw [List.take_of_length_le (by omega)] at hO;obtain ⟨a', c', rfl⟩ := hO.form;exact EndI.mk fun w9 h9 => ⟨_, _, rfl, hO.at h9 (by simp)⟩
set_option maxHeartbeats 1000000 in
open Cl Ky in
theorem rmay24_any (x : Tb.Tab) (hi : (∀ z, z ∈ x.1 -> Zo.i64 z) /\ ∀ z, z ∈ x.2 -> Zo.i64 z) (long : Int) (hl : 1 <= long /\ long <= 6) (hc : (∀ z, z ∈ x.1 -> z.c <= 2 * long + 1) /\ ∀ z, z ∈ x.2 -> z.c <= 2 * long + 1) (a b : Option Addr) (ca cb : Nat) (w : World) (hS : Sl w.heap.size w (.slice a x.1.length ca) x.1) (hT : Sl w.heap.size w (.slice b x.2.length cb) x.2) :
 Calls Tryz.prog 17 #[.agg #[.slice a x.1.length ca, .slice b x.2.length cb], .int .i64 long] w fun e w' => e = .returned (.bool (Tb.fine long x)) /\ Below w.heap.size w w' := by
 refine fun_eq 0 w Tryz.func17 (args := [.agg [.val (.slice a x.1.length ca), .val (.slice b x.2.length cb)], .val (.int .i64 long)]) rfl rfl ?_;have st := Stay.first (w := w)
 refine NewI.mk fun b1 hb1 => ?_;unfold Tb.fine;apply CallI.use1
 focus (exact fun w2 h2 => rmaylist_any x.1 hi.1 a ca w2 (hS.st (st.at h2)))
 intro w2 v2 h2 hB2;have st := st.nx h2 hB2;refine Branch.mk (fun h1 => ?_) (fun h1 => ?_)
 ·have h1 : Tb.may x.1 = false := by simpa using h1
  exact EndI.mk fun w9 h9 => by rw [h1]; rfl
 have h1 : Tb.may x.1 = true := by simpa using h1
 apply CallI.use1
 focus (exact fun w3 h3 => rmaylist_any x.2 hi.2 b cb w3 (hT.st (st.at h3)))
 intro w3 v3 h3 hB3;have st := st.nx h3 hB3;rw [h1];refine Branch.mk (fun h2 => ?_) (fun h2 => ?_)
 ·have h2 : Tb.may x.2 = false := by simpa using h2
  exact EndI.mk fun w9 h9 => by rw [h2]; rfl
 have h2 : Tb.may x.2 = true := by simpa using h2
 rw [h2];have ga := Tb.may_good hl h1 hc.1;have gn := Tb.may_good hl h2 hc.2;have la := ga.len hl;have ln := gn.len hl;have ra := Tb.rl_le x.1 hl;have rn := Tb.rl_le x.2 hl;have eo : ∀ l : List Zn, Rg.up long (Rg.inL l long) = rl l long := fun _ => rfl;have hxa := fun (w : World) hs => rlist14_any x.1 ga.chk (by omega) long (by omega) a ca w hs;have hxn := fun (w : World) hs => rlist14_any x.2 gn.chk (by omega) long (by omega) b cb w hs;rw [eo] at hxa hxn;refine DrawI.go (.tk 0 (.tk 1 (.tk 2 (.tk 4 (.tk 5 (.tk 6 (.ev 3 (.ev 7 (.ev 8 (.tk 9 .done)))))))))) (by kernel_rfl) fun w4 h4 => ?_;have st := st.at h4;generalize rl x.1 long = xa at *;generalize rl x.2 long = xn at *;apply CallI.use
 focus (exact fun w5 h5 => hxn w5 (hT.st (st.at h5)))
 rintro v w5 v5 h5 hB5 hO5;have st := st.nx h5 hB5;apply CallI.use
 focus (exact fun w6 h6 => hxa w6 (hS.st (st.at h6)))
 rintro v w6 v6 h6 hB6 hO6;have st := st.nx h6 hB6;obtain ⟨a5, c5, rfl⟩ := hO5.form;obtain ⟨a6, c6, rfl⟩ := hO6.form;apply CallI.use1
 focus (exact fun w7 h7 => rin24_any xn xa (by omega) (by omega) a5 a6 c5 c6 w7 ((hO5.st (st.at h7)).sl) ((hO6.st (st.at h7)).sl))
 intro w7 v7 h7 hB7;have st := st.nx h7 hB7;exact EndI.mk fun w9 h9 => rfl
set_option maxHeartbeats 1000000 in
theorem great24_any (ts : List Tbl) (ls : List Tb.Tab) (l : List Zn) (hi : ∀ x, x ∈ ls -> (∀ z, z ∈ x.1 -> Zo.i64 z) /\ ∀ z, z ∈ x.2 -> Zo.i64 z) (hil : ∀ z, z ∈ l -> Zo.i64 z) (a b : Option Addr) (c cb : Nat) (w : World) (hP : Tb.Parts w.heap.size w ts ls) (hS : Sl w.heap.size w (.slice a ts.length c) ts) (hT : Sl w.heap.size w (.slice b l.length cb) l) :
 Calls Tryz.prog 10 #[.slice a ts.length c, .slice b l.length cb] w fun e w' => e = .returned (.bool (Tb.great ls l)) /\ Below w.heap.size w w' := by
 refine fun_eq 0 w Tryz.func10 (args := [.val (.slice a ts.length c), .val (.slice b l.length cb)]) rfl rfl ?_;have hlen := hP.1;obtain ⟨_, _, hfe, hcap1, hcap2, _⟩ := hS.form;injection hfe with _ _ hfe;subst hfe;unfold maxLen at hcap2;refine LoopI.invC (α := Nat × World) (fun y => [(5, .val (.int .i64 y.1))]) (fun y => y.2) (fun y => y.1 <= ts.length /\ y.1 <= 10 /\ Below w.heap.size w y.2 /\ ∀ x, x ∈ ls.take y.1 -> ¬ 40 < x.1.length /\ ¬ 40 < x.2.length) (fun y => ts.length - y.1) ?_ ?_
 ·intro w3 h3
  exact ⟨(0, w3), Cov.au rfl rfl rfl rfl rfl, rfl, Nat.zero_le _, Nat.zero_le _, h3.below, by simp⟩
 rintro ⟨j, V⟩ ⟨hj, hj10, hV, hall⟩;simp only at hj hj10 hV hall;have fin : ∀ (hend : j = ts.length \/ j = 10), Tb.big ls = false := fun hend => by
  unfold Tb.big;rw [List.any_eq_false];intro x hx;have hm : x ∈ ls.take j := by
   rcases hend with rfl | rfl
   ·rw [List.take_of_length_le (by omega)]; exact List.mem_of_mem_take hx
   ·exact hx
  have := hall x hm;simp only [Bool.or_eq_true, decide_eq_true_eq, not_or];exact this
 by_cases hcond : j < ts.length /\ j < 10
 ·obtain ⟨hlt, hlt10⟩ := hcond
  refine Branch.yes (decide_eq_true (by simp only; omega)) ?_;refine Branch.yes (decide_eq_true (by simp only; omega)) ?_;obtain ⟨x, y, cx, cy, t0, sa, sn⟩ := hP.one j (by omega);have hg := List.getElem?_eq_getElem (l := ls) (i := j) (by omega);have hm := List.getElem_mem (l := ls) (n := j) (by omega);generalize ls[j]'(by omega) = q at hg hm;rw [hg] at t0 sa sn;simp only [Option.getD_some] at t0 sa sn;have hmt : q ∈ ls.take 10 := by
   refine List.mem_of_getElem? (i := j) ?_;rw [List.getElem?_take, if_pos hlt10]; exact hg
  have yes : 40 < q.1.length \/ 40 < q.2.length -> Tb.great ls l = true := fun h => by
   have : Tb.big ls = true := List.any_eq_true.2 ⟨q, hmt, by simpa using h⟩;unfold Tb.great;rw [this]; rfl
  have hSV := hS.go hV hV.size;refine hSV.idx t0 fun ad had => ?_;refine hSV.ldx t0 had (Below.refl _ _) (by simp) (i := 0) (c := .slice x q.1.length cx) rfl ?_;refine Branch.mk (fun h5 => ?_) (fun h5 => ?_)
  ·rw [yes (.inl (by have := of_decide_eq_true h5; omega))]
   exact EndI.mk fun w9 h9 => rfl
  have h5 : ¬ 40 < q.1.length := by have := of_decide_eq_false h5; omega
  refine hSV.idx t0 fun ad2 had2 => ?_;refine hSV.ldx t0 had2 (Below.refl _ _) (by simp) (i := 1) (c := .slice y q.2.length cy) rfl ?_;refine Branch.mk (fun h6 => ?_) (fun h6 => ?_)
  ·rw [yes (.inr (by have := of_decide_eq_true h6; omega))]
   exact EndI.mk fun w9 h9 => rfl
  have h6 : ¬ 40 < q.2.length := by have := of_decide_eq_false h6; omega
  refine Need.ok (EndI.mk fun w9 h9 => ⟨(j + 1, w9), Cov.au rfl rfl rfl rfl rfl, rfl, ⟨hlt, hlt10, h9.below, fun q' hq => ?_⟩, by simp only; omega⟩);rw [List.take_add_one, hg] at hq;rcases List.mem_append.1 hq with hq | hq
  ·exact hall q' hq
  ·simp at hq; rw [hq]; exact ⟨h5, h6⟩
 have hbig := fin (by omega)
 by_cases hjl : j < ts.length
 refine Branch.yes (decide_eq_true (by simp only; omega)) ?_;refine Branch.no (decide_eq_false (by simp only; omega)) ?_;rotate_left;refine Branch.no (decide_eq_false (by simp only; omega)) ?_
 all_goals
  unfold Tb.great;rw [hbig];refine Branch.mk (fun c1 => ?_) (fun c1 => ?_)
  ·have c1 : 10 < ls.length := by have := of_decide_eq_true c1; omega
   rw [decide_eq_true c1];exact EndI.mk fun w9 h9 => rfl
  have c1 : ¬ 10 < ls.length := by have := of_decide_eq_false c1; omega
  rw [decide_eq_false c1];refine Branch.mk (fun c2 => ?_) (fun c2 => ?_)
  ·have c2 : 40 < l.length := by have := of_decide_eq_true c2; omega
   rw [decide_eq_true c2];exact EndI.mk fun w9 h9 => rfl
  have c2 : ¬ 40 < l.length := by have := of_decide_eq_false c2; omega
  rw [decide_eq_false c2];apply CallI.use
  focus (exact fun w5 h5 => rlists24_any ts ls (by have := Tb.lists_len (by omega) hbig; omega) a c w5 (hP.go h5.below h5.below.size) (hS.go h5.below h5.below.size))
  rintro v w5 v5 h5 hB5 ⟨a5, c5, rfl, hO5⟩;apply CallI.use1
  focus (exact fun w6 h6 => rlong24_any (Tb.lists ls) (Tb.lists_i64 hi) a5 c5 w6 (Sl.go hO5.sl (at_belowM h6 (by simp)) (at_belowM h6 (by simp)).size))
  intro w6 v6 h6 hB6;refine Branch.mk (fun c3 => ?_) (fun c3 => ?_)
  ·have c3 : 6 < Tb.lng 0 (Tb.lists ls) := of_decide_eq_true c3
   rw [decide_eq_true c3];exact EndI.mk fun w9 h9 => rfl
  have c3 : ¬ 6 < Tb.lng 0 (Tb.lists ls) := of_decide_eq_false c3;rw [decide_eq_false c3];apply CallI.use1
  focus (exact fun w7 h7 => rlong24_any l hil b cb w7 (hT.go h7.below h7.below.size))
  intro w7 v7 h7 hB7;exact EndI.mk fun w9 h9 => rfl
end
end Go.Proofs.YtanhnllkccldhaaGreat
