/-
  Merged texts of this law (each with its own head below).
-/
import Derived.Test.YtanhnllkccldhaaGreatLTableNews5
import Derived.Test.YtanhnllkccldhaaGreatLTableNews1
import Derived.Test.YtanhnllkccldhaaGreatLTableNews3
import Derived.Test.YtanhnllkccldhaaGreatLTableNews4
import Derived.Laws.StructEq
namespace Go.Proofs.YtanhnllkccldhaaGreat
set_option linter.unusedVariables false
set_option linter.unusedSimpArgs false
set_option maxRecDepth 100000
section
namespace Dbm
section
variable {N : Nat} {L : List Int}
theorem pth_full (h0 : chk N L = 0) {i j : Nat} (hi : i < N) (hj : j < N) : POk N L i j (full N i) N (pth N L N i j (full N i)) := by
 obtain ⟨c1, c2, c3, c4⟩ := chk_iff.1 h0;obtain ⟨f1, f2, _, _⟩ := full_ok (N := N) (i := i) (by omega) hi;exact pth_ok h0 N i j (full N i) hi hj f1 f2
theorem low_full (h0 : chk N L = 0) {i j : Nat} (hi : i < N) (hj : j < N) {mid : List Nat} (hn : mid.Nodup) (him : i ∉ mid) (hjm : j ∉ mid) (hm : ∀ a, a ∈ mid -> a < N) : ole (ob (pth N L N i j (full N i))) (way (mx N L) (i :: (mid ++ [j]))) := by
 obtain ⟨c1, c2, c3, c4⟩ := chk_iff.1 h0;obtain ⟨_, _, _, f4⟩ := full_ok (N := N) (i := i) (by omega) hi;exact (pth_full h0 hi hj).low mid hn him hjm (fun a ha => ⟨hm a ha, f4 a (hm a ha) (fun e => him (e ▸ ha))⟩) (nodup_len N mid hn hm)
theorem ole_one {v : Int} (h : 1 <= v) : ole (some 1) (ob v) := by
 unfold ob; split
 ·trivial
 ·exact h
theorem one_of_ole {v : Int} (h : ole (some 1) (ob v)) : 1 <= v := by
 unfold ob at h;split at h
 ·rename_i e; rw [e]; decide
 ·exact h
theorem diag_some (hL : L.length = N * N) (hd : ∀ i, i < N -> 1 <= L[i * N + i]?.getD 0) : ∀ n, n <= N -> ∃ Ln, (List.range n).foldlM (diag1 N) L = some Ln := by
 intro n
 induction n with
 | zero => intro _; exact ⟨L, rfl⟩
 | succ n ih =>
   intro hn;obtain ⟨Ln, hLn⟩ := ih (by omega);obtain ⟨a1, a2, a3⟩ := diag_spec hL n Ln (by omega) hLn;refine ⟨Ln.set (n * N + n) 1, ?_⟩;have h1 : Ln[n * N + n]?.getD 0 = L[n * N + n]?.getD 0 := by rw [a3 n n (by omega) (by omega), if_neg (by omega)]
   have h2 := hd n (by omega);rw [List.range_succ, List.foldlM_append, hLn];have h3 : diag1 N Ln n = some (Ln.set (n * N + n) 1) := by unfold diag1; rw [if_neg (by omega)]
   simp [h3]
theorem stage_some {L1 : List Int} (hN4 : N <= 4) (a1 : L1.length = N * N) (hd1 : ∀ i, i < N -> mx N L1 i i = some 1) (hE : ∀ i j v, i < N -> j < N -> mx N L1 i j = some v -> -288230376151711744 <= v / 2 /\ v / 2 <= 288230376151711744)
 (H : ∀ i mid, i < N -> mid.Nodup -> i ∉ mid -> (∀ a, a ∈ mid -> a < N) -> ole (some 1) (way (mx N L1) (i :: (mid ++ [i])))) : ∀ n, n <= N -> ∃ Cn, (List.range n).foldlM (stage N) L1 = some Cn := by
 intro n
 induction n with
 | zero => intro _; exact ⟨L1, rfl⟩
 | succ n ih =>
   intro hn;obtain ⟨Cn, hCn⟩ := ih (by omega);obtain ⟨b1, b2⟩ := fold_inv hN4 a1 hd1 hE n Cn (by omega) hCn;have hq := inv_lim b2 (by omega) hN4 hE;have hq' : ∀ q, q < N * N -> lim 1152921504606846976 (Cn[q]?.getD 0) := fun q h => lim_mono (hq q h) (by omega);have hkk := (mx_some (b2.diag n (by omega))).1;have hok : diagOk N (thrL N n Cn) = true := by
    unfold diagOk;rw [List.all_eq_true];intro i hi;have hi := List.mem_range.1 hi;have ht := thrL_mx (k := n) (by omega) b1 hkk hq' hi hi;have h1 : thr n (mx N Cn) i i = some 1 := by
     rcases thr_cases n (mx N Cn) i i with e | ⟨_, e⟩
     ·rw [e]; exact b2.diag i hi
     ·exfalso
      rw [b2.diag i hi] at e;exact olt_irrefl e (there_back b2 (by omega) H i hi)
    rw [h1] at ht;rw [(mx_some ht).1]; decide
   refine ⟨thrL N n Cn, ?_⟩;rw [List.range_succ, List.foldlM_append, hCn];have h3 : stage N Cn n = some (thrL N n Cn) := by unfold stage; rw [if_pos hok]
   simp [h3]
theorem closedR_eq (h0 : chk N L = 0) : closedR N L = closeL N L := by
 obtain ⟨c1, c2, c3, c4⟩ := chk_iff.1 h0;have hN4 : N <= 4 := by omega
 have hL : L.length = N * N := by exact_mod_cast c3
 cases hC : closeL N L with
 | some C =>
   obtain ⟨L1, a2, a3, inv, hl, hE⟩ := close_inv h0 hC;have hoff : ∀ i j, i < N -> j < N -> i ≠ j -> L1[i * N + j]?.getD 0 = L[i * N + j]?.getD 0 := fun i j hi hj h => by rw [a3 i j hi hj, if_neg h]
   have hw : ∀ i j mid, i < N -> j < N -> mid.Nodup -> i ∉ mid -> j ∉ mid -> (∀ a, a ∈ mid -> a < N) -> (i ≠ j \/ mid ≠ []) -> way (mx N L1) (i :: (mid ++ [j])) = way (mx N L) (i :: (mid ++ [j])) := fun i j mid hi hj hn him hjm hm h =>
    dis_way hoff _ (dis_simple mid i j hn him hjm h) (fun a ha => by
     simp only [List.mem_cons, List.mem_append, List.not_mem_nil, or_false] at ha;rcases ha with rfl | ha | rfl
     ·exact hi
     ·exact hm a ha
     ·exact hj)
   have hne : ∀ i j, i < N -> j < N -> i ≠ j -> mx N C i j = ob (pth N L N i j (full N i)) := fun i j hi hj hij => by
    have hp := pth_full h0 hi hj;refine ole_antisymm ?_ ?_
    ·cases hv : ob (pth N L N i j (full N i)) with
     | none => cases mx N C i j <;> trivial
     | some u =>
       obtain ⟨mid, m1, m2, m3, m4, m5⟩ := hp.wit u hv;rw [<- m5, <- hw i j mid hi hj m1 m2 m3 (fun a ha => (m4 a ha).1) (.inl hij)];exact inv.le_way (Nat.le_refl _) mid i j hi hj (fun a ha => (m4 a ha).1)
    ·cases hv : mx N C i j with
     | none => cases ob (pth N L N i j (full N i)) <;> trivial
     | some u =>
       obtain ⟨mid, m1, m2, m3⟩ := inv.wit i j hi hj hij u hv;have n1 := List.nodup_cons.1 m1;have n2 := List.nodup_append.1 n1.2;have him : i ∉ mid := fun h => n1.1 (List.mem_append.2 (.inl h));have hjm : j ∉ mid := fun h => n2.2.2 j h j (by simp) rfl;rw [<- m3, hw i j mid hi hj n2.1 him hjm m2 (.inl hij)];exact low_full h0 hi hj n2.1 him hjm m2
   have hdg : ∀ i, i < N -> 1 <= pth N L N i i (full N i) := fun i hi => by
    have hp := pth_full h0 hi hi;apply one_of_ole;cases hv : ob (pth N L N i i (full N i)) with
    | none => trivial
    | some u =>
      obtain ⟨mid, m1, m2, m3, m4, m5⟩ := hp.wit u hv;cases mid with
      | nil =>
        rw [List.nil_append, way_two] at m5;have := a2 i hi;rw [(mx_some m5).1] at this;exact this
      | cons k mid =>
        rw [<- m5, <- hw i i (k :: mid) hi hi m1 m2 m3 (fun a ha => (m4 a ha).1) (.inr (by simp))];have := inv.le_way (Nat.le_refl _) (k :: mid) i i hi hi (fun a ha => (m4 a ha).1)
        rwa [inv.diag i hi] at this
   unfold closedR;rw [if_pos (by rw [List.all_eq_true]; intro i hi; simpa using hdg i (List.mem_range.1 hi))]
   congr 1
   apply List.ext_getElem
   ·simp [hl]
   ·intro q hq1 hq2
    have hq : q < N * N := by rw [<- hl]; exact hq2
    have hdi := div_lt hq;have hmo := mod_lt hq;simp only [List.getElem_map, List.getElem_range];have hCq : C[q]?.getD 0 = C[q] := by rw [List.getElem?_eq_getElem hq2]; rfl
    by_cases e : q / N = q % N
    ·rw [if_pos e]
     have := (mx_some (inv.diag (q / N) hdi)).1;rw [show q / N * N + q / N = q by have := div_mod (N := N) (p := q); omega, hCq] at this;exact this.symm
    ·rw [if_neg e]
     have := hne (q / N) (q % N) hdi hmo e;unfold mx at this;rw [div_mod, hCq] at this;exact (ob_inj this).symm
 | none =>
   unfold closedR;rw [if_neg];intro hall;rw [List.all_eq_true] at hall;have hdg : ∀ i, i < N -> 1 <= pth N L N i i (full N i) := fun i hi => by simpa using hall i (List.mem_range.2 hi)
   have H0 : ∀ i mid, i < N -> mid.Nodup -> i ∉ mid -> (∀ a, a ∈ mid -> a < N) -> ole (some 1) (way (mx N L) (i :: (mid ++ [i]))) := fun i mid hi hn him hm =>
    ole_trans (ole_one (hdg i hi)) (low_full h0 hi hi hn him him hm)
   have hd : ∀ i, i < N -> 1 <= L[i * N + i]?.getD 0 := fun i hi => by
    have := H0 i [] hi (by simp) (by simp) (by simp);rw [List.nil_append, way_two] at this;exact one_of_ole this
   obtain ⟨L1, hL1⟩ := diag_some hL hd N (Nat.le_refl _);obtain ⟨a1, a2, a3⟩ := diag_spec hL N L1 (Nat.le_refl _) hL1;have a3' : ∀ i j, i < N -> j < N -> L1[i * N + j]?.getD 0 = if i = j then 1 else L[i * N + j]?.getD 0 := fun i j hi hj => by
    rw [a3 i j hi hj]
    by_cases e : i = j
    ·rw [if_pos ⟨e, hi⟩, if_pos e]
    ·rw [if_neg (fun h => e h.1), if_neg e]
   have hd1 : ∀ i, i < N -> mx N L1 i i = some 1 := fun i hi => by unfold mx; rw [a3' i i hi hi, if_pos rfl]; rfl
   have hE : ∀ i j v, i < N -> j < N -> mx N L1 i j = some v -> -288230376151711744 <= v / 2 /\ v / 2 <= 288230376151711744 := fun i j v hi hj hv => by
    obtain ⟨e1, e2⟩ := mx_some hv;rw [a3' i j hi hj] at e1;split at e1
    ·subst e1; decide
    ·have := chk_lim h0 (i * N + j) (by rw [hL]; exact place_lt hi hj)
     rw [e1] at this;exact this.resolve_left e2
   have hoff : ∀ i j, i < N -> j < N -> i ≠ j -> L1[i * N + j]?.getD 0 = L[i * N + j]?.getD 0 := fun i j hi hj h => by rw [a3' i j hi hj, if_neg h]
   have H1 : ∀ i mid, i < N -> mid.Nodup -> i ∉ mid -> (∀ a, a ∈ mid -> a < N) -> ole (some 1) (way (mx N L1) (i :: (mid ++ [i]))) := fun i mid hi hn him hm => by
    cases mid with
    | nil => rw [List.nil_append, way_two, hd1 i hi]; exact ole_refl _
    | cons k mid =>
      rw [dis_way hoff _ (dis_simple (k :: mid) i i hn him him (.inr (by simp))) (fun a ha => by
       simp only [List.mem_cons, List.mem_append, List.not_mem_nil, or_false] at ha;rcases ha with rfl | (rfl | ha) | rfl
       ·exact hi
       ·exact hm a (by simp)
       ·exact hm a (by simp [ha])
       ·exact hi)]
      exact H0 i (k :: mid) hi hn him hm
   obtain ⟨Cn, hCn⟩ := stage_some hN4 a1 hd1 hE H1 N (Nat.le_refl _);unfold closeL at hC;rw [hL1, Option.bind_some, hCn] at hC;cases hC
end
end Dbm
end
section
open Go.RowKit
theorem may_any (a : Int) (w : World) :
 Calls Tryz.prog 243 #[.int .i64 a] w fun e w' => e = .returned (.bool (Num.okB a)) /\ w = w' := by
 by_cases h1 : -2305843009213693952 <= a
 ·by_cases h2 : a <= 2305843009213693952
  ·have hr := Lib.hid (Num.okB_iff.2 ⟨h1, h2⟩)
   go_enter Tryz.func243, Tryz.ntmps243
   go_wp2
   go_ret
   exact ⟨by rw [hr.out]; rfl, rfl⟩
  ·have hr := Lib.hid (Num.okB_no.2 (.inr (Int.not_le.1 h2)))
   go_enter Tryz.func243, Tryz.ntmps243
   go_wp2
   go_ret
   exact ⟨by rw [hr.out]; rfl, rfl⟩
 ·have hr := Lib.hid (Num.okB_no.2 (.inl (Int.not_le.1 h1)))
  go_enter Tryz.func243, Tryz.ntmps243
  go_wp2
  go_ret
  exact ⟨by rw [hr.out]; rfl, rfl⟩
theorem tmod2_even {b : Int} (h : b % 2 = 0) : b.tmod 2 = 0 := Int.tmod_eq_zero_of_dvd (Int.dvd_of_emod_eq_zero h)
theorem tmod2_odd {b : Int} (h : ¬ b % 2 = 0) : (b.tmod 2 == 0) = false := by
 simp only [beq_eq_false_iff_ne, ne_eq];intro e;exact h (Int.emod_eq_zero_of_dvd (Int.dvd_of_tmod_eq_zero e))
theorem tdiv2_even {b : Int} (h : b % 2 = 0) : b.tdiv 2 = b / 2 := by
 obtain ⟨k, rfl⟩ := Int.dvd_of_emod_eq_zero h;rw [Int.mul_tdiv_cancel_left _ (by decide), Int.mul_ediv_cancel_left _ (by decide)]
theorem rnumber_any (b : Int) (hlo : -9223372036854775808 <= b) (hhi : b <= 9223372036854775807) (w : World) :
 Calls Tryz.prog 42 #[.int .i64 b] w fun e w' => e = .returned (.int .i64 (b / 2)) /\ w = w' := by
 by_cases h : b % 2 = 0
 ·have h1 := tmod2_even h
  have h2 := Lib.hid (tdiv2_even h);clear h
  go_enter Tryz.func42, Tryz.ntmps42
  go_wp2
  go_ret
  exact ⟨ret_int h2.out, rfl⟩
 ·have h1 := tmod2_odd h
  have h3 : (b.tmod 2 != 0) = true := by simp only [bne, h1]; rfl
  have h2 := Lib.hid (show (b - 1).tdiv 2 = b / 2 by rw [tdiv2_even (by omega)]; omega);have h4 : -9223372036854775808 <= b - 1 := by omega
  clear h
  go_enter Tryz.func42, Tryz.ntmps42
  go_wp2
  go_ret
  exact ⟨ret_int h2.out, rfl⟩
theorem rstrict_any (b : Int) (w : World) :
 Calls Tryz.prog 177 #[.int .i64 b] w fun e w' => e = .returned (.bool (Bd.st b)) /\ w = w' := by
 by_cases h : b % 2 = 0
 ·have h1 := tmod2_even h
  have hr := Lib.hid (show Bd.st b = true by simp [Bd.st, h]);clear h
  go_enter Tryz.func177, Tryz.ntmps177
  go_wp2
  go_ret
  exact ⟨by rw [hr.out]; rfl, rfl⟩
 ·have h1 := tmod2_odd h
  have hr := Lib.hid (show Bd.st b = false by simp [Bd.st, h]);clear h
  go_enter Tryz.func177, Tryz.ntmps177
  go_wp2
  go_ret
  exact ⟨by rw [hr.out]; rfl, rfl⟩
theorem rmade_any (c : Int) (s : Bool) (h1 : -4611686018427387904 <= c) (h2 : c <= 4611686018427387903) (w : World) :
 Calls Tryz.prog 187 #[.int .i64 c, .bool s] w fun e w' => e = .returned (.int .i64 (Bd.mk c s)) /\ w = w' := by
 cases s
 all_goals
  go_enter Tryz.func187, Tryz.ntmps187
  go_wp2
  go_ret
  exact ⟨ret_int (by simp [Bd.mk]; omega), rfl⟩
def Bd.sum (a b : Int) : Int × Bool :=
 if a = 9223372036854775807 \/ b = 9223372036854775807 then (9223372036854775807, true) else if Num.okB (a / 2 + b / 2) then (Bd.mk (a / 2 + b / 2) (Bd.st a || Bd.st b), true) else (0, false)
theorem rbsum_any (a b : Int) (ha : Bd.may a = true) (hb : Bd.may b = true) (alo : -9223372036854775808 <= a) (ahi : a <= 9223372036854775807) (blo : -9223372036854775808 <= b) (bhi : b <= 9223372036854775807) (w : World) :
 Calls Tryz.prog 238 #[.int .i64 a, .int .i64 b] w fun e w' => e = .returned (.tuple #[.int .i64 (Bd.sum a b).1, .bool (Bd.sum a b).2]) /\ w = w' := by
 by_cases na : a = 9223372036854775807
 ·have hr := Lib.hid (show Bd.sum a b = (9223372036854775807, true) by simp [Bd.sum, na])
  subst na;clear ha hb
  go_enter Tryz.func238, Tryz.ntmps238
  go_wp2
  go_ret2
  exact ⟨ibtup hr.out rfl rfl, rfl⟩
 ·have na1 : (a == 9223372036854775807) = false := by simpa using na
  by_cases nb : b = 9223372036854775807
  ·have hr := Lib.hid (show Bd.sum a b = (9223372036854775807, true) by simp [Bd.sum, nb])
   subst nb;clear ha hb na
   go_enter Tryz.func238, Tryz.ntmps238
   go_wp2
   go_ret2
   exact ⟨ibtup hr.out rfl rfl, rfl⟩
  ·have nb1 : (b == 9223372036854775807) = false := by simpa using nb
   obtain ⟨a1, a2⟩ := Num.okB_iff.1 (Bd.okB_of_may ha na);obtain ⟨b1, b2⟩ := Num.okB_iff.1 (Bd.okB_of_may hb nb);cases hs : Num.okB (a / 2 + b / 2) with
   | false =>
     have hr := Lib.hid (show Bd.sum a b = (0, false) by simp [Bd.sum, na, nb, hs]);clear ha hb na nb
     go_enter Tryz.func238, Tryz.ntmps238
     go_wp2_with (first
      | (go_at_call 42; refine (rnumber_any _ (by assumption) (by assumption) _).mono ?_; rintro e w' ⟨rfl, rfl⟩)
      | (go_at_call 243; refine (may_any _ _).mono ?_; rintro e w' ⟨rfl, rfl⟩))
     go_ret2
     exact ⟨ibtup hr.out rfl rfl, rfl⟩
   | true =>
     have hr := Lib.hid (show Bd.sum a b = (Bd.mk (a / 2 + b / 2) (Bd.st a || Bd.st b), true) by simp [Bd.sum, na, nb, hs]);obtain ⟨s1, s2⟩ := Num.okB_iff.1 hs;clear ha hb na nb;cases hst : Bd.st a
     all_goals
      go_enter Tryz.func238, Tryz.ntmps238
      go_wp2_with (first
       | (go_at_call 42; refine (rnumber_any _ (by assumption) (by assumption) _).mono ?_; rintro e w' ⟨rfl, rfl⟩)
       | (go_at_call 177; refine (rstrict_any _ _).mono ?_; rintro e w' ⟨rfl, rfl⟩)
       | (go_at_call 187; refine (rmade_any _ _ (by omega) (by omega) _).mono ?_; rintro e w' ⟨rfl, rfl⟩)
       | (go_at_call 243; refine (may_any _ _).mono ?_; rintro e w' ⟨rfl, rfl⟩))
      go_ret2
      exact ⟨ibtup hr.out rfl (by rw [hst]; rfl), rfl⟩
theorem Bd.add_sum {a b : Int} (ha : Bd.may a = true) (hb : Bd.may b = true) : Bd.add a b = if (Bd.sum a b).2 then ((Bd.sum a b).1, 0) else (0, 10) := by
 by_cases h : a = 9223372036854775807 \/ b = 9223372036854775807
 ·simp [Bd.add, Bd.sum, ha, hb, h]
 ·cases hs : Num.okB (a / 2 + b / 2) <;> simp [Bd.add, Bd.sum, ha, hb, h, Bd.made, hs]
end
section
open Go.RowKit Go.Proofs.YtanhnllkccldhaaGreat.Eng Enc
namespace Dbm
def int64 (b : Int) : Prop := -9223372036854775808 <= b /\ b <= 9223372036854775807
end Dbm
theorem atB {w0 : Base} {hp : List LB} {r L : List Nat} {w w1 : World} (h : At w0 hp r L w w1) (hL : ∀ b, b ∈ L -> w.heap.size <= b) : Below w.heap.size w w1 :=
 ⟨h.below.os.trans h.base.os.symm, h.below.tape.trans h.base.tape.symm, h.below.output.trans h.base.output.symm, h.size, fun k hk => h.step k hk fun hm => by have := hL k hm; omega⟩
theorem rmay04_any (n : Int) (L : List Int) (hn : Dbm.int64 n) (hL : ∀ b, b ∈ L -> Dbm.int64 b) (a : Option Addr) (cap : Nat) (w : World) (hS : Sl w.heap.size w (.slice a L.length cap) L) :
 Calls Tryz.prog 210 #[.agg #[.int .i64 n, .slice a L.length cap]] w fun e w' => e = .returned (.bool (decide (Dbm.chk n L = 0))) /\ Below w.heap.size w w' := by
 refine fun_eq 0 w Tryz.func210 (args := [.agg [.val (.int .i64 n), .val (.slice a L.length cap)]]) rfl rfl ?_;obtain ⟨_, _, hfe, hcap1, hcap2, _⟩ := hS.form;injection hfe with _ _ hfe;subst hfe;unfold maxLen at hcap2;refine NewI.mk fun b1 hb1 => ?_;have no : ¬ (1 <= n /\ n <= 4 /\ (L.length : Int) = n * n /\ L.any (fun b => !(Dbm.mayC b)) = false) -> decide (Dbm.chk n L = 0) = false := fun h => decide_eq_false (fun e => h (Dbm.chk_iff.1 e));refine Branch.mk (fun z1 => ?_) (fun z1 => ?_)
 ·have h1 : n < 1 := of_decide_eq_true z1
  rw [no (by omega)];exact EndI.mk fun w9 h9 => rfl
 have h1 : ¬ n < 1 := of_decide_eq_false z1;refine Branch.mk (fun z2 => ?_) (fun z2 => ?_)
 ·have h2 : 4 < n := of_decide_eq_true z2
  rw [no (by omega)];exact EndI.mk fun w9 h9 => rfl
 have h2 : ¬ 4 < n := of_decide_eq_false z2;have hnn : 0 <= n * n /\ n * n <= 16 := by
  have : n = 1 \/ n = 2 \/ n = 3 \/ n = 4 := by omega
  rcases this with rfl | rfl | rfl | rfl <;> decide
 refine Need.ok ?_;refine Branch.mk (fun z3 => ?_) (fun z3 => ?_)
 ·have h3 : (L.length : Int) ≠ n * n := of_decide_eq_true z3
  rw [no (fun h => h3 h.2.2.1)];exact EndI.mk fun w9 h9 => rfl
 have h3 : (L.length : Int) = n * n := by have := of_decide_eq_false z3; omega
 refine LoopI.invC (α := Nat × World) (fun y => [(3, .val (.int .i64 y.1))]) (fun y => y.2) (fun y => y.1 <= L.length /\ Below w.heap.size w y.2 /\ ∀ b, b ∈ L.take y.1 -> Dbm.mayC b = true) (fun y => L.length - y.1) ?_ ?_
 ·intro w1 h1
  exact ⟨(0, w1), Cov.au rfl rfl rfl rfl rfl, rfl, Nat.zero_le _, h1.below, by simp⟩
 rintro ⟨k, V⟩ ⟨hk, hV, hall⟩;simp only at hk hV hall;refine Branch.mk (fun z4 => ?_) (fun z4 => ?_)
 ·have hlt : k < L.length := by have := of_decide_eq_true z4; simp only at this; omega
  have hx := List.getElem?_eq_getElem (l := L) (i := k) hlt;generalize L[k] = x at hx;have hxi := hL x (List.mem_of_getElem? hx);have hSV := hS.go hV hV.size;refine hSV.idx hx fun ad had => ?_;refine hSV.ld1 hx had (Below.refl _ _) (by simp) ?_
  have bad : Dbm.mayC x = false -> decide (Dbm.chk n L = 0) = false := fun h => no (fun h4 => by
   have := List.any_eq_false.1 h4.2.2.2 x (List.mem_of_getElem? hx);simp [h] at this)
  have good : Dbm.mayC x = true -> ∀ b, b ∈ L.take (k + 1) -> Dbm.mayC b = true := fun h b hb => by
   rw [List.take_add_one, hx] at hb;rcases List.mem_append.1 hb with hb | hb
   ·exact hall b hb
   ·rw [List.mem_singleton.1 hb]; exact h
  refine Branch.mk (fun z5 => ?_) (fun z5 => ?_)
  ·have hne : x ≠ 9223372036854775807 := of_decide_eq_true z5
   have hmC : Dbm.mayC x = (decide (-288230376151711744 <= x / 2) && decide (x / 2 <= 288230376151711744)) := by unfold Dbm.mayC; simp [hne]
   refine CallI.to0 (fun w => rnumber_any x hxi.1 hxi.2 w) fun w2 => ?_;refine Branch.mk (fun z6 => ?_) (fun z6 => ?_)
   ·have h6 : x / 2 < -288230376151711744 := of_decide_eq_true z6
    rw [bad (by rw [hmC]; simp; omega)];exact EndI.mk fun w9 h9 => rfl
   have h6 : ¬ x / 2 < -288230376151711744 := of_decide_eq_false z6;refine CallI.to0 (fun w => rnumber_any x hxi.1 hxi.2 w) fun w3 => ?_;refine Branch.mk (fun z7 => ?_) (fun z7 => ?_)
   ·have h7 : 288230376151711744 < x / 2 := of_decide_eq_true z7
    rw [bad (by rw [hmC]; simp; omega)];exact EndI.mk fun w9 h9 => rfl
   have h7 : ¬ 288230376151711744 < x / 2 := of_decide_eq_false z7;refine Need.ok (EndI.mk fun w9 h9 => ⟨(k + 1, w9), Cov.au rfl rfl rfl rfl rfl, rfl, ⟨hlt, h9.below, good (by rw [hmC]; simp; omega)⟩, by simp only; omega⟩)
  ·have heq : x = 9223372036854775807 := by have := of_decide_eq_false z5; simpa using this
   refine Need.ok (EndI.mk fun w9 h9 => ⟨(k + 1, w9), Cov.au rfl rfl rfl rfl rfl, rfl, ⟨hlt, h9.below, good (by rw [heq]; decide)⟩, by simp only; omega⟩)
 ·have hge : k = L.length := by have := of_decide_eq_false z4; simp only at this; omega
  subst hge;rw [List.take_length] at hall;have hc : Dbm.chk n L = 0 := Dbm.chk_iff.2 ⟨by omega, by omega, h3, by rw [List.any_eq_false]; intro b hb; simp [hall b hb]⟩;refine EndI.mk fun w9 h9 => ?_;rw [decide_eq_true hc]
section
variable {N : Nat} {L : List Int}
theorem lim_int64 {v : Int} (h : Dbm.lim 1152921504606846976 v) : Dbm.int64 v /\ Bd.may v = true := by
 rcases h with h | h
 ·rw [h]; exact ⟨by unfold Dbm.NO Dbm.int64; omega, by decide⟩
 ·exact ⟨by unfold Dbm.int64; omega, Bd.may_of (Num.okB_iff.2 (by omega))⟩
theorem sum_add {u v : Int} (hu : Dbm.lim 1152921504606846976 u) (hv : Dbm.lim 1152921504606846976 v) : Bd.sum u v = ((Bd.add u v).1, true) := by
 have h := Bd.add_sum (lim_int64 hu).2 (lim_int64 hv).2;have h2 : (Bd.sum u v).2 = true := by
  unfold Bd.sum;split
  ·rfl
  ·rename_i hn
   have hu' := hu.resolve_left (fun e => hn (.inl e));have hv' := hv.resolve_left (fun e => hn (.inr e));rw [if_pos (Num.okB_iff.2 (by omega))]
 rw [h, if_pos h2];exact Prod.ext rfl h2
theorem pathStep_any (h0 : Dbm.chk N L = 0) (a : Option Addr) (cap : Nat) (i j S : Nat) (hi : i < N) (hj : j < N) (hS16 : S < 16) (p : Nat -> Int) (hp : ∀ k, k < N -> Dbm.skip i j S k = false -> Dbm.lim 1152921504606846976 (p k)) (w : World) (hS : Sl w.heap.size w (.slice a L.length cap) L)
 (hcall : ∀ k, k < N -> Dbm.skip i j S k = false -> ∀ w1, Sl w1.heap.size w1 (.slice a L.length cap) L -> Calls Tryz.prog 227 #[.agg #[.int .i64 N, .slice a L.length cap], .int .i64 k, .int .i64 j, .int .i64 (S - 2 ^ k : Nat)] w1 fun e w' => e = .returned (.int .i64 (p k)) /\ Below w1.heap.size w1 w') :
 Calls Tryz.prog 227 #[.agg #[.int .i64 N, .slice a L.length cap], .int .i64 i, .int .i64 j, .int .i64 S] w fun e w' => e = .returned (.int .i64 ((List.range N).foldl (Dbm.pstep (Dbm.skip i j S) (Dbm.cand N L i p)) (L[i * N + j]?.getD 0))) /\ Below w.heap.size w w' := by
 obtain ⟨c1, c2, c3, c4⟩ := Dbm.chk_iff.1 h0;have hN4 : N <= 4 := by omega
 have hLN : L.length = N * N := by exact_mod_cast c3
 have hNN : N * N <= 16 := Nat.mul_le_mul hN4 hN4;refine fun_eq 0 w Tryz.func227 (args := [.agg [.val (.int .i64 N), .val (.slice a L.length cap)], .val (.int .i64 i), .val (.int .i64 j), .val (.int .i64 S)]) rfl rfl ?_;have hpl := fun k (hk : k < N) => Dbm.place_lt (N := N) (i := i) (j := k) hi hk;have hget := fun k (hk : k < N) => show L[i * N + k]? = some (L[i * N + k]?.getD 0) by rw [List.getElem?_eq_getElem (by rw [hLN]; exact hpl k hk)]; rfl
 have hiN : ((i : Int) * (N : Int)) = ((i * N : Nat) : Int) := (Int.natCast_mul i N).symm;have hiN16 : i * N < 16 := by have := hpl j hj; omega
 refine NewI.mk fun b1 hb1 => ?_;refine Need.mk (by rw [hiN]; simp only [inK]; omega) ?_;have hpj := hpl j hj;refine Need.mk (by rw [hiN]; simp only [inK]; omega) ?_;refine hS.idx (k := i * N + j) (hget j hj) fun ad had => ?_;refine hS.ld1 (k := i * N + j) (hget j hj) had (Below.refl _ _) (by simp) ?_;refine LoopI.invC (α := (Nat × Int) × World) (fun y => [(10, .val (.int .i64 y.1.1)), (9, .val (.int .i64 y.1.2))]) (fun y => y.2) (fun y => y.1.1 <= N /\ Below w.heap.size w y.2 /\ y.1.2 = (List.range y.1.1).foldl (Dbm.pstep (Dbm.skip i j S) (Dbm.cand N L i p)) (L[i * N + j]?.getD 0)) (fun y => N - y.1.1) ?_ ?_
 ·intro w1 h1
  exact ⟨((0, L[i * N + j]?.getD 0), w1), Cov.au rfl rfl rfl rfl rfl, rfl, Nat.zero_le _, h1.below, rfl⟩
 rintro ⟨⟨k, best⟩, V⟩ ⟨hk, hV, hbest⟩;simp only at hk hV hbest;refine Branch.mk (fun z1 => ?_) (fun z1 => ?_)
 ·have hlt : k < N := by have := of_decide_eq_true z1; simp only at this; omega
  have hnext : (List.range (k + 1)).foldl (Dbm.pstep (Dbm.skip i j S) (Dbm.cand N L i p)) (L[i * N + j]?.getD 0) = Dbm.pstep (Dbm.skip i j S) (Dbm.cand N L i p) best k := by
   rw [List.range_succ, List.foldl_append, <- hbest]; rfl
  have hbit : bits .and .i64 ((S : Int) / 2 ^ ((k : Int).toNat)) 1 = ((S / 2 ^ k % 2 : Nat) : Int) := by
   rw [i64_and1, Int.toNat_natCast]; norm_cast
  have hsame : Dbm.skip i j S k = true -> (List.range (k + 1)).foldl (Dbm.pstep (Dbm.skip i j S) (Dbm.cand N L i p)) (L[i * N + j]?.getD 0) = best := fun h => by rw [hnext]; unfold Dbm.pstep; rw [if_pos h]
  refine Need.mk (by simp only [Int.toNat_natCast, IntKind.bits]; omega) ?_
  conv => whnf
  rw [hbit];refine Branch.mk (fun z2 => ?_) (fun z2 => ?_)
  ·have h2 : Dbm.inS S k = false := by have := of_decide_eq_true z2; unfold Dbm.inS; simp; omega
   refine Need.ok (EndI.mk fun w9 h9 => ⟨((k + 1, best), w9), Cov.au rfl rfl rfl rfl rfl, rfl, ⟨hlt, h9.below, (hsame (by simp [Dbm.skip, h2])).symm⟩, by simp only; omega⟩)
  have h2 : Dbm.inS S k = true := by have := of_decide_eq_false z2; unfold Dbm.inS; simp; omega
  refine Branch.mk (fun z3 => ?_) (fun z3 => ?_)
  ·have h3 : k = i := by have := of_decide_eq_true z3; simp only at this; omega
   refine Need.ok (EndI.mk fun w9 h9 => ⟨((k + 1, best), w9), Cov.au rfl rfl rfl rfl rfl, rfl, ⟨hlt, h9.below, (hsame (by simp [Dbm.skip, h3])).symm⟩, by simp only; omega⟩)
  have h3 : k ≠ i := by have := of_decide_eq_false z3; simp only at this; omega
  refine Branch.mk (fun z4 => ?_) (fun z4 => ?_)
  ·have h4 : k = j := by have := of_decide_eq_true z4; simp only at this; omega
   refine Need.ok (EndI.mk fun w9 h9 => ⟨((k + 1, best), w9), Cov.au rfl rfl rfl rfl rfl, rfl, ⟨hlt, h9.below, (hsame (by simp [Dbm.skip, h4])).symm⟩, by simp only; omega⟩)
  have h4 : k ≠ j := by have := of_decide_eq_false z4; simp only at this; omega
  have hsk : Dbm.skip i j S k = false := by simp [Dbm.skip, h2, h3, h4]
  have hSk : 2 ^ k <= S /\ 2 ^ k <= 8 := by
   have key : ∀ S : Fin 16, ∀ k : Fin 4, Dbm.inS S.1 k.1 = true -> 2 ^ k.1 <= S.1 /\ 2 ^ k.1 <= 8 := by decide +kernel
   exact key ⟨S, hS16⟩ ⟨k, by omega⟩ h2
  have hpow : (2 : Int) ^ ((k : Int).toNat) = ((2 ^ k : Nat) : Int) := by rw [Int.toNat_natCast]; norm_cast
  have hc := hcall k hlt hsk;generalize hP : 2 ^ k = P at hSk hpow hc;have hsub : (S : Int) - 1 * (P : Int) = ((S - P : Nat) : Int) := by omega
  refine DrawI.go (.tk 0 (.tk 1 (.tk 2 (.tk 3 (.tk 4 (.tk 5 (.tk 6 (.tk 7 (.tk 8 (.tk 9 (.tk 10 (.tk 11 (.tk 12 (.tk 13 (.tk 14 (.tk 15 (.tk 16 (.ev 17 (.ev 18 (.tk 19 (.tk 20 (.tk 21 (.tk 22 (.tk 23 .done)))))))))))))))))))))))) (by kernel_rfl) fun w2 h2' => ?_;have hpk := hpl k hlt;have hw2 : Below w.heap.size w w2 := hV.trans (h2'.go.mono hV.size);have hS2 := hS.go hw2 hw2.size;refine Need.mk (by rw [hiN]; simp only [inK]; omega) ?_;refine Need.mk (by rw [hiN]; simp only [inK]; omega) ?_;refine hS2.idx (k := i * N + k) (hget k hlt) fun ad2 had2 => ?_;refine hS2.ld1 (k := i * N + k) (hget k hlt) had2 (Below.refl _ _) (by simp) ?_;refine Need.mk (by rw [hpow]; simp only [Int.toNat_natCast, IntKind.bits, inK]; omega) ?_
  conv => whnf
  rw [hpow];refine Need.mk (by rw [hsub]; simp only [inK]; omega) ?_
  conv => whnf
  rw [hsub];apply CallI.use1
  focus (exact fun w3 h3 => hc w3 (hS.go h3.below h3.below.size))
  intro w3 v3 h3' hB3;have hlu : Dbm.lim 1152921504606846976 (L[i * N + k]?.getD 0) := Dbm.lim_mono (Dbm.chk_lim h0 (i * N + k) (by rw [hLN]; exact hpk)) (by omega);have hlp := hp k hlt hsk;have hsum := fun w => rbsum_any (L[i * N + k]?.getD 0) (p k) (lim_int64 hlu).2 (lim_int64 hlp).2 (lim_int64 hlu).1.1 (lim_int64 hlu).1.2 (lim_int64 hlp).1.1 (lim_int64 hlp).1.2 w;rw [sum_add hlu hlp] at hsum;refine CallI.to0 (fun w => hsum w) fun w4 => ?_;refine Branch.yes rfl ?_;refine Branch.mk (fun z5 => ?_) (fun z5 => ?_)
  ·have h5 : Dbm.cand N L i p k < best := of_decide_eq_true z5
   refine Need.ok (EndI.mk fun w9 h9 => ⟨((k + 1, Dbm.cand N L i p k), w9), Cov.au rfl rfl rfl rfl rfl, rfl, ⟨hlt, h9.below, ?_⟩, by simp only; omega⟩);simp only;rw [hnext]; unfold Dbm.pstep; rw [if_neg (by simp [hsk]), if_pos h5]
  ·have h5 : ¬ Dbm.cand N L i p k < best := of_decide_eq_false z5
   refine Need.ok (EndI.mk fun w9 h9 => ⟨((k + 1, best), w9), Cov.au rfl rfl rfl rfl rfl, rfl, ⟨hlt, h9.below, ?_⟩, by simp only; omega⟩);simp only;rw [hnext]; unfold Dbm.pstep; rw [if_neg (by simp [hsk]), if_neg h5]
 ·have hge : k = N := by have := of_decide_eq_false z1; simp only at this; omega
  subst hge;refine EndI.mk fun w9 h9 => ?_;rw [hbest]
theorem path_any (h0 : Dbm.chk N L = 0) (a : Option Addr) (cap : Nat) : ∀ (f i j S : Nat), i < N -> j < N -> S < 16 -> Dbm.inS S i = false -> Dbm.pc S <= f -> ∀ w, Sl w.heap.size w (.slice a L.length cap) L ->
 Calls Tryz.prog 227 #[.agg #[.int .i64 N, .slice a L.length cap], .int .i64 i, .int .i64 j, .int .i64 S] w fun e w' => e = .returned (.int .i64 (Dbm.pth N L f i j S)) /\ Below w.heap.size w w'
 | 0, i, j, S, hi, hj, hS, hiS, hf, w, hSl => by
   obtain ⟨c1, c2, c3, c4⟩ := Dbm.chk_iff.1 h0;have hsk : ∀ k, k < N -> Dbm.skip i j S k = true := fun k hk => by
    have := Dbm.inS_zero hS (by omega) (show k < 4 by omega);simp [Dbm.skip, this]
   have hno : ∀ k, k < N -> Dbm.skip i j S k = false -> False := fun k hk h => by rw [hsk k hk] at h; cases h
   have hfold : ∀ n, n <= N -> (List.range n).foldl (Dbm.pstep (Dbm.skip i j S) (Dbm.cand N L i fun _ => 0)) (L[i * N + j]?.getD 0) = L[i * N + j]?.getD 0 := by
    intro n
    induction n with
    | zero => intro _; rfl
    | succ n ih =>
      intro hn;rw [List.range_succ, List.foldl_append, ih (by omega)];show Dbm.pstep _ _ _ n = _;unfold Dbm.pstep; rw [if_pos (hsk n (by omega))]
   have h := pathStep_any h0 a cap i j S hi hj hS (fun _ => 0) (fun k hk h => (hno k hk h).elim) w hSl (fun k hk h => (hno k hk h).elim);rw [hfold N (Nat.le_refl _)] at h;exact h
 | f + 1, i, j, S, hi, hj, hS, hiS, hf, w, hSl => by
   obtain ⟨c1, c2, c3, c4⟩ := Dbm.chk_iff.1 h0;have hin : ∀ k, k < N -> Dbm.skip i j S k = false -> Dbm.inS S k = true /\ Dbm.inS (S - 2 ^ k) k = false /\ Dbm.pc (S - 2 ^ k) <= f := fun k hk h => by
    have h1 : Dbm.inS S k = true := by unfold Dbm.skip at h; simp at h; exact h.1.1
    have h2 := Dbm.inS_less (a := k) h1 hS (by omega) (by omega);refine ⟨h1, ?_, by omega⟩;cases hh : Dbm.inS (S - 2 ^ k) k with
    | false => rfl
    | true => exact absurd rfl ((h2.1.1 hh).2)
   exact pathStep_any h0 a cap i j S hi hj hS (fun k => Dbm.pth N L f k j (S - 2 ^ k)) (fun k hk h => (Dbm.pth_ok h0 f k j (S - 2 ^ k) hk hj (Nat.lt_of_le_of_lt (Nat.sub_le _ _) hS) (hin k hk h).2.1).lim) w hSl
    (fun k hk h w1 hS1 => path_any h0 a cap f k j (S - 2 ^ k) hk hj (Nat.lt_of_le_of_lt (Nat.sub_le _ _) hS) (hin k hk h).2.1 (hin k hk h).2.2 w1 hS1)
end
namespace Dbm
def ent (N : Nat) (L : List Int) (q : Nat) : Int := if q / N = q % N then 1 else pth N L N (q / N) (q % N) (full N (q / N))
def ents (N : Nat) (L : List Int) (p : Nat) : List Int := (List.range p).map (ent N L)
theorem ents_len (N : Nat) (L : List Int) (p : Nat) : (ents N L p).length = p := by simp [ents]
theorem ents_succ (N : Nat) (L : List Int) (p : Nat) : ents N L (p + 1) = ents N L p ++ [ent N L p] := by simp [ents, List.range_succ]
def rc (N : Nat) (L : List Int) : Int × List Int × Bool := match closeL N L with | some C => (N, C, true) | none => (0, [], false)
theorem rc_no {N : Nat} {L : List Int} (h0 : chk N L = 0) {i : Nat} (hi : i < N) (h : pth N L N i i (full N i) < 1) : rc N L = (0, [], false) := by
 have : closedR N L = none := by
  unfold closedR;rw [if_neg];intro hall;have := (List.all_eq_true.1 hall) i (List.mem_range.2 hi);simp at this; omega
 unfold rc; rw [<- closedR_eq h0, this]
theorem rc_yes {N : Nat} {L : List Int} (h0 : chk N L = 0) (h : ∀ i, i < N -> 1 <= pth N L N i i (full N i)) : rc N L = ((N : Int), ents N L (N * N), true) := by
 have : closedR N L = some (ents N L (N * N)) := by
  unfold closedR;rw [if_pos (by rw [List.all_eq_true]; intro i hi; simpa using h i (List.mem_range.1 hi))]
  rfl
 unfold rc; rw [<- closedR_eq h0, this]
theorem full_bits {N i : Nat} (hN : N <= 4) (hi : i < N) : bits .andNot .i64 (1 * 2 ^ ((N : Int).toNat) - 1) (1 * 2 ^ ((i : Int).toNat)) = ((full N i : Nat) : Int) /\ full N i <= 15 := by
 have key : ∀ N : Fin 5, ∀ i : Fin 4, i.1 < N.1 -> bits .andNot .i64 (1 * 2 ^ (((N.1 : Nat) : Int).toNat) - 1) (1 * 2 ^ (((i.1 : Nat) : Int).toNat)) = ((full N.1 i.1 : Nat) : Int) /\ full N.1 i.1 <= 15 := by decide +kernel
 exact key ⟨N, by omega⟩ ⟨i, by omega⟩ hi
theorem shl_one {N : Nat} (hN : N <= 4) : (1 : Int) * 2 ^ ((N : Int).toNat) <= 16 /\ 1 <= (1 : Int) * 2 ^ ((N : Int).toNat) := by
 have key : ∀ N : Fin 5, (1 : Int) * 2 ^ (((N.1 : Nat) : Int).toNat) <= 16 /\ 1 <= (1 : Int) * 2 ^ (((N.1 : Nat) : Int).toNat) := by decide +kernel
 exact key ⟨N, by omega⟩
end Dbm
section
variable {N : Nat} {L : List Int}
theorem rclosed_any (h0 : Dbm.chk N L = 0) (a : Option Addr) (cap : Nat) (w : World) (hS : Sl w.heap.size w (.slice a L.length cap) L) :
 Calls Tryz.prog 211 #[.agg #[.int .i64 N, .slice a L.length cap]] w (Ret w fun v w' => ∃ a' c', v = .tuple #[.agg #[.int .i64 (Dbm.rc N L).1, .slice a' (Dbm.rc N L).2.1.length c'], .bool (Dbm.rc N L).2.2] /\ Own 84 w.heap.size w' (.slice a' (Dbm.rc N L).2.1.length c') (Dbm.rc N L).2.1) := by
 obtain ⟨c1, c2, c3, c4⟩ := Dbm.chk_iff.1 h0;have hN4 : N <= 4 := by omega
 have hLN : L.length = N * N := by exact_mod_cast c3
 have hNN : N * N <= 16 := Nat.mul_le_mul hN4 hN4;refine fun_ret 0 w Tryz.func211 (args := [.agg [.val (.int .i64 N), .val (.slice a L.length cap)]]) rfl rfl ?_;refine NewI.mk fun b1 hb1 => ?_;refine NewI.mk fun b2 hb2 => ?_;refine NewI.mk fun b3 hb3 => ?_;obtain ⟨X, hX1, hX2, hX3, hXw, hXm⟩ : ∃ X, b1 < X /\ b2 < X /\ b3 < X /\ w.heap.size <= X /\ ∀ n, b1 < n -> b2 < n -> b3 < n -> w.heap.size <= n -> X <= n := ⟨max (max (max b1 b2) b3 + 1) w.heap.size, by omega, by omega, by omega, by omega, fun n h1 h2 h3 h4 => by omega⟩
 refine LoopI.inv (α := Nat × World × Value) (fun y => [(5, .val (.int .i64 y.1))]) (fun y => [⟨[.val (.int .i64 N), .val (.slice a L.length cap)], 81⟩, ⟨[.val (.int .i64 0), .val (.slice none 0 0)], 81⟩, ⟨[.val (.int .i64 N), .val y.2.2], 81⟩]) (fun y => y.2.1)
  (fun y => y.1 <= N /\ Below w.heap.size w y.2.1 /\ X <= y.2.1.heap.size /\ Own 84 X y.2.1 y.2.2 (Dbm.ents N L (y.1 * N)) /\ ∀ i, i < y.1 -> 1 <= Dbm.pth N L N i i (Dbm.full N i)) (fun y => N - y.1) ?_ ?_
 ·intro w1 h1
  exact ⟨(0, w1, .slice none 0 0), Cov.au rfl rfl rfl rfl rfl, rfl, Nat.zero_le _, h1.below, hXm _ (h1.lt b1 (by simp)) (h1.lt b2 (by simp)) (h1.lt b3 (by simp)) h1.below.size, by simp only [Nat.zero_mul]; exact Own.nil, fun i hi => by simp at hi⟩
 rintro ⟨i, V, sv⟩ ⟨hi, hV, hXV, hO, hd⟩;simp only at hi hV hXV hO hd;refine Branch.mk (fun z1 => ?_) (fun z1 => ?_)
 ·have hiN : i < N := by have := of_decide_eq_true z1; simp only at this; omega
  refine LoopI.inv (α := Nat × World × Value) (fun y => [(6, .val (.int .i64 y.1))]) (fun y => [⟨[.val (.int .i64 N), .val (.slice a L.length cap)], 81⟩, ⟨[.val (.int .i64 0), .val (.slice none 0 0)], 81⟩, ⟨[.val (.int .i64 N), .val y.2.2], 81⟩]) (fun y => y.2.1)
   (fun y => y.1 <= N /\ Below w.heap.size w y.2.1 /\ X <= y.2.1.heap.size /\ Own 84 X y.2.1 y.2.2 (Dbm.ents N L (i * N + y.1)) /\ (i < y.1 -> 1 <= Dbm.pth N L N i i (Dbm.full N i))) (fun y => N - y.1) ?_ ?_
  ·intro w1 h1
   exact ⟨(0, w1, sv), Cov.au rfl rfl rfl rfl rfl, rfl, Nat.zero_le _, h1.below, Nat.le_trans hXV h1.size, hO.at h1 (by simp), fun h => by simp at h⟩
  rintro ⟨j, U, tv⟩ ⟨hj, hU, hXU, hO2, hd2⟩;simp only at hj hU hXU hO2 hd2;refine Branch.mk (fun z2 => ?_) (fun z2 => ?_)
  ·have hjN : j < N := by have := of_decide_eq_true z2; simp only at this; omega
   obtain ⟨fb, fb15⟩ := Dbm.full_bits hN4 hiN;obtain ⟨f1, f2, f3, _⟩ := Dbm.full_ok (N := N) (i := i) hN4 hiN;have sN := Dbm.shl_one hN4;have si := Dbm.shl_one (N := i) (by omega);refine DrawI.go (.tk 0 (.tk 1 (.tk 2 (.tk 3 (.tk 4 (.tk 5 (.tk 6 (.tk 7 .done)))))))) (by kernel_rfl) fun w2 h2 => ?_;refine Need.mk ⟨by omega, by simp only [Int.toNat_natCast, IntKind.bits]; omega, by simp only [inK]; omega⟩ ?_;refine Need.ok ?_;refine Need.mk ⟨by simp only; omega, by simp only [Int.toNat_natCast, IntKind.bits]; omega, by simp only [inK]; omega⟩ ?_
   conv => whnf
   rw [fb];apply CallI.use1
   focus (exact fun w3 h3 => path_any h0 a cap N i j (Dbm.full N i) hiN hjN f1 f2 f3 w3 (hS.go h3.below h3.below.size))
   intro w3 v3 h3 hB3;have hv3 : Below w.heap.size w v3 := h3.below.trans (hB3.mono h3.below.size);have hO3 := (hO2.below ((atB h2 (by simp)))).below (atB h3 (by simp)) |>.below hB3;have hXv3 : X <= v3.heap.size := Nat.le_trans hXU (Nat.le_trans h2.size (Nat.le_trans h3.size hB3.size));have hq1 : (i * N + j) / N = i := Dbm.place_div hjN;have hq2 : (i * N + j) % N = j := Dbm.place_mod hjN;have hpl : i * N + j < N * N := Dbm.place_lt hiN hjN;have hb1 : b1 < v3.heap.size := by omega
   refine Branch.mk (fun z3 => ?_) (fun z3 => ?_)
   ·have hij : i = j := by have := of_decide_eq_true z3; simp only at this; omega
    refine Branch.mk (fun z4 => ?_) (fun z4 => ?_)
    ·have hlt1 := of_decide_eq_true z4
     rw [Dbm.rc_no h0 hiN (by rw [<- hij] at hlt1; exact hlt1)];exact EndI.mk fun w9 h9 => ⟨_, _, rfl, Own.nil⟩
    have hge1 : 1 <= Dbm.pth N L N i i (Dbm.full N i) := by have := of_decide_eq_false z4; rw [<- hij] at this; omega
    have hent : Dbm.ent N L (i * N + j) = 1 := by unfold Dbm.ent; rw [hq1, hq2, if_pos hij]
    have hes : Dbm.ents N L (i * N + (j + 1)) = Dbm.ents N L (i * N + j) ++ [1] := by rw [<- Nat.add_assoc, Dbm.ents_succ, hent]
    refine NewI.mk fun b5 hb5 => ?_;have hb5' : v3.heap.size <= b5 := hb5;have hr : ∀ g, tv.ownBlock = some g -> w.heap.size <= g /\ g ∉ [b1, b2, b3, b5] := fun g hg => by
     have := hO3.lt g hg;refine ⟨Nat.le_trans hXw this.1, fun hm => ?_⟩;simp only [List.mem_cons, List.not_mem_nil, or_false] at hm;omega
    refine GenN.app (α := Int) elB (Dbm.ents N L (i * N + j)) [(1 : Int)] X (fun w5 h5 => hO3.below h5.go) (fun w5 h5 => src_own h5 3 rfl rfl rfl rfl) (by rw [Dbm.ents_len]; unfold maxLen; simp; omega) (by rw [Dbm.ents_len]; simp; omega) (fun w5 h5 => Nat.le_trans hXv3 h5.size)
     (fun w5 w6 h5 hg => keep_grown h5 hg hr) fun sv' w5 w6 h5 hg hO' => ?_
    obtain ⟨a', c', rfl⟩ := hO'.form;rw [<- hes] at hO' ⊢;have hX6 : X <= w6.heap.size := Nat.le_trans hXv3 (Nat.le_trans h5.size hg.size);refine Need.ok (EndI.mk fun w7 h7 => ⟨(j + 1, w7, .slice a' (Dbm.ents N L (i * N + (j + 1))).length c'), Cov.au rfl rfl rfl rfl rfl, rfl, ⟨hjN, h7.below, Nat.le_trans hX6 h7.size, ?_, fun h => hge1⟩, by simp only; omega⟩);exact hO'.at h7 (by intro b hb; simp at hb; subst hb; exact hX3)
   ·have hij : i ≠ j := by have := of_decide_eq_false z3; simp only at this; omega
    have hent : Dbm.ent N L (i * N + j) = Dbm.pth N L N i j (Dbm.full N i) := by unfold Dbm.ent; rw [hq1, hq2, if_neg hij]
    have hes : Dbm.ents N L (i * N + (j + 1)) = Dbm.ents N L (i * N + j) ++ [Dbm.pth N L N i j (Dbm.full N i)] := by rw [<- Nat.add_assoc, Dbm.ents_succ, hent]
    refine NewI.mk fun b5 hb5 => ?_;have hb5' : v3.heap.size <= b5 := hb5;have hr : ∀ g, tv.ownBlock = some g -> w.heap.size <= g /\ g ∉ [b1, b2, b3, b5] := fun g hg => by
     have := hO3.lt g hg;refine ⟨Nat.le_trans hXw this.1, fun hm => ?_⟩;simp only [List.mem_cons, List.not_mem_nil, or_false] at hm;omega
    refine GenN.app (α := Int) elB (Dbm.ents N L (i * N + j)) [Dbm.pth N L N i j (Dbm.full N i)] X (fun w5 h5 => hO3.below h5.go) (fun w5 h5 => src_own h5 3 rfl rfl rfl rfl) (by rw [Dbm.ents_len]; unfold maxLen; simp; omega) (by rw [Dbm.ents_len]; simp; omega) (fun w5 h5 => Nat.le_trans hXv3 h5.size)
     (fun w5 w6 h5 hg => keep_grown h5 hg hr) fun sv' w5 w6 h5 hg hO' => ?_
    obtain ⟨a', c', rfl⟩ := hO'.form;rw [<- hes] at hO' ⊢;have hX6 : X <= w6.heap.size := Nat.le_trans hXv3 (Nat.le_trans h5.size hg.size);refine Need.ok (EndI.mk fun w7 h7 => ⟨(j + 1, w7, .slice a' (Dbm.ents N L (i * N + (j + 1))).length c'), Cov.au rfl rfl rfl rfl rfl, rfl, ⟨hjN, h7.below, Nat.le_trans hX6 h7.size, ?_, fun h => hd2 (by simp only at h; omega)⟩, by simp only; omega⟩);exact hO'.at h7 (by intro b hb; simp at hb; subst hb; exact hX3)
  ·have hge : j = N := by have := of_decide_eq_false z2; simp only at this; omega
   subst hge;have hnx : i * j + j = (i + 1) * j := by rw [Nat.add_mul, Nat.one_mul]
   refine Need.ok (EndI.mk fun w9 h9 => ⟨(i + 1, w9, tv), Cov.au rfl rfl rfl rfl rfl, rfl, ⟨hiN, h9.below, Nat.le_trans hXU h9.size, ?_, fun k hk => ?_⟩, by simp only; omega⟩)
   ·simp only; rw [<- hnx]; exact hO2.at h9 (by simp)
   ·by_cases hki : k = i
    ·subst hki; exact hd2 hiN
    ·exact hd k (by simp only at hk; omega)
 ·have hge : i = N := by have := of_decide_eq_false z1; simp only at this; omega
  subst hge;rw [Dbm.rc_yes h0 hd];obtain ⟨a', c', rfl⟩ := hO.form;refine EndI.mk fun w9 h9 => ⟨a', c', rfl, ?_⟩;exact (hO.at h9 (by intro b hb; simp at hb; subst hb; exact hX2)).lower hXw
end
theorem ld1_row {n : Nat} {W w : World} {L : List Nat} {a : Option Addr} {ad : Addr} {m cap : Nat} {l : List Int} (h : Sl n W (.slice a m cap) l) {k : Nat} {x : Int} (hk : l[k]? = some x) (had : a = some ad) (hB : Below n W w) (hL : ∀ b, b ∈ L -> n <= b) {K : Value -> Prop} (hK : K (.int .i64 x)) :
 LoadI w L (ad.add ((k : Int).toNat * 1)) K := by
 subst had;obtain ⟨h1, h2⟩ := h.cell hk hB;have h3 := h2 0 (.int .i64 x) rfl;have e0 : ∀ q : Addr, q.add 0 = q := fun q => by simp [Addr.add]
 rw [e0] at h3;refine ⟨⟨_, ⟨h3, fun e => ?_⟩, hK⟩⟩;have hb : (ad.add ((k : Int).toNat * 1)).block = ad.block := by unfold Addr.add; split <;> rfl
 rw [hb] at e;have := hL _ e; omega
theorem rtwin_any (n : Int) (a : Option Addr) (cap : Nat) (L : List Int) (hlen : L.length <= 1000000) (w : World) (hS : Sl w.heap.size w (.slice a L.length cap) L) :
 Calls Tryz.prog 248 #[.agg #[.int .i64 n, .slice a L.length cap]] w (Ret w fun v w' => ∃ a' c', v = .agg #[.int .i64 n, .slice a' L.length c'] /\ Own TB w.heap.size w' (.slice a' L.length c') L) := by
 refine fun_ret 0 w Tryz.func248 (args := [.agg [.val (.int .i64 n), .val (.slice a L.length cap)]]) rfl rfl ?_;refine NewI.mk fun b1 hb1 => ?_;refine NewI.mk fun b2 hb2 => ?_;refine DrawI.wr (.tk 0 (.tk 1 (.tk 2 (.tk 3 (.ev 4 (.tk 5 (.ev 6 .done))))))) [1] [] (by kernel_rfl) rfl (by simp) fun w1 h1 => ?_;have hlb : ∀ b, b ∈ [b1, b2] -> b < w1.heap.size := fun b hb => h1.lt b hb;refine GenN.app (α := Int) elB [] L w1.heap.size (fun w5 h5 => Own.nil) (fun w5 h5 => (hS.go h5.below h5.below.size).src) (by unfold maxLen; simp; omega) (by simp; omega) (fun w5 h5 => h5.size) (fun w5 w6 h5 hg => kpD_grown h5 hg (fun k hk => by cases hk)) fun v1 w5 w6 h5 hg hO1 => ?_;rw [List.nil_append] at hO1;obtain ⟨a1, c1, rfl⟩ := hO1.form;refine EndI.mk fun w9 h9 => ⟨a1, c1, rfl, ?_⟩;exact (hO1.at h9 (by intro b hb; rw [List.mem_singleton.1 hb]; exact hlb b2 (by simp))).lower h1.below.size
theorem rlesser_any (n m : Int) (a b : Option Addr) (cap cb : Nat) (L M : List Int) (hpos : 0 < L.length) (hlen : L.length <= 1000000) (hLM : L.length <= M.length) (w : World) (hS : Sl w.heap.size w (.slice a L.length cap) L) (hT : Sl w.heap.size w (.slice b M.length cb) M) :
 Calls Tryz.prog 247 #[.agg #[.int .i64 n, .slice a L.length cap], .agg #[.int .i64 m, .slice b M.length cb]] w (Ret w fun v w' => ∃ a' c', v = .agg #[.int .i64 n, .slice a' (Dbm.lessr L M).length c'] /\ Sl w'.heap.size w' (.slice a' (Dbm.lessr L M).length c') (Dbm.lessr L M)) := by
 refine fun_ret 0 w Tryz.func247 (args := [.agg [.val (.int .i64 n), .val (.slice a L.length cap)], .agg [.val (.int .i64 m), .val (.slice b M.length cb)]]) rfl rfl ?_;refine NewI.mk fun b1 hb1 => ?_;refine NewI.mk fun b2 hb2 => ?_;refine NewI.mk fun b3 hb3 => ?_;apply CallI.use
 focus (exact fun w3 h3 => rtwin_any n a cap L hlen w3 (hS.go h3.below h3.below.size))
 rintro v w3 w4 h3 hB4 ⟨a', cap', rfl, hO⟩;have hgb : ∀ b, b ∈ [b1, b2, b3] -> b < w3.heap.size := fun b hb => h3.lt b hb;have hwb : w.heap.size <= w3.heap.size := h3.below.size;refine NewI.mk fun b4 hb4 => ?_;have hb4' : w4.heap.size <= b4 := hb4;obtain ⟨g, rfl, hg, hr⟩ := hO.row hpos;obtain ⟨_, ⟨h0, _⟩ | ⟨g', c', cur', e0, _, hgc, hlc, hm, hs, _⟩⟩ := id hO
 ·cases h0
 injection e0 with e0 e1 e2;injection e0 with e0; injection e0 with e0; subst e0; subst e2;have hglt := hr.lt;have hgr : ∀ b, b ∈ [b1, b2, b3, b4] -> b ≠ g := fun b hb e => by
  simp only [List.mem_cons, List.not_mem_nil, or_false] at hb;have h1 := hgb b1 (by simp);have h2 := hgb b2 (by simp);have h3 := hgb b3 (by simp);omega
 have hgw : w.heap.size <= g := Nat.le_trans hwb hg;have hw4 : Below w.heap.size w w4 := h3.below.trans (hB4.mono hwb);refine LoopI.invC (α := Nat × World) (fun y => [(6, .val (.int .i64 y.1))]) (fun y => y.2) (fun y => y.1 <= L.length /\ Below w.heap.size w y.2 /\ RowAt TB y.2 g (Dbm.lessTo L M y.1)) (fun y => L.length - y.1) ?_ ?_
 ·intro w5 h5
  exact ⟨(0, w5), Cov.au rfl rfl rfl rfl rfl, rfl, Nat.zero_le _, h5.below, by simp only [Dbm.lessTo_zero]; exact hr.at h5 (fun hm => by simp at hm; exact hgr b4 (by simp) hm.symm)⟩
 rintro ⟨k, V⟩ ⟨hk, hV, hR⟩;simp only at hk hV hR;have hll := Dbm.lessTo_len L M k;refine Branch.mk (fun z1 => ?_) (fun z1 => ?_)
 ·have hlt : k < L.length := by have := of_decide_eq_true z1; simp only at this; omega
  have hy := List.getElem?_eq_getElem (l := M) (i := k) (by omega);generalize hyv : M[k]'(by omega) = y at hy;have hM : M[k]?.getD 0 = y := by rw [hy]; rfl
  have hTV := hT.go hV hV.size;refine DrawI.go (.tk 0 (.tk 1 (.tk 2 (.tk 3 (.tk 4 (.tk 5 (.tk 6 (.tk 7 (.tk 8 (.tk 9 (.tk 10 .done))))))))))) (by kernel_rfl) fun w5 h5 => ?_;have r5 := hR.at h5 (by simp);have hT5 := hTV.go h5.go h5.size;refine hT5.idx hy fun ad had => ?_;refine hT5.ld1 hy had (Below.refl _ _) (by simp) ?_;refine IdxI.mk ⟨_, ⟨rfl, by simp only; omega, by simp only; omega⟩, ?_⟩;have ead : (⟨g, 0, none⟩ : Addr).add ((k : Int).toNat * 1) = ⟨g, k, none⟩ := by simp [addr_addL]
  refine LoadI.mk ⟨_, ⟨by rw [show ((⟨g, 0, none⟩ : Addr).add ((((k, V).1 : Nat) : Int).toNat * 1)) = ⟨g, k, none⟩ from ead]; exact r5.cell (j := k) (by omega), by simp⟩, ?_⟩;rw [Dbm.lessTo_get L M hlt];refine Branch.mk (fun z2 => ?_) (fun z2 => ?_)
  ·have hlt2 : y < L[k]?.getD 0 := of_decide_eq_true z2
   refine DrawI.wr (.tk 0 (.tk 1 (.tk 2 (.tk 3 (.tk 4 (.tk 5 (.tk 6 (.tk 7 (.tk 8 (.ev 9 .done)))))))))) [] [g] (by kernel_rfl) rfl (fun b hb h => hgr b hb (by simpa using h)) fun w6 h6 => ?_;have r6 := r5.at h6 (by simp);have hT6 := hT5.go h6.go h6.size;refine hT6.idx hy fun ad2 had2 => ?_;refine ld1_row hT hy had2 h6.below (fun b hb => by rw [List.mem_singleton.1 hb]; exact hgw) ?_;refine IdxI.mk ⟨_, ⟨rfl, by simp only; omega, by simp only; omega⟩, ?_⟩;refine StoreI.mk fun w7 h7 => ?_;have r7 := r6.at h7 (by simp);rw [show ((⟨g, 0, none⟩ : Addr).add ((((k, V).1 : Nat) : Int).toNat * 1)) = ⟨g, k, none⟩ from ead];refine ⟨⟨⟨_, r7.cell (j := k) (by omega)⟩, r7.frozen _⟩, Zo.kpD_set hgw hgr (by simp [locs]), ?_⟩;refine Need.ok (EndI.mk fun w9 h9 => ⟨(k + 1, w9), Cov.au rfl rfl rfl rfl rfl, rfl, ⟨hlt, h9.below, ?_⟩, by simp only; omega⟩);show RowAt TB w9 g (Dbm.lessTo L M (k + 1));rw [Dbm.lessTo_succ L M hlt, hM, show min (L[k]?.getD 0) y = y by omega];exact (r7.set (by omega) _).at h9 (by simp)
  ·have hge2 : ¬ y < L[k]?.getD 0 := of_decide_eq_false z2
   refine Need.ok (EndI.mk fun w9 h9 => ⟨(k + 1, w9), Cov.au rfl rfl rfl rfl rfl, rfl, ⟨hlt, h9.below, ?_⟩, by simp only; omega⟩);show RowAt TB w9 g (Dbm.lessTo L M (k + 1));have e1 : Dbm.lessTo L M (k + 1) = Dbm.lessTo L M k := by
    rw [Dbm.lessTo_succ L M hlt, hM, show min (L[k]?.getD 0) y = L[k]?.getD 0 by omega];apply List.ext_getElem?;intro i
    by_cases e : i = k
    ·subst e
     have h1 : (Dbm.lessTo L M i)[i]? = some ((Dbm.lessTo L M i)[i]?.getD 0) := by rw [List.getElem?_eq_getElem (by omega)]; rfl
     rw [List.getElem?_set_self (by omega), h1, Dbm.lessTo_get L M hlt]
    ·rw [List.getElem?_set_ne (fun h => e h.symm)]
   rw [e1];exact r5.at h9 (by simp)
 ·have hge : k = L.length := by have := of_decide_eq_false z1; simp only at this; omega
  subst hge;rw [Dbm.lessTo_all] at hR;have hlr := Dbm.lessr_len L M;refine EndI.mk fun w9 h9 => ⟨_, cap', by rw [hlr], ?_⟩;exact Fresh.sl (e := TB) (base := w.heap.size) (.inr ⟨g, cap', rfl, by omega, hm, hgw, hR.at h9 (fun hm => hgr b3 (by simp) (List.mem_singleton.1 hm).symm)⟩)
theorem rcommon_any (N : Nat) (m : Int) (a b : Option Addr) (cap cb : Nat) (L M : List Int) (h0 : Dbm.chk N (Dbm.lessr L M) = 0) (hLM : L.length <= M.length) (w : World) (hS : Sl w.heap.size w (.slice a L.length cap) L) (hT : Sl w.heap.size w (.slice b M.length cb) M) :
 Calls Tryz.prog 245 #[.agg #[.int .i64 N, .slice a L.length cap], .agg #[.int .i64 m, .slice b M.length cb]] w (Ret w fun v w' => ∃ a' c', v = .tuple #[.agg #[.int .i64 (Dbm.rc N (Dbm.lessr L M)).1, .slice a' (Dbm.rc N (Dbm.lessr L M)).2.1.length c'], .bool (Dbm.rc N (Dbm.lessr L M)).2.2] /\ Own TB w.heap.size w' (.slice a' (Dbm.rc N (Dbm.lessr L M)).2.1.length c') (Dbm.rc N (Dbm.lessr L M)).2.1) := by
 obtain ⟨c1, c2, c3, c4⟩ := Dbm.chk_iff.1 h0;have hlr := Dbm.lessr_len L M;have hN : N = 1 \/ N = 2 \/ N = 3 \/ N = 4 := by omega
 have hLpos : 0 < L.length /\ L.length <= 16 := by rcases hN with rfl | rfl | rfl | rfl <;> simp at c3 <;> omega
 refine fun_ret 0 w Tryz.func245 (args := [.agg [.val (.int .i64 N), .val (.slice a L.length cap)], .agg [.val (.int .i64 m), .val (.slice b M.length cb)]]) rfl rfl ?_;refine NewI.mk fun b1 hb1 => ?_;refine NewI.mk fun b2 hb2 => ?_;refine NewI.mk fun b3 hb3 => ?_;apply CallI.use
 focus (exact fun w1 h1 => rlesser_any N m a b cap cb L M hLpos.1 (by omega) hLM w1 (hS.go h1.below h1.below.size) (hT.go h1.below h1.below.size))
 rintro v w1 v1 h1 hB1 ⟨a1, c1', rfl, hS1⟩;apply CallI.use
 focus (exact fun w2 h2 => rclosed_any h0 a1 c1' w2 (hS1.go (atB h2 (by simp)) h2.size))
 rintro v w2 v2 h2 hB2 ⟨a2, c2', rfl, hO2⟩;refine EndI.mk fun w9 h9 => ⟨a2, c2', rfl, ?_⟩;exact (hO2.at h9 (fun b hb => by rw [List.mem_singleton.1 hb]; exact h2.lt b3 (by simp))).lower h2.below.size
def sameB (m n : Int) (L M : List Int) : Bool := decide (m = n) && decide (L = M)
theorem same04_any (m n : Int) (L M : List Int) (a b : Option Addr) (ca cb : Nat) (w : World) (hA : Sl w.heap.size w (.slice a L.length ca) L) (hB : Sl w.heap.size w (.slice b M.length cb) M) :
 Calls Tryz.prog 212 #[.agg #[.int .i64 m, .slice a L.length ca], .agg #[.int .i64 n, .slice b M.length cb]] w fun e w' => e = .returned (.bool (sameB m n L M)) /\ Below w.heap.size w w' := by
 obtain ⟨_, _, ea, hca, hma, _⟩ := hA.form;injection ea with e1 e2 e3;subst e1; subst e3;unfold maxLen at hma;refine fun_eq 0 w Tryz.func212 (args := [.agg [.val (.int .i64 m), .val (.slice a L.length ca)], .agg [.val (.int .i64 n), .val (.slice b M.length cb)]]) rfl rfl ?_;refine NewI.mk fun b1 hb1 => ?_;refine NewI.mk fun b2 hb2 => ?_;refine Branch.mk (fun hc => ?_) (fun hc => ?_)
 ·refine EndI.mk fun w1 h1 => ?_
  have : m ≠ n := by simpa using hc
  simp [sameB, this]
 have hmn : m = n := by simpa using hc
 refine Branch.mk (fun hc => ?_) (fun hc => ?_)
 ·refine EndI.mk fun w1 h1 => ?_
  have h1 : (L.length : Int) ≠ M.length := by simpa using hc
  have : L ≠ M := fun e => h1 (by rw [e]);simp [sameB, this]
 have hlm : L.length = M.length := by (have : (L.length : Int) = M.length := by simpa using hc); omega
 refine LoopI.invC (α := Nat × World) (fun y => [(5, .val (.int .i64 y.1))]) (fun y => y.2) (fun y => y.1 <= L.length /\ Below w.heap.size w y.2 /\ ∀ j, j < y.1 -> L[j]? = M[j]?) (fun y => L.length - y.1) ?_ ?_
 ·intro w1 h1
  exact ⟨(0, w1), Cov.au rfl rfl rfl rfl rfl, rfl, Nat.zero_le _, h1.below, fun j hj => by omega⟩
 rintro ⟨k, W⟩ ⟨hk, hW, hall⟩;refine Branch.mk (fun hb => ?_) (fun hb => ?_)
 ·have hlt : k < L.length := by simpa using hb
  have hkm : k < M.length := by omega
  refine DrawI.go (.tk 0 (.tk 1 (.tk 2 (.tk 3 (.tk 4 (.tk 5 (.tk 6 (.tk 7 (.tk 8 (.tk 9 (.tk 10 .done))))))))))) (by kernel_rfl) fun w2 h2 => ?_;refine hA.idx (List.getElem?_eq_getElem hlt) fun ad had => ?_;refine hA.ld1 (List.getElem?_eq_getElem hlt) had h2.below (by simp) ?_;refine hB.idx (List.getElem?_eq_getElem hkm) fun bd hbd => ?_;refine hB.ld1 (List.getElem?_eq_getElem hkm) hbd h2.below (by simp) ?_;refine Branch.mk (fun hc => ?_) (fun hc => ?_)
  ·refine EndI.mk fun w3 h3 => ?_
   have h1 : L[k] ≠ M[k] := by simpa using hc
   have : L ≠ M := fun e => by subst e; exact h1 rfl
   simp [sameB, this]
  ·have h1 : L[k] = M[k] := by simpa using hc
   refine Need.mk (by show _ /\ _; omega) (EndI.mk fun w3 h3 => ⟨(k + 1, w3), Cov.au rfl rfl rfl rfl rfl, rfl, ⟨hlt, h3.below, fun j hj => ?_⟩, by simp only; omega⟩)
   by_cases hjk : j = k
   ·subst hjk; rw [List.getElem?_eq_getElem hlt, List.getElem?_eq_getElem hkm, h1]
   ·exact hall j (by omega)
 ·have hge : k = L.length := by (have : ¬ k < L.length := by simpa using hb); omega
  refine EndI.mk fun w3 h3 => ?_;have : L = M := by
   apply List.ext_getElem?;intro j;rcases Nat.lt_or_ge j L.length with h | h
   ·exact hall j (by omega)
   ·rw [List.getElem?_eq_none h, List.getElem?_eq_none (by omega)]
  simp [sameB, this, hmn]
theorem rfull_any (z : Zn) (w : World) :
 Calls Tryz.prog 87 #[.agg #[.int .i64 z.a, .int .i64 z.b, .int .i64 z.c, .int .i64 z.d, .int .i64 z.e, .int .i64 z.f]] w (Ret w fun v w' => ∃ a' c', v = .agg #[.int .i64 3, .slice a' (Zo.matL z).length c'] /\ Sl w'.heap.size w' (.slice a' (Zo.matL z).length c') (Zo.matL z)) := by
 refine fun_ret 0 w Tryz.func87 (args := [.agg [.val (.int .i64 z.a), .val (.int .i64 z.b), .val (.int .i64 z.c), .val (.int .i64 z.d), .val (.int .i64 z.e), .val (.int .i64 z.f)]]) rfl rfl ?_;refine NewI.mk fun b1 hb1 => ?_;refine NewI.mk fun b2 hb2 => ?_;refine Need.mk (by decide) ?_;refine Need.mk (by decide) ?_;refine Need.mk (by decide) ?_;refine Need.mk (by decide) ?_;refine Need.mk (by decide) ?_;refine Need.mk (by decide) ?_;refine NewI.mk fun b3 hb3 => ?_;exact EndI.mk fun w9 h9 => ⟨_, _, rfl, Sl.own (l := Zo.matL z) h9 2 rfl rfl rfl (Nat.le_refl _) (by simp [maxLen, Zo.matL])⟩
theorem rshort_any (n : Int) (a : Option Addr) (cap : Nat) (L : List Int) (hL : L.length = 9) (w : World) (hS : Sl w.heap.size w (.slice a L.length cap) L) :
 Calls Tryz.prog 246 #[.agg #[.int .i64 n, .slice a L.length cap]] w fun e w' => e = .returned (.agg #[.int .i64 (Zo.ofL L).a, .int .i64 (Zo.ofL L).b, .int .i64 (Zo.ofL L).c, .int .i64 (Zo.ofL L).d, .int .i64 (Zo.ofL L).e, .int .i64 (Zo.ofL L).f]) /\ Below w.heap.size w w' := by
 refine fun_eq 0 w Tryz.func246 (args := [.agg [.val (.int .i64 n), .val (.slice a L.length cap)]]) rfl rfl ?_;have g : ∀ k, k < 9 -> L[k]? = some (L[k]?.getD 0) := fun k hk => by rw [List.getElem?_eq_getElem (by omega)]; rfl
 refine NewI.mk fun b1 hb1 => ?_;refine NewI.mk fun b2 hb2 => ?_;refine DrawI.wr (.tk 0 (.tk 1 (.tk 2 (.tk 3 (.tk 4 (.tk 5 (.tk 6 (.tk 7 (.tk 8 (.tk 9 (.tk 10 (.tk 11 (.tk 12 (.tk 13 (.tk 14 (.tk 15 (.tk 16 (.tk 17 (.tk 18 (.ev 19 .done)))))))))))))))))))) [1] [] (by kernel_rfl) rfl (by simp) fun w1 h1 => ?_;have hlb2 : b2 < w1.heap.size := h1.lt b2 (by simp);have hw1 : w.heap.size <= b2 := hb2;have hB1 := h1.below;refine (hS.go hB1 hB1.size).idx (k := 3) (g 3 (by omega)) fun ad3 had3 => ?_;refine ld1_row hS (k := 3) (g 3 (by omega)) had3 hB1 (fun b hb => by simp [locs] at hb; omega) ?_;refine (hS.go hB1 hB1.size).idx (k := 1) (g 1 (by omega)) fun ad1 had1 => ?_;refine ld1_row hS (k := 1) (g 1 (by omega)) had1 hB1 (fun b hb => by simp [locs] at hb; omega) ?_;refine (hS.go hB1 hB1.size).idx (k := 6) (g 6 (by omega)) fun ad6 had6 => ?_;refine ld1_row hS (k := 6) (g 6 (by omega)) had6 hB1 (fun b hb => by simp [locs] at hb; omega) ?_;refine (hS.go hB1 hB1.size).idx (k := 2) (g 2 (by omega)) fun ad2 had2 => ?_;refine ld1_row hS (k := 2) (g 2 (by omega)) had2 hB1 (fun b hb => by simp [locs] at hb; omega) ?_;refine (hS.go hB1 hB1.size).idx (k := 7) (g 7 (by omega)) fun ad7 had7 => ?_;refine ld1_row hS (k := 7) (g 7 (by omega)) had7 hB1 (fun b hb => by simp [locs] at hb; omega) ?_;refine (hS.go hB1 hB1.size).idx (k := 5) (g 5 (by omega)) fun ad5 had5 => ?_;refine ld1_row hS (k := 5) (g 5 (by omega)) had5 hB1 (fun b hb => by simp [locs] at hb; omega) ?_;exact EndI.mk fun w9 h9 => rfl
namespace Zo
def i64 (z : Zn) : Prop := ∀ b, b ∈ matL z -> Dbm.int64 b
theorem close_rc {L : List Int} (h0 : Dbm.chk 3 L = 0) : (Dbm.close 3 L = (3, L, 0) /\ Dbm.rc 3 L = (3, L, true)) \/ Dbm.close 3 L ≠ (3, L, 0) /\ ((Dbm.rc 3 L).2.2 = false \/ (Dbm.rc 3 L).2.1 ≠ L) := by
 have hcl : Dbm.close 3 L = (match Dbm.closeL 3 L with | some L' => (3, L', 0) | none => (0, [], 6)) := by unfold Dbm.close; rw [if_pos h0]; rfl
 unfold Dbm.rc;cases hC : Dbm.closeL 3 L with
 | none =>
   rw [hC] at hcl;right;rw [hcl];exact ⟨by simp, .inl rfl⟩
 | some C =>
   rw [hC] at hcl;rw [hcl]
   by_cases e : C = L
   ·subst e; left; exact ⟨rfl, rfl⟩
   ·right; exact ⟨fun h => e (by simpa using h), .inr e⟩
theorem chk_rc (z : Zn) : (Dbm.chk 3 (matL z) = 0 /\ chk z = 0 /\ Dbm.rc 3 (matL z) = (3, matL z, true)) \/ chk z ≠ 0 /\ (Dbm.chk 3 (matL z) ≠ 0 \/ Dbm.chk 3 (matL z) = 0 /\ ((Dbm.rc 3 (matL z)).2.2 = false \/ (Dbm.rc 3 (matL z)).2.1 ≠ matL z)) := by
 have hk : chk z = 0 ↔ Dbm.close 3 (matL z) = (3, matL z, 0) := chk_eq;generalize matL z = L at hk ⊢
 by_cases h0 : Dbm.chk 3 L = 0
 ·rcases close_rc h0 with ⟨h1, h2⟩ | ⟨h1, h2⟩
  ·exact .inl ⟨h0, hk.2 h1, h2⟩
  ·exact .inr ⟨fun h => h1 (hk.1 h), .inr ⟨h0, h2⟩⟩
 ·right
  refine ⟨fun h => ?_, .inl h0⟩;have := hk.1 h;unfold Dbm.close at this;rw [if_neg h0] at this;simp at this
end Zo
theorem rzmay_any (z : Zn) (hz : Zo.i64 z) (w : World) :
 Calls Tryz.prog 197 #[.agg #[.int .i64 z.a, .int .i64 z.b, .int .i64 z.c, .int .i64 z.d, .int .i64 z.e, .int .i64 z.f]] w fun e w' => e = .returned (.bool (decide (Zo.chk z = 0))) /\ Below w.heap.size w w' := by
 refine fun_eq 0 w Tryz.func197 (args := [.agg [.val (.int .i64 z.a), .val (.int .i64 z.b), .val (.int .i64 z.c), .val (.int .i64 z.d), .val (.int .i64 z.e), .val (.int .i64 z.f)]]) rfl rfl ?_;refine NewI.mk fun b1 hb1 => ?_;apply CallI.use
 focus (exact fun w1 h1 => rfull_any z w1)
 rintro v w1 v1 h1 hB1 ⟨a1, c1, rfl, hS1⟩;refine NewI.mk fun b2 hb2 => ?_;have hb2' : v1.heap.size <= b2 := hb2;apply CallI.use1
 focus (exact fun w2 h2 => rmay04_any 3 (Zo.matL z) ⟨by omega, by omega⟩ hz a1 c1 w2 (hS1.go (atB h2 (by simp; omega)) h2.size))
 intro w2 v2 h2 hB2;have hS2 := (hS1.go (atB h2 (by simp; omega)) h2.size).go hB2 hB2.size;rcases Zo.chk_rc z with ⟨h0, hc, hr⟩ | ⟨hc, hor⟩
 ·rw [h0, hc]
  have hrc := fun w h => rclosed_any (N := 3) (L := Zo.matL z) h0 a1 c1 w h;rw [hr] at hrc;refine Branch.no rfl ?_;apply CallI.use
  focus (exact fun w3 h3 => hrc w3 (hS2.go (atB h3 (by simp)) h3.size))
  rintro v w3 v3 h3 hB3 ⟨a3, c3, rfl, hO3⟩;have hS3 := (hS2.go (atB h3 (by simp)) h3.size).go hB3 hB3.size;refine NewI.mk fun b3 hb3 => ?_;have hb3' : v3.heap.size <= b3 := hb3;refine Branch.yes rfl ?_;apply CallI.use1
  focus (exact fun w4 h4 => same04_any 3 3 (Zo.matL z) (Zo.matL z) a3 a1 c3 c1 w4 (hO3.below (atB h4 (by simp; omega))).sl (hS3.go (atB h4 (by simp; omega)) h4.size))
  intro w4 v4 h4 hB4;refine EndI.mk fun w9 h9 => ?_;simp [sameB]
 ·rw [decide_eq_false hc]
  rcases hor with h0 | ⟨h0, hor⟩
  ·rw [decide_eq_false h0]
   refine Branch.yes rfl ?_;exact EndI.mk fun w9 h9 => rfl
  ·rw [decide_eq_true h0]
   have hrc := fun w h => rclosed_any (N := 3) (L := Zo.matL z) h0 a1 c1 w h;generalize Dbm.rc 3 (Zo.matL z) = R at hrc hor;obtain ⟨n3, C, is⟩ := R;simp only at hrc hor;refine Branch.no rfl ?_;apply CallI.use
   focus (exact fun w3 h3 => hrc w3 (hS2.go (atB h3 (by simp)) h3.size))
   rintro v w3 v3 h3 hB3 ⟨a3, c3, rfl, hO3⟩;have hS3 := (hS2.go (atB h3 (by simp)) h3.size).go hB3 hB3.size;refine NewI.mk fun b3 hb3 => ?_;have hb3' : v3.heap.size <= b3 := hb3;refine Branch.mk (fun z1 => ?_) (fun z1 => ?_)
   ·have hne : C ≠ Zo.matL z := hor.resolve_left (fun h => by rw [h] at z1; cases z1)
    apply CallI.use1
    focus (exact fun w4 h4 => same04_any n3 3 C (Zo.matL z) a3 a1 c3 c1 w4 (hO3.below (atB h4 (by simp; omega))).sl (hS3.go (atB h4 (by simp; omega)) h4.size))
    intro w4 v4 h4 hB4;refine EndI.mk fun w9 h9 => ?_;simp [sameB, hne]
   ·exact EndI.mk fun w9 h9 => rfl
end
section
open Go.RowKit
theorem rother02_any (b : Int) (h1 : -4611686018427387903 <= b / 2) (h2 : b / 2 <= 4611686018427387903) (w : World) :
 Calls Tryz.prog 241 #[.int .i64 b] w fun e w' => e = .returned (.int .i64 (Bd.mk (-(b / 2)) (!(Bd.st b)))) /\ w = w' := by
 go_enter Tryz.func241, Tryz.ntmps241
 go_wp2_with (first
  | (go_at_call 42; refine (rnumber_any _ (by omega) (by omega) _).mono ?_; rintro e w' ⟨rfl, rfl⟩)
  | (go_at_call 177; refine (rstrict_any _ _).mono ?_; rintro e w' ⟨rfl, rfl⟩)
  | (go_at_call 187; refine (rmade_any _ _ (by omega) (by omega) _).mono ?_; rintro e w' ⟨rfl, rfl⟩))
 go_ret
 exact ⟨rfl, rfl⟩
end
section
open Go.RowKit Go.Proofs.YtanhnllkccldhaaGreat.Eng Enc
namespace Mi
open Dbm
def none6 : Zn := ⟨NO, NO, NO, NO, NO, NO⟩
theorem min_no {x : Int} (h : lim 288230376151711744 x) : min x NO = x := by
 rcases h with h | h
 ·rw [h]; exact Int.min_self _
 ·unfold NO; omega
theorem lessr_cut {z : Zn} (hz : chk 3 (Zo.matL z) = 0) {i : Nat} (hi : i < 6) (b : Int) : lessr (Zo.matL z) (Zo.matL (Zo.set none6 i b)) = Zo.matL (cut z i b) := by
 have m0 : min z.a NO = z.a := min_no (get_lim hz (show 0 < 6 by decide));have m1 : min z.b NO = z.b := min_no (get_lim hz (show 1 < 6 by decide));have m2 : min z.c NO = z.c := min_no (get_lim hz (show 2 < 6 by decide));have m3 : min z.d NO = z.d := min_no (get_lim hz (show 3 < 6 by decide));have m4 : min z.e NO = z.e := min_no (get_lim hz (show 4 < 6 by decide));have m5 : min z.f NO = z.f := min_no (get_lim hz (show 5 < 6 by decide));rcases six hi with rfl | rfl | rfl | rfl | rfl | rfl
 all_goals
  simp [lessr, Zo.matL, Zo.set, none6, cut, Zo.get, List.range, List.range.loop];simp [m0, m1, m2, m3, m4, m5]
theorem mayC_min {x b : Int} (hx : mayC x = true) (hb : mayC b = true) : mayC (min x b) = true := by
 rcases Int.le_total x b with h | h
 ·rw [Int.min_eq_left h]; exact hx
 ·rw [Int.min_eq_right h]; exact hb
theorem chk_cut {z : Zn} (hz : chk 3 (Zo.matL z) = 0) {i : Nat} (hi : i < 6) {b : Int} (hb : mayC b = true) : chk 3 (Zo.matL (cut z i b)) = 0 := by
 obtain ⟨_, _, _, c4⟩ := chk_iff.1 hz;have hm : ∀ x, x ∈ Zo.matL z -> mayC x = true := fun x hx => by have := List.any_eq_false.1 c4 x hx; simpa using this
 have o1 : mayC 1 = true := by decide
 have ha := hm z.a (by simp [Zo.matL]);have hbb := hm z.b (by simp [Zo.matL]);have hc := hm z.c (by simp [Zo.matL]);have hd := hm z.d (by simp [Zo.matL]);have he := hm z.e (by simp [Zo.matL]);have hf := hm z.f (by simp [Zo.matL]);refine chk_iff.2 ⟨by omega, by omega, rfl, ?_⟩;rw [List.any_eq_false];rcases six hi with rfl | rfl | rfl | rfl | rfl | rfl
 all_goals
  intro x hx;simp [Zo.matL, cut, Zo.set, Zo.get] at hx;rcases hx with rfl | rfl | rfl | rfl | rfl | rfl | rfl | rfl | rfl <;> simp [ha, hbb, hc, hd, he, hf, o1, mayC_min, hb]
theorem clo_int64 {C : List Int} (h : Clo 3 C) : ∀ x, x ∈ C -> Dbm.int64 x := fun x hx => by
 obtain ⟨q, hq, rfl⟩ := List.mem_iff_getElem.1 hx;have := lim_q h.lim q (by rw [h.len] at hq; exact hq);rw [List.getElem?_eq_getElem hq] at this;exact (lim_int64 (lim_mono this (by omega))).1
theorem wth_rc {z : Zn} {i : Nat} {b : Int} (h0 : chk 3 (Zo.matL (cut z i b)) = 0) :
 ((rc 3 (Zo.matL (cut z i b))).2.2 = false /\ wth z i b = (Zo.nought, 6)) \/ ((rc 3 (Zo.matL (cut z i b))).2.2 = true /\ (rc 3 (Zo.matL (cut z i b))).1 = 3 /\ (rc 3 (Zo.matL (cut z i b))).2.1.length = 9 /\ (∀ x, x ∈ (rc 3 (Zo.matL (cut z i b))).2.1 -> Dbm.int64 x) /\ wth z i b = if chk 3 (rc 3 (Zo.matL (cut z i b))).2.1 = 0 then (Zo.ofL (rc 3 (Zo.matL (cut z i b))).2.1, 0) else (Zo.nought, 8)) := by
 unfold wth;rw [if_pos h0];generalize Zo.matL (cut z i b) = L at h0 ⊢;have hcl : close 3 L = (match closeL 3 L with | some L' => (3, L', 0) | none => (0, [], 6)) := by unfold close; rw [if_pos h0]; rfl
 unfold Zo.of rc;rw [if_pos h0, if_pos rfl];cases hC : closeL 3 L with
 | none =>
   rw [hC] at hcl; rw [hcl]
   left; exact ⟨rfl, rfl⟩
 | some C =>
   rw [hC] at hcl; rw [hcl];right;have clo := close_clo (N := 3) h0 hC;exact ⟨rfl, rfl, clo.len, clo_int64 clo, rfl⟩
end Mi
theorem rnone_any (w : World) : Calls Tryz.prog 244 #[] w fun e w' => e = .returned (.agg #[.int .i64 Mi.none6.a, .int .i64 Mi.none6.b, .int .i64 Mi.none6.c, .int .i64 Mi.none6.d, .int .i64 Mi.none6.e, .int .i64 Mi.none6.f]) /\ Below w.heap.size w w' := by
 refine fun_eq 0 w Tryz.func244 (args := []) rfl rfl ?_;refine NewI.mk fun b1 hb1 => ?_;exact EndI.mk fun w9 h9 => rfl
theorem rother11_any (i : Nat) (hi : i < 6) (w : World) : Calls Tryz.prog 240 #[.int .i64 (i : Nat)] w fun e w' => e = .returned (.int .i64 (Mi.other i : Nat)) /\ Below w.heap.size w w' := by
 rcases Mi.six hi with rfl | rfl | rfl | rfl | rfl | rfl
 all_goals (refine fun_eq 0 w Tryz.func240 (args := [.val (.int .i64 _)]) rfl rfl ?_)
 all_goals
  refine Need.mk (by simp) ?_
  first | refine Branch.yes rfl ?_ | refine Branch.no rfl ?_
  refine Need.mk (by simp [inK]) ?_;exact EndI.mk fun w9 h9 => rfl
set_option maxHeartbeats 16000000 in
theorem rwith_any (z : Zn) (hz : Dbm.chk 3 (Zo.matL z) = 0) (i : Nat) (hi : i < 6) (b : Int) (hb : Dbm.mayC b = true) (w : World) :
 Calls Tryz.prog 239 #[.agg #[.int .i64 z.a, .int .i64 z.b, .int .i64 z.c, .int .i64 z.d, .int .i64 z.e, .int .i64 z.f], .int .i64 (i : Nat), .int .i64 b] w fun e w' => e = .returned (.tuple #[.agg #[.int .i64 (Mi.wth z i b).1.a, .int .i64 (Mi.wth z i b).1.b, .int .i64 (Mi.wth z i b).1.c, .int .i64 (Mi.wth z i b).1.d, .int .i64 (Mi.wth z i b).1.e, .int .i64 (Mi.wth z i b).1.f], .int .i64 (Mi.wth z i b).2]) /\ Below w.heap.size w w' := by
 have hst : ∀ w1 : World, True := fun _ => trivial;have hcut := Mi.lessr_cut hz hi b;have hnone := fun w => rnone_any w;generalize Mi.none6 = n6 at hcut hnone;have h0 := Mi.chk_cut hz hi hb;have hcom := fun (a c : Option Addr) (ca cc : Nat) (w : World) h k => rcommon_any 3 3 a c ca cc (Zo.matL z) (Zo.matL (Zo.set n6 i b)) (by rw [hcut]; exact h0) (Nat.le_refl 9) w h k;rw [hcut] at hcom;have hor := Mi.wth_rc h0;generalize Dbm.rc 3 (Zo.matL (Mi.cut z i b)) = R at hcom hor;generalize hW : Mi.wth z i b = W at hor ⊢;obtain ⟨n3, C, is⟩ := R;simp only at hcom hor;rcases Mi.six hi with rfl | rfl | rfl | rfl | rfl | rfl;refine fun_eq 0 w Tryz.func239 (args := [.agg [.val (.int .i64 z.a), .val (.int .i64 z.b), .val (.int .i64 z.c), .val (.int .i64 z.d), .val (.int .i64 z.e), .val (.int .i64 z.f)], .val (.int .i64 0), .val (.int .i64 b)]) rfl rfl ?_;have hf2 := fun (w : World) => rfull_any ⟨b, n6.b, n6.c, n6.d, n6.e, n6.f⟩ w;rotate_left;refine fun_eq 0 w Tryz.func239 (args := [.agg [.val (.int .i64 z.a), .val (.int .i64 z.b), .val (.int .i64 z.c), .val (.int .i64 z.d), .val (.int .i64 z.e), .val (.int .i64 z.f)], .val (.int .i64 1), .val (.int .i64 b)]) rfl rfl ?_;have hf2 := fun (w : World) => rfull_any ⟨n6.a, b, n6.c, n6.d, n6.e, n6.f⟩ w;rotate_left;refine fun_eq 0 w Tryz.func239 (args := [.agg [.val (.int .i64 z.a), .val (.int .i64 z.b), .val (.int .i64 z.c), .val (.int .i64 z.d), .val (.int .i64 z.e), .val (.int .i64 z.f)], .val (.int .i64 2), .val (.int .i64 b)]) rfl rfl ?_;have hf2 := fun (w : World) => rfull_any ⟨n6.a, n6.b, b, n6.d, n6.e, n6.f⟩ w;rotate_left;refine fun_eq 0 w Tryz.func239 (args := [.agg [.val (.int .i64 z.a), .val (.int .i64 z.b), .val (.int .i64 z.c), .val (.int .i64 z.d), .val (.int .i64 z.e), .val (.int .i64 z.f)], .val (.int .i64 3), .val (.int .i64 b)]) rfl rfl ?_;have hf2 := fun (w : World) => rfull_any ⟨n6.a, n6.b, n6.c, b, n6.e, n6.f⟩ w;rotate_left;refine fun_eq 0 w Tryz.func239 (args := [.agg [.val (.int .i64 z.a), .val (.int .i64 z.b), .val (.int .i64 z.c), .val (.int .i64 z.d), .val (.int .i64 z.e), .val (.int .i64 z.f)], .val (.int .i64 4), .val (.int .i64 b)]) rfl rfl ?_;have hf2 := fun (w : World) => rfull_any ⟨n6.a, n6.b, n6.c, n6.d, b, n6.f⟩ w;rotate_left;refine fun_eq 0 w Tryz.func239 (args := [.agg [.val (.int .i64 z.a), .val (.int .i64 z.b), .val (.int .i64 z.c), .val (.int .i64 z.d), .val (.int .i64 z.e), .val (.int .i64 z.f)], .val (.int .i64 5), .val (.int .i64 b)]) rfl rfl ?_;have hf2 := fun (w : World) => rfull_any ⟨n6.a, n6.b, n6.c, n6.d, n6.e, b⟩ w;rotate_left
 all_goals
  refine NewI.mk fun b1 hb1 => ?_;refine NewI.mk fun b2 hb2 => ?_;refine CallI.to1 (fun w => hnone w) fun w1 => ?_;refine NewI.mk fun b3 hb3 => ?_;have hb3' : w1.heap.size <= b3 := hb3;refine Need.mk (by decide) ?_;refine DrawI.go (.tk 0 (.tk 2 (.two 1 (.two 3 (.two 4 (.tk 5 (.tk 6 (.tk 7 (.ev 8 (.ev 9 (.tk 10 .done)))))) 8 (.ev 4 (.tk 5 (.tk 6 (.tk 7 (.ev 9 (.tk 10 .done))))))) 8 (.ev 3 (.ev 4 (.tk 5 (.tk 6 (.tk 7 (.ev 9 (.tk 10 .done)))))))) 8 (.ev 1 (.ev 3 (.ev 4 (.tk 5 (.tk 6 (.tk 7 (.ev 9 (.tk 10 .done))))))))))) (by kernel_rfl) fun w2 h2 => ?_;have st := Stay.start h2.below;refine Both.mk ?_ ?_;apply CallI.use
  focus (exact fun w3 h3 => rfull_any z w3)
  rintro v w3 v3 h3 hB3 ⟨a1, c1, rfl, hS1⟩;have st := st.nx h3 hB3;refine Both.mk ?_ ?_;apply CallI.use
  focus (exact fun w4 h4 => hf2 w4)
  rintro v w4 v4 h4 hB4 ⟨a2, c2, rfl, hS2⟩;have st := st.nx h4 hB4;refine Both.mk ?_ ?_;apply CallI.use
  focus (exact fun w5 h5 => hcom a1 a2 c1 c2 w5 (hS1.st (st.at h5)) (hS2.st (st.at h5)))
  rintro v w5 v5 h5 hB5 ⟨a3, c3, rfl, hO3⟩;have st := st.nx h5 hB5;refine NewI.mk fun b9 hb9 => ?_;rotate_left;refine NewI.mk fun b9 hb9 => ?_;apply CallI.use
  focus (exact fun w5 h5 => hcom a1 a2 c1 c2 w5 (hS1.st (st.at h5)) (hS2.st (st.at h5)))
  rintro v w5 v5 h5 hB5 ⟨a3, c3, rfl, hO3⟩;have st := st.nx h5 hB5;rotate_left;refine NewI.mk fun b9 hb9 => ?_;apply CallI.use
  focus (exact fun w4 h4 => hf2 w4)
  rintro v w4 v4 h4 hB4 ⟨a2, c2, rfl, hS2⟩;have st := st.nx h4 hB4;apply CallI.use
  focus (exact fun w5 h5 => hcom a1 a2 c1 c2 w5 (hS1.st (st.at h5)) (hS2.st (st.at h5)))
  rintro v w5 v5 h5 hB5 ⟨a3, c3, rfl, hO3⟩;have st := st.nx h5 hB5;rotate_left;refine NewI.mk fun b9 hb9 => ?_;apply CallI.use
  focus (exact fun w3 h3 => rfull_any z w3)
  rintro v w3 v3 h3 hB3 ⟨a1, c1, rfl, hS1⟩;have st := st.nx h3 hB3;apply CallI.use
  focus (exact fun w4 h4 => hf2 w4)
  rintro v w4 v4 h4 hB4 ⟨a2, c2, rfl, hS2⟩;have st := st.nx h4 hB4;apply CallI.use
  focus (exact fun w5 h5 => hcom a1 a2 c1 c2 w5 (hS1.st (st.at h5)) (hS2.st (st.at h5)))
  rintro v w5 v5 h5 hB5 ⟨a3, c3, rfl, hO3⟩;have st := st.nx h5 hB5
 all_goals
  rcases hor with ⟨e1, e2⟩ | ⟨e1, e2, e3, e5, e4⟩
  ·subst e1; subst e2
   refine Branch.yes rfl ?_;exact EndI.mk fun w9 h9 => rfl
  ·subst e1; subst e2
   refine Branch.no rfl ?_;have pO : ∀ (hp : List LB) (r L : List Nat) (w6 : World), At ⟨w, w.heap.size, Nat.le_refl _⟩ hp r L v5 w6 -> (∀ x, x ∈ L -> x = b9) -> Own TB w5.heap.size w6 (.slice a3 C.length c3) C := fun hp r L w6 h6 hL => by
    first
     | exact hO3.below (atB h6 (fun x hx => by rw [hL x hx]; exact hb9))
     | exact hO3.at h6 (fun x hx => by rw [hL x hx]; exact h5.lt b9 (by simp))
   apply CallI.use1
   focus (exact fun w6 h6 => rmay04_any 3 C ⟨by omega, by omega⟩ e5 a3 c3 w6 (pO _ _ _ w6 h6 (by simp)).sl)
   intro w6 v6 h6 hB6;have hO6 := (pO _ _ _ w6 h6 (by simp)).below hB6
   by_cases hk : Dbm.chk 3 C = 0
   ·rw [decide_eq_true hk]
    rw [if_pos hk] at e4;subst e4;refine Branch.no rfl ?_;apply CallI.use1
    focus (exact fun w7 h7 => rshort_any 3 a3 c3 C e3 w7 (hO6.below (atB h7 (by simp))).sl)
    intro w7 v7 h7 hB7;exact EndI.mk fun w9 h9 => rfl
   ·rw [decide_eq_false hk]
    rw [if_neg hk] at e4;subst e4;refine Branch.yes rfl ?_;exact EndI.mk fun w9 h9 => rfl
namespace Zo
open Mi Dbm
theorem mayC_min {x y : Int} (hx : mayC x = true) (hy : mayC y = true) : mayC (min x y) = true := by
 by_cases h : x <= y
 ·rw [Int.min_eq_left h]; exact hx
 ·rw [Int.min_eq_right (by omega)]; exact hy
theorem chk_lessr {n : Int} {L M : List Int} (h1 : Dbm.chk n L = 0) (h2 : Dbm.chk n M = 0) : Dbm.chk n (lessr L M) = 0 := by
 obtain ⟨a1, a2, a3, a4⟩ := chk_iff.1 h1;obtain ⟨b1, b2, b3, b4⟩ := chk_iff.1 h2;refine chk_iff.2 ⟨a1, a2, by rw [lessr_len]; exact a3, ?_⟩;rw [List.any_eq_false] at a4 b4 ⊢;intro z hz;unfold lessr at hz;obtain ⟨q, hq, rfl⟩ := List.mem_map.1 hz;have hq := List.mem_range.1 hq;have e1 := List.getElem?_eq_getElem (l := L) (i := q) hq;have e2 := List.getElem?_eq_getElem (l := M) (i := q) (by omega);have k1 := a4 _ (List.getElem_mem hq);have k2 := b4 _ (List.getElem_mem (by omega : q < M.length));rw [e1, e2];simp only [Option.getD_some, Bool.not_eq_true', Bool.not_eq_true, Bool.not_eq_false] at k1 k2 ⊢;exact mayC_min k1 k2
theorem fits_lessr {N : Nat} {L M : List Int} (h1 : Dbm.chk N L = 0) (h2 : Dbm.chk N M = 0) (t : Nat -> Rat) : Fits N (mx N (lessr L M)) t ↔ Fits N (mx N L) t /\ Fits N (mx N M) t := by
 have l1 := chk_lenK h1;have l2 := chk_lenK h2;have key : ∀ i j, i < N -> j < N -> (satO (t i - t j) (mx N (lessr L M) i j) ↔ satO (t i - t j) (mx N L i j) /\ satO (t i - t j) (mx N M i j)) := fun i j hi hj => by
  have hp := place_lt hi hj;have e : (lessr L M)[i * N + j]?.getD 0 = min (L[i * N + j]?.getD 0) (M[i * N + j]?.getD 0) := by
   unfold lessr;rw [List.getElem?_map, List.getElem?_range (by omega)]; rfl
  unfold mx;rw [e];exact satO_min _ _ _ (lim_lt (chk_limK h1 i j hi hj) (by decide)) (lim_lt (chk_limK h2 i j hi hj) (by decide))
 constructor
 ·exact fun h => ⟨fun i j hi hj => ((key i j hi hj).1 (h i j hi hj)).1, fun i j hi hj => ((key i j hi hj).1 (h i j hi hj)).2⟩
 ·exact fun h i j hi hj => (key i j hi hj).2 ⟨h.1 i j hi hj, h.2 i j hi hj⟩
theorem meet_of {a b : Zn} (ha : chk a = 0) (hb : chk b = 0) : meet a b = of 3 (lessr (matL a) (matL b)) := by
 have h1 := (clo ha).1;have h2 := (clo hb).1;have e : Tg.meet 3 (matL a) 3 (matL b) = Dbm.close 3 (lessr (matL a) (matL b)) := by
  unfold Tg.meet;rw [if_neg (by rintro (h | h); exact h h1; exact h h2), if_neg (by decide)]
 have c3 : Dbm.chk 3 (lessr (matL a) (matL b)) = 0 := chk_lessr h1 h2;unfold meet of;rw [if_pos (checks_two.2 ⟨ha, hb⟩), if_pos c3, if_pos rfl, e]
theorem meet_ok {a b : Zn} (ha : chk a = 0) (hb : chk b = 0) (h : (meet a b).2 = 0) : chk (meet a b).1 = 0 /\ ∀ t, Fz (meet a b).1 t ↔ Fz a t /\ Fz b t := by
 rw [meet_of ha hb] at h ⊢;obtain ⟨h1, h2⟩ := of_ok h;exact ⟨h1, fun t => (h2 t).trans (fits_lessr (N := 3) (clo ha).1 (clo hb).1 t)⟩
theorem meet_none {a b : Zn} (ha : chk a = 0) (hb : chk b = 0) (h : (meet a b).2 = 6) (t : Nat -> Rat) : ¬ (Fz a t /\ Fz b t) := by
 rw [meet_of ha hb] at h;intro hf;exact of_none h t ((fits_lessr (N := 3) (clo ha).1 (clo hb).1 t).2 hf)
end Zo
namespace Zs
open Mi Dbm
def Pts (l : List Zn) (t : Nat -> Rat) : Prop := ∃ z, z ∈ l /\ Fz z t
theorem checked_ok {ls : List (List Zn)} : Cv.checked ls = 0 ↔ ∀ l, l ∈ ls -> l.length <= 4096 /\ ∀ z, z ∈ l -> Zo.chk z = 0 := by
 unfold Cv.checked;constructor
 ·intro h l hl
  split at h
  ·cases h
  ·rename_i h1
   split at h
   ·cases h
   ·rename_i h2
    rw [List.any_eq_true] at h1 h2;refine ⟨?_, fun z hz => ?_⟩
    ·apply Classical.byContradiction; intro hh; exact h1 ⟨l, hl, decide_eq_true (by omega)⟩
    ·apply Classical.byContradiction; intro hh; exact h2 ⟨l, hl, List.any_eq_true.2 ⟨z, hz, by simpa [Cv.odd] using hh⟩⟩
 ·intro h
  rw [if_neg, if_neg]
  ·rw [List.any_eq_true]
   rintro ⟨l, hl, k⟩;obtain ⟨z, hz, k⟩ := List.any_eq_true.1 k;have := (h l hl).2 z hz;simp [Cv.odd, this] at k
  ·rw [List.any_eq_true]
   rintro ⟨l, hl, k⟩;have := (h l hl).1;simp at k; omega
theorem pts_prune {l : List Zn} (h : (Cv.prune l).2 = 0) (t : Nat -> Rat) : Pts (Cv.prune l).1 t ↔ Pts l t := ((Cv.prune_ok h).pts t).symm
theorem come_ok (f : Zn -> Zn × Int) : ∀ (l out : List Zn), (come f out l).2 = 0 ->
 (∃ m, (Cv.prune m).2 = 0 /\ come f out l = Cv.prune m) /\ (∀ x, x ∈ l -> (f x).2 = 0 \/ (f x).2 = 6) /\ ∀ t, Pts (come f out l).1 t ↔ Pts out t \/ ∃ x, x ∈ l /\ (f x).2 = 0 /\ Fz (f x).1 t
 | [], out, h => by
   change (Cv.prune out).2 = 0 at h;refine ⟨⟨out, h, rfl⟩, (fun x hx => (nomatch hx)), fun t => ?_⟩;show Pts (Cv.prune out).1 t ↔ _;rw [pts_prune h t];exact ⟨.inl, fun k => k.elim id fun ⟨x, hx, _⟩ => (nomatch hx)⟩
 | x :: l, out, h => by
   rw [come_cons] at h ⊢
   by_cases h0 : (f x).2 = 0
   ·rw [if_pos h0] at h ⊢
    obtain ⟨k1, k2, k3⟩ := come_ok f l _ h;refine ⟨k1, fun y hy => (List.mem_cons.1 hy).elim (fun e => e ▸ .inl h0) (k2 y), fun t => (k3 t).trans ?_⟩;constructor
    ·rintro (⟨z, hz, hf⟩ | ⟨y, hy, hf⟩)
     ·rcases List.mem_append.1 hz with hz | hz
      ·exact .inl ⟨z, hz, hf⟩
      ·rw [List.mem_singleton.1 hz] at hf; exact .inr ⟨x, by simp, h0, hf⟩
     ·exact .inr ⟨y, List.mem_cons_of_mem _ hy, hf⟩
    ·rintro (⟨z, hz, hf⟩ | ⟨y, hy, h1, hf⟩)
     ·exact .inl ⟨z, List.mem_append_left _ hz, hf⟩
     ·rcases List.mem_cons.1 hy with rfl | hy
      ·exact .inl ⟨_, List.mem_append_right _ (by simp), hf⟩
      ·exact .inr ⟨y, hy, h1, hf⟩
   ·rw [if_neg h0] at h ⊢
    by_cases h6 : (f x).2 = 6
    ·rw [if_pos h6] at h ⊢
     obtain ⟨k1, k2, k3⟩ := come_ok f l _ h;refine ⟨k1, fun y hy => (List.mem_cons.1 hy).elim (fun e => e ▸ .inr h6) (k2 y), fun t => (k3 t).trans ?_⟩;constructor
     ·rintro (hf | ⟨y, hy, hf⟩)
      ·exact .inl hf
      ·exact .inr ⟨y, List.mem_cons_of_mem _ hy, hf⟩
     ·rintro (hf | ⟨y, hy, h1, hf⟩)
      ·exact .inl hf
      ·rcases List.mem_cons.1 hy with rfl | hy
       ·exact absurd h1 h0
       ·exact .inr ⟨y, hy, h1, hf⟩
    ·rw [if_neg h6] at h
     exact absurd h h0
theorem pairGo_ok (f : Zn -> Zn -> Zn × Int) (b : List Zn) : ∀ (a out : List Zn), (pairGo f b out a).2 = 0 ->
 ((a = [] /\ (pairGo f b out a).1 = out) \/ ∃ m, (Cv.prune m).2 = 0 /\ (pairGo f b out a).1 = (Cv.prune m).1) /\ (∀ x y, x ∈ a -> y ∈ b -> (f x y).2 = 0 \/ (f x y).2 = 6) /\ ∀ t, Pts (pairGo f b out a).1 t ↔ Pts out t \/ ∃ x y, x ∈ a /\ y ∈ b /\ (f x y).2 = 0 /\ Fz (f x y).1 t
 | [], out, h => ⟨.inl ⟨rfl, rfl⟩, (fun x y hx => (nomatch hx)), fun t => ⟨.inl, fun k => k.elim id fun ⟨x, y, hx, _⟩ => (nomatch hx)⟩⟩
 | x :: a, out, h => by
   rw [pairGo_cons] at h ⊢
   by_cases h0 : (come (f x) out b).2 = 0
   ·rw [if_pos h0] at h ⊢
    obtain ⟨⟨m, hm1, hm2⟩, c2, c3⟩ := come_ok (f x) b out h0;obtain ⟨k1, k2, k3⟩ := pairGo_ok f b a _ h;refine ⟨.inr ?_, fun y z hy hz => (List.mem_cons.1 hy).elim (fun e => e ▸ c2 z hz) fun hy => k2 y z hy hz, fun t => (k3 t).trans ?_⟩
    ·rcases k1 with ⟨_, e⟩ | k
     ·exact ⟨m, hm1, by rw [e, hm2]⟩
     ·exact k
    ·rw [c3 t]
     constructor
     ·rintro ((hf | ⟨y, hy, h1, hf⟩) | ⟨z, y, hz, hy, h1, hf⟩)
      ·exact .inl hf
      ·exact .inr ⟨x, y, by simp, hy, h1, hf⟩
      ·exact .inr ⟨z, y, List.mem_cons_of_mem _ hz, hy, h1, hf⟩
     ·rintro (hf | ⟨z, y, hz, hy, h1, hf⟩)
      ·exact .inl (.inl hf)
      ·rcases List.mem_cons.1 hz with rfl | hz
       ·exact .inl (.inr ⟨y, hy, h1, hf⟩)
       ·exact .inr ⟨z, y, hz, hy, h1, hf⟩
   ·rw [if_neg h0] at h
    exact absurd h h0
def Fine (m : List Zn) : Prop := m.length <= 4096 /\ (∀ z, z ∈ m -> Zo.chk z = 0) /\ ((Cv.prune m).2 = 0 -> (Cv.prune m).1 = m)
theorem fine_nil : Fine [] := ⟨by simp, fun z hz => (nomatch hz), fun h => List.eq_nil_iff_forall_not_mem.2 fun x hx => nomatch (Cv.prune_ok h).mem x hx⟩
theorem fine_prune {l : List Zn} (h : (Cv.prune l).2 = 0) : Fine (Cv.prune l).1 := by
 have hw := Cv.prune_ok h;exact ⟨Nat.le_trans hw.mlen hw.len, fun z hz => hw.chk z (hw.mem z hz), fun h2 => hw.again h2⟩
theorem paired_ok {f : Zn -> Zn -> Zn × Int} {a b : List Zn} (h : (paired f a b).2 = 0) : Cv.checked [a, b] = 0 /\ Fine (paired f a b).1 /\ (∀ x y, x ∈ a -> y ∈ b -> (f x y).2 = 0 \/ (f x y).2 = 6) /\ ∀ t, Pts (paired f a b).1 t ↔ ∃ x y, x ∈ a /\ y ∈ b /\ (f x y).2 = 0 /\ Fz (f x y).1 t := by
 unfold paired at h ⊢
 by_cases h0 : Cv.checked [a, b] = 0
 ·rw [if_pos h0] at h ⊢
  obtain ⟨k1, k2, k3⟩ := pairGo_ok f b a [] h;refine ⟨h0, ?_, k2, fun t => (k3 t).trans ⟨fun k => k.elim (fun ⟨z, hz, _⟩ => (nomatch hz)) id, .inr⟩⟩;rcases k1 with ⟨_, e⟩ | ⟨m, hm, e⟩
  ·rw [e]; exact fine_nil
  ·rw [e]; exact fine_prune hm
 ·rw [if_neg h0] at h
  exact absurd h h0
theorem or_ok {a b : List Zn} (h : (or a b).2 = 0) : Cv.checked [a, b] = 0 /\ Fine (or a b).1 /\ ∀ t, Pts (or a b).1 t ↔ Pts a t \/ Pts b t := by
 unfold or at h ⊢
 by_cases h0 : Cv.checked [a, b] = 0
 ·rw [if_pos h0] at h ⊢
  refine ⟨h0, fine_prune h, fun t => (pts_prune h t).trans ?_⟩;constructor
  ·rintro ⟨z, hz, hf⟩
   exact (List.mem_append.1 hz).elim (fun hz => .inl ⟨z, hz, hf⟩) fun hz => .inr ⟨z, hz, hf⟩
  ·rintro (⟨z, hz, hf⟩ | ⟨z, hz, hf⟩)
   ·exact ⟨z, List.mem_append_left _ hz, hf⟩
   ·exact ⟨z, List.mem_append_right _ hz, hf⟩
 ·rw [if_neg h0] at h
  exact absurd h h0
theorem checked2 {a b : List Zn} (h : Cv.checked [a, b] = 0) : (∀ z, z ∈ a -> Zo.chk z = 0) /\ ∀ z, z ∈ b -> Zo.chk z = 0 := ⟨(checked_ok.1 h a (by simp)).2, (checked_ok.1 h b (by simp)).2⟩
theorem and_ok {a b : List Zn} (h : (and a b).2 = 0) : Cv.checked [a, b] = 0 /\ Fine (and a b).1 /\ ∀ t, Pts (and a b).1 t ↔ Pts a t /\ Pts b t := by
 obtain ⟨h0, h1, h2, h3⟩ := paired_ok h;obtain ⟨ca, cb⟩ := checked2 h0;refine ⟨h0, h1, fun t => (h3 t).trans ?_⟩;constructor
 ·rintro ⟨x, y, hx, hy, he, hf⟩
  have := ((Zo.meet_ok (ca x hx) (cb y hy) he).2 t).1 hf;exact ⟨⟨x, hx, this.1⟩, y, hy, this.2⟩
 ·rintro ⟨⟨x, hx, h1⟩, y, hy, hf⟩
  rcases h2 x y hx hy with he | he
  ·exact ⟨x, y, hx, hy, he, ((Zo.meet_ok (ca x hx) (cb y hy) he).2 t).2 ⟨h1, hf⟩⟩
  ·exact absurd ⟨h1, hf⟩ (Zo.meet_none (ca x hx) (cb y hy) he t)
theorem free_chk : Zo.chk free = 0 := by decide +kernel
end Zs
namespace Zo
open Dbm
end Zo
namespace Dbm
theorem top_of : ∀ (l : List (Rat × Bool)), l ≠ [] -> ∃ a, a ∈ l /\ ∀ b, b ∈ l -> b.1 < a.1 \/ (b.1 = a.1 /\ (b.2 = true -> a.2 = true))
 | [], h => absurd rfl h
 | [x], _ => ⟨x, by simp, fun b hb => by rw [List.mem_singleton.1 hb]; exact .inr ⟨rfl, id⟩⟩
 | x :: y :: l, _ => by
   obtain ⟨a, ha, hm⟩ := top_of (y :: l) (by simp)
   by_cases h : a.1 < x.1 \/ (a.1 = x.1 /\ (a.2 = true -> x.2 = true))
   ·refine ⟨x, by simp, fun b hb => ?_⟩
    rcases List.mem_cons.1 hb with rfl | hb
    ·exact .inr ⟨rfl, id⟩
    ·rcases hm b hb with h1 | ⟨h1, h2⟩
     ·rcases h with h3 | ⟨h3, h4⟩
      ·exact .inl (by grind)
      ·exact .inl (by grind)
     ·rcases h with h3 | ⟨h3, h4⟩
      ·exact .inl (by grind)
      ·exact .inr ⟨h1.trans h3, fun k => h4 (h2 k)⟩
   ·refine ⟨a, List.mem_cons_of_mem _ ha, fun b hb => ?_⟩
    rcases List.mem_cons.1 hb with rfl | hb
    ·by_cases h1 : b.1 < a.1
     ·exact .inl h1
     ·have h2 : a.1 = b.1 := by
       apply Classical.byContradiction; intro hne;exact h (.inl (by grind))
      refine .inr ⟨h2.symm, fun k => ?_⟩;apply Classical.byContradiction; intro hn;exact h (.inr ⟨h2, fun _ => k⟩)
    ·exact hm b hb
def LoQ (a : Rat × Bool) (s : Rat) : Prop := if a.2 = true then a.1 < s else a.1 <= s
def HiQ (a : Rat × Bool) (s : Rat) : Prop := if a.2 = true then s < a.1 else s <= a.1
theorem LoQ.mono {a b : Rat × Bool} {s : Rat} (h : LoQ a s) (hb : b.1 < a.1 \/ (b.1 = a.1 /\ (b.2 = true -> a.2 = true))) : LoQ b s := by
 unfold LoQ at *;split <;> split at h <;> rcases hb with hb | ⟨hb, hc⟩ <;> first | grind | (rename_i k1 k2; exact absurd (hc k1) k2)
theorem HiQ.mono {a b : Rat × Bool} {s : Rat} (h : HiQ a s) (hb : a.1 < b.1 \/ (b.1 = a.1 /\ (b.2 = true -> a.2 = true))) : HiQ b s := by
 unfold HiQ at *;split <;> split at h <;> rcases hb with hb | ⟨hb, hc⟩ <;> first | grind | (rename_i k1 k2; exact absurd (hc k1) k2)
theorem bot_of (l : List (Rat × Bool)) (hl : l ≠ []) : ∃ a, a ∈ l /\ ∀ b, b ∈ l -> a.1 < b.1 \/ (b.1 = a.1 /\ (b.2 = true -> a.2 = true)) := by
 obtain ⟨a, ha, hm⟩ := top_of (l.map fun x => (-x.1, x.2)) (by simpa using hl);obtain ⟨x, hx, rfl⟩ := List.mem_map.1 ha;refine ⟨x, hx, fun b hb => ?_⟩;rcases hm (-b.1, b.2) (List.mem_map.2 ⟨b, hb, rfl⟩) with h | ⟨h, k⟩
 ·exact .inl (by simp only at h; grind)
 ·exact .inr ⟨by simp only at h; grind, k⟩
theorem room (lo hi : List (Rat × Bool)) (h : ∀ a, a ∈ lo -> ∀ b, b ∈ hi -> if (a.2 || b.2) = true then a.1 < b.1 else a.1 <= b.1) : ∃ s, (∀ a, a ∈ lo -> LoQ a s) /\ ∀ b, b ∈ hi -> HiQ b s := by
 by_cases hl : lo = []
 ·subst hl
  by_cases hh : hi = []
  ·subst hh; exact ⟨0, fun a ha => (nomatch ha), fun b hb => (nomatch hb)⟩
  ·obtain ⟨b, hb, hm⟩ := bot_of hi hh
   exact ⟨b.1 - 1, fun a ha => (nomatch ha), fun c hc => HiQ.mono (a := b) (by unfold HiQ; split <;> grind) (hm c hc)⟩
 ·obtain ⟨a, ha, hm⟩ := top_of lo hl
  by_cases hh : hi = []
  ·subst hh
   exact ⟨a.1 + 1, fun c hc => LoQ.mono (a := a) (by unfold LoQ; split <;> grind) (hm c hc), fun b hb => (nomatch hb)⟩
  ·obtain ⟨b, hb, hn⟩ := bot_of hi hh
   have hab := h a ha b hb;obtain ⟨s, h1, h2⟩ : ∃ s, LoQ a s /\ HiQ b s := by
    by_cases hlt : a.1 < b.1
    ·refine ⟨(a.1 + b.1) / 2, ?_, ?_⟩
     ·unfold LoQ; split <;> grind
     ·unfold HiQ; split <;> grind
    ·have hn2 : ¬ (a.2 || b.2) = true := fun k => by rw [if_pos k] at hab; exact hlt hab
     rw [if_neg hn2] at hab;have ha2 : ¬ a.2 = true := fun k => hn2 (by rw [k]; rfl);have hb2 : ¬ b.2 = true := fun k => hn2 (by rw [k]; simp);refine ⟨a.1, ?_, ?_⟩
     ·unfold LoQ; rw [if_neg ha2]; exact Rat.le_refl
     ·unfold HiQ; rw [if_neg hb2]; exact hab
   exact ⟨s, fun c hc => h1.mono (hm c hc), fun c hc => h2.mono (hn c hc)⟩
end Dbm
end
end Go.Proofs.YtanhnllkccldhaaGreat
namespace Go.Proofs.YtanhnllkccldhaaGreat.Proj
set_option linter.unusedVariables false
open Go.Proofs.YtanhnllkccldhaaGreat.Dbm
theorem sk_lt {N k j : Nat} (hj : j < N - 1) : sk k j < N := by unfold sk; split <;> omega
theorem dropL_len (N k : Nat) (C : List Int) : (dropL N k C).length = (N - 1) * (N - 1) := by simp [dropL]
theorem dropL_get {N k : Nat} (C : List Int) {i j : Nat} (hi : i < N - 1) (hj : j < N - 1) : (dropL N k C)[i * (N - 1) + j]?.getD 0 = C[sk k i * N + sk k j]?.getD 0 := by
 unfold dropL;rw [List.getElem?_map, List.getElem?_range (place_lt hi hj)];simp only [Option.map_some, Option.getD_some];unfold dropAt;rw [place_div hj, place_mod hj]
theorem clo_drop {N k : Nat} {C : List Int} (h : Clo N C) : Clo (N - 1) (dropL N k C) := by
 have hm : ∀ i j, i < N - 1 -> j < N - 1 -> mx (N - 1) (dropL N k C) i j = mx N C (sk k i) (sk k j) := fun i j hi hj => by
  unfold mx; rw [dropL_get C hi hj]
 refine ⟨dropL_len _ _ _, fun i hi => ?_, fun i j a hi hj ha => ?_, fun i j hi hj => ?_⟩
 ·rw [dropL_get C hi hi]; exact h.diag _ (sk_lt hi)
 ·rw [hm i j hi hj, hm i a hi ha, hm a j ha hj]
  exact h.tri _ _ _ (sk_lt hi) (sk_lt hj) (sk_lt ha)
 ·rw [dropL_get C hi hj]; exact h.lim _ _ (sk_lt hi) (sk_lt hj)
theorem ext_get {A B : List Int} {n : Nat} (ha : A.length = n) (hb : B.length = n) (h : ∀ q, q < n -> A[q]?.getD 0 = B[q]?.getD 0) : A = B := by
 apply List.ext_getElem?;intro q;rcases Nat.lt_or_ge q n with hq | hq
 ·have := h q hq
  rw [List.getElem?_eq_getElem (by omega), List.getElem?_eq_getElem (by omega)] at this ⊢;exact congrArg some this
 ·rw [List.getElem?_eq_none (by omega), List.getElem?_eq_none (by omega)]
theorem sk_sk {j k i : Nat} (hjk : j < k) : sk j (sk (k - 1) i) = sk k (sk j i) := by
 unfold sk
 by_cases h1 : i < k - 1 <;> by_cases h2 : i < j <;> simp only [h1, h2, if_true, if_false] <;> (repeat' split) <;> omega
theorem dropL_dropL {N j k : Nat} (C : List Int) (hjk : j < k) : dropL (N - 1) (k - 1) (dropL N j C) = dropL (N - 1) j (dropL N k C) := by
 refine ext_get (dropL_len _ _ _) (dropL_len _ _ _) fun q hq => ?_;have h1 := div_lt hq;have h2 := mod_lt hq;rw [<- div_mod (p := q) (N := N - 1 - 1)];rw [dropL_get _ h1 h2, dropL_get _ h1 h2, dropL_get _ (sk_lt h1) (sk_lt h2), dropL_get _ (sk_lt h1) (sk_lt h2), sk_sk hjk, sk_sk hjk]
theorem drop_ok {n : Int} {L : List Int} {k : Int} (h : (drop n L k).2.2 = 0) : chk n L = 0 /\ 1 <= k /\ k < n /\ ∃ C, closeL n.toNat L = some C /\ drop n L k = (n - 1, dropL n.toNat k.toNat C, 0) := by
 unfold drop at h ⊢;split at h
 ·rename_i h0
  split at h
  ·cases h
  ·rename_i h1
   split at h
   ·rename_i C hC
    refine ⟨h0, by omega, by omega, C, hC, ?_⟩;rw [if_pos h0, if_neg h1]
   ·cases h
 ·cases h
theorem drop_closed {N K : Nat} {A : List Int} (h0 : chk N A = 0) (hA : Clo N A) (h1 : 1 <= K) (h2 : K < N) : drop N A K = ((N : Int) - 1, dropL N K A, 0) := by
 unfold drop;rw [if_pos h0, if_neg (by omega), Int.toNat_natCast, Int.toNat_natCast, hA.close]
theorem two {n : Int} {L : List Int} {j k : Int} (hjk : j < k) (ha : (drop n L j).2.2 = 0) (hb : (drop n L k).2.2 = 0) (ca : chk (drop n L j).1 (drop n L j).2.1 = 0) (cb : chk (drop n L k).1 (drop n L k).2.1 = 0) :
 drop (drop n L j).1 (drop n L j).2.1 (k - 1) = drop (drop n L k).1 (drop n L k).2.1 j := by
 obtain ⟨h0, j1, j2, C, hC, ea⟩ := drop_ok ha;obtain ⟨_, k1, k2, C', hC', eb⟩ := drop_ok hb;rw [hC] at hC'; injection hC' with hC'; subst hC';obtain ⟨N, rfl⟩ : ∃ N : Nat, n = N := ⟨n.toNat, by omega⟩;obtain ⟨J, rfl⟩ : ∃ J : Nat, j = J := ⟨j.toNat, by omega⟩;obtain ⟨K, rfl⟩ : ∃ K : Nat, k = K := ⟨k.toNat, by omega⟩;rw [Int.toNat_natCast] at hC;have hclo := close_clo h0 hC;rw [ea] at ca ⊢;rw [eb] at cb ⊢;simp only [Int.toNat_natCast] at ca cb ⊢;have en : (N : Int) - 1 = ((N - 1 : Nat) : Int) := by omega
 have ek : (K : Int) - 1 = ((K - 1 : Nat) : Int) := by omega
 rw [en] at ca cb ⊢;rw [ek, drop_closed ca (clo_drop hclo) (by omega) (by omega), drop_closed cb (clo_drop hclo) (by omega) (by omega), dropL_dropL C (by omega)]
end Go.Proofs.YtanhnllkccldhaaGreat.Proj
namespace Go.Proofs.YtanhnllkccldhaaGreat
set_option linter.unusedVariables false
set_option linter.unusedSimpArgs false
set_option maxRecDepth 100000
section
open Go.RowKit Go.Proofs.YtanhnllkccldhaaGreat.Eng Enc
namespace Dbm
theorem satO_lo {x y : Rat} {v : Int} : satO (x - y) (some v) ↔ LoQ (x - ((v / 2 : Int) : Rat), Bd.st v) y := by
 unfold satO LoQ;simp only;split <;> constructor <;> intro h <;> grind
theorem satO_hi {x y : Rat} {v : Int} : satO (y - x) (some v) ↔ HiQ (x + ((v / 2 : Int) : Rat), Bd.st v) y := by
 unfold satO HiQ;simp only;split <;> constructor <;> intro h <;> grind
theorem extend {N k : Nat} {C : List Int} (hc : Clo N C) (hk : k < N) {u : Nat -> Rat} (h : ∀ i j, i < N -> j < N -> i ≠ k -> j ≠ k -> satO (u i - u j) (mx N C i j)) :
 ∃ s, Fits N (mx N C) (fun i => if i = k then s else u i) := by
 obtain ⟨s, h1, h2⟩ := room ((List.range N).filterMap fun i => if i = k then none else (mx N C i k).map fun v => (u i - ((v / 2 : Int) : Rat), Bd.st v))
  ((List.range N).filterMap fun i => if i = k then none else (mx N C k i).map fun v => (u i + ((v / 2 : Int) : Rat), Bd.st v)) (by
  intro a ha b hb;obtain ⟨i, hi, ea⟩ := List.mem_filterMap.1 ha;obtain ⟨j, hj, eb⟩ := List.mem_filterMap.1 hb;have hi := List.mem_range.1 hi;have hj := List.mem_range.1 hj
  by_cases ci : i = k
  ·rw [if_pos ci] at ea; cases ea
  by_cases cj : j = k
  ·rw [if_pos cj] at eb; cases eb
  rw [if_neg ci] at ea;rw [if_neg cj] at eb;have ht := satO_mono (hc.tri i j k hi hj hk) (h i j hi hj ci cj);cases hv : mx N C i k with
  | none => rw [hv] at ea; cases ea
  | some v =>
    cases hw : mx N C k j with
    | none => rw [hw] at eb; cases eb
    | some w =>
      rw [hv] at ea ht;rw [hw] at eb ht;injection ea with ea;injection eb with eb;subst ea eb;simp only [oadd, satO] at ht;rw [bsum_half, Rat.intCast_add] at ht;simp only
      by_cases hs : Bd.st (bsum v w) = true
      ·rw [if_pos hs] at ht
       rw [if_pos (by have := (Incl.st_bsum v w).1 hs; rw [Bool.or_eq_true]; exact this)]
       grind
      ·rw [if_neg hs] at ht
       rw [if_neg (by rw [Bool.or_eq_true]; exact fun k => hs ((Incl.st_bsum v w).2 k))]
       grind)
 refine ⟨s, fun i j hi hj => ?_⟩;simp only
 by_cases ci : i = k
 ·by_cases cj : j = k
  ·rw [if_pos ci, if_pos cj, Rat.sub_self]
   have : mx N C i j = some 1 := by rw [ci, cj]; unfold mx; rw [hc.diag k hk]; rfl
   rw [this]; exact satO_zero.2 (by omega)
  ·rw [if_pos ci, if_neg cj]
   subst ci;cases hv : mx N C i j with
   | none => trivial
   | some v => exact satO_hi.2 (h2 _ (List.mem_filterMap.2 ⟨j, List.mem_range.2 hj, by rw [if_neg cj, hv]; rfl⟩))
 ·by_cases cj : j = k
  ·rw [if_neg ci, if_pos cj]
   subst cj;cases hv : mx N C i j with
   | none => trivial
   | some v => exact satO_lo.2 (h1 _ (List.mem_filterMap.2 ⟨i, List.mem_range.2 hi, by rw [if_neg ci, hv]; rfl⟩))
  ·rw [if_neg ci, if_neg cj]; exact h i j hi hj ci cj
end Dbm
namespace Cmp
open Dbm Mi
def cl (c0 c1 c2 i : Nat) : Nat := if i = 0 then c0 else if i = 1 then c1 else c2
theorem pl_eq (c0 c1 c2 k : Nat) : pl c0 c1 c2 k = cl c0 c1 c2 (k / 3) * 4 + cl c0 c1 c2 (k % 3) := by unfold pl cl; omega
theorem cl_lt {c0 c1 c2 : Nat} (h0 : c0 < 4) (h1 : c1 < 4) (h2 : c2 < 4) (i : Nat) : cl c0 c1 c2 i < 4 := by unfold cl; split <;> (try split) <;> assumption
theorem put_all {c0 c1 c2 : Nat} (p : Int -> Prop) (hm : ∀ x y, p x -> p y -> p (min x y)) {M L : List Int} (hM : ∀ q, q < M.length -> p (M[q]?.getD 0)) (hL : ∀ q, q < L.length -> p (L[q]?.getD 0)) (hc : ∀ k, pl c0 c1 c2 k < L.length) :
 ∀ k, k <= M.length -> ∀ q, q < L.length -> p ((put c0 c1 c2 M L k)[q]?.getD 0)
 | 0, _, q, hq => hL q hq
 | k + 1, hk, q, hq => by
   have ih := put_all p hm hM hL hc k (by omega);show p (((put c0 c1 c2 M L k).set (pl c0 c1 c2 k) _)[q]?.getD 0);rw [List.getElem?_set]
   by_cases e : pl c0 c1 c2 k = q
   ·rw [if_pos e, if_pos (by rw [put_len]; exact e ▸ hc k)]
    exact hm _ _ (ih _ (hc k)) (hM k (by omega))
   ·rw [if_neg e]; exact ih q hq
theorem put_fits {c0 c1 c2 : Nat} (h0 : c0 < 4) (h1 : c1 < 4) (h2 : c2 < 4) {M L : List Int} (hl : L.length = 16) (hM : ∀ q, q < M.length -> M[q]?.getD 0 = NO \/ M[q]?.getD 0 < NO) (hL : ∀ q, q < L.length -> L[q]?.getD 0 = NO \/ L[q]?.getD 0 < NO) (T : Nat -> Rat) :
 ∀ k, k <= M.length -> (Fits 4 (mx 4 (put c0 c1 c2 M L k)) T ↔ Fits 4 (mx 4 L) T /\ ∀ q, q < k -> satO (T (cl c0 c1 c2 (q / 3)) - T (cl c0 c1 c2 (q % 3))) (ob (M[q]?.getD 0)))
 | 0, _ => ⟨fun h => ⟨h, fun q hq => absurd hq (by omega)⟩, fun h => h.1⟩
 | k + 1, hk => by
   have ih := put_fits h0 h1 h2 hl hM hL T k (by omega);have hc : ∀ k, pl c0 c1 c2 k < L.length := fun k => by
    rw [pl_eq, hl];have := cl_lt h0 h1 h2 (k / 3);have := cl_lt h0 h1 h2 (k % 3);omega
   have hno := put_all (c0 := c0) (c1 := c1) (c2 := c2) (fun x => x = NO \/ x < NO) (fun x y (hx : x = NO \/ x < NO) (hy : y = NO \/ y < NO) => (by omega : min x y = NO \/ min x y < NO)) hM hL hc k (by omega);have a1 := cl_lt h0 h1 h2 (k / 3);have a2 := cl_lt h0 h1 h2 (k % 3);have hmin := satO_min (T (cl c0 c1 c2 (k / 3)) - T (cl c0 c1 c2 (k % 3))) _ _ (hno _ (hc k)) (hM k (by omega));have hg : ∀ i j, i < 4 -> j < 4 -> (put c0 c1 c2 M L (k + 1))[i * 4 + j]?.getD 0 = if i = cl c0 c1 c2 (k / 3) /\ j = cl c0 c1 c2 (k % 3) then min ((put c0 c1 c2 M L k)[pl c0 c1 c2 k]?.getD 0) (M[k]?.getD 0) else (put c0 c1 c2 M L k)[i * 4 + j]?.getD 0 := fun i j hi hj => by
    show (((put c0 c1 c2 M L k).set (pl c0 c1 c2 k) _)[i * 4 + j]?.getD 0) = _;rw [List.getElem?_set]
    by_cases e : i = cl c0 c1 c2 (k / 3) /\ j = cl c0 c1 c2 (k % 3)
    ·rw [if_pos e, if_pos (by rw [pl_eq, e.1, e.2]), if_pos (by rw [put_len]; exact hc k)]; rfl
    ·rw [if_neg e, if_neg (by rw [pl_eq]; omega)]
   constructor
   ·intro h
    have h1' := h _ _ a1 a2;unfold mx at h1';rw [hg _ _ a1 a2, if_pos ⟨rfl, rfl⟩] at h1';have hb := hmin.1 h1';have hf : Fits 4 (mx 4 (put c0 c1 c2 M L k)) T := fun i j hi hj => by
     have h3 := h i j hi hj;unfold mx at h3 ⊢;rw [hg i j hi hj] at h3
     by_cases e : i = cl c0 c1 c2 (k / 3) /\ j = cl c0 c1 c2 (k % 3)
     ·obtain ⟨rfl, rfl⟩ := e
      rw [<- pl_eq]; exact hb.1
     ·rw [if_neg e] at h3; exact h3
    refine ⟨(ih.1 hf).1, fun q hq => ?_⟩
    by_cases e : q = k
    ·subst e; exact hb.2
    ·exact (ih.1 hf).2 q (by omega)
   ·rintro ⟨h, hq⟩ i j hi hj
    have hf := ih.2 ⟨h, fun q hq' => hq q (by omega)⟩;unfold mx;rw [hg i j hi hj]
    by_cases e : i = cl c0 c1 c2 (k / 3) /\ j = cl c0 c1 c2 (k % 3)
    ·rw [if_pos e]
     obtain ⟨rfl, rfl⟩ := e;refine hmin.2 ⟨?_, hq k (by omega)⟩;have := hf _ _ hi hj;unfold mx at this
     rwa [<- pl_eq] at this
    ·rw [if_neg e]; exact hf i j hi hj
def t3 (x y z : Rat) (i : Nat) : Rat := if i = 0 then x else if i = 1 then y else z
theorem fits3 {M : List Int} (c0 c1 c2 : Nat) (T : Nat -> Rat) : (∀ q, q < 9 -> satO (T (cl c0 c1 c2 (q / 3)) - T (cl c0 c1 c2 (q % 3))) (ob (M[q]?.getD 0))) ↔ Fits 3 (mx 3 M) (t3 (T c0) (T c1) (T c2)) := by
 have e : ∀ i, T (cl c0 c1 c2 i) = t3 (T c0) (T c1) (T c2) i := fun i => by unfold cl t3; split <;> (try split) <;> rfl
 constructor
 ·intro h i j hi hj
  have := h (i * 3 + j) (by omega);rw [show (i * 3 + j) / 3 = i by omega, show (i * 3 + j) % 3 = j by omega, e, e] at this;exact this
 ·intro h q hq
  have := h (q / 3) (q % 3) (by omega) (by omega);unfold mx at this;rw [show q / 3 * 3 + q % 3 = q by omega] at this;rw [e, e]; exact this
theorem top_get : ∀ i, i < 4 -> ∀ j, j < 4 -> mx 4 (topL 4) i j = if i = j then some 1 else none := by decide
theorem top_fits (T : Nat -> Rat) : Fits 4 (mx 4 (topL 4)) T := fun i j hi hj => by
 rw [top_get i hi j hj]
 by_cases e : i = j
 ·rw [if_pos e, e, Rat.sub_self]; exact satO_zero.2 (by omega)
 ·rw [if_neg e]; trivial
theorem top_may : ∀ q, q < (topL 4).length -> mayC ((topL 4)[q]?.getD 0) = true := by decide
theorem top_no : ∀ q, q < (topL 4).length -> (topL 4)[q]?.getD 0 = NO \/ (topL 4)[q]?.getD 0 < NO := by decide
theorem z_may {z : Zn} (hz : Dbm.chk 3 (Zo.matL z) = 0) : ∀ q, q < (Zo.matL z).length -> mayC ((Zo.matL z)[q]?.getD 0) = true := fun q hq => by
 obtain ⟨a1, a2, a3, a4⟩ := chk_iff.1 hz;rw [List.any_eq_false] at a4;have e1 := List.getElem?_eq_getElem hq;have k1 := a4 _ (List.getElem_mem hq);rw [e1]
 simpa using k1
theorem z_no {z : Zn} (hz : Dbm.chk 3 (Zo.matL z) = 0) : ∀ q, q < (Zo.matL z).length -> (Zo.matL z)[q]?.getD 0 = NO \/ (Zo.matL z)[q]?.getD 0 < NO := fun q hq => lim_lt (chk_lim hz q hq) (by decide)
theorem mat_chk {a b : Zn} (ha : Zo.chk a = 0) (hb : Zo.chk b = 0) : Dbm.chk 4 (mat a b) = 0 := by
 have ca := (Zo.clo ha).1;have cb := (Zo.clo hb).1;have h1 := put_all (c0 := 0) (c1 := 1) (c2 := 2) (fun x => mayC x = true) (fun x y => Zo.mayC_min) (z_may ca) top_may (fun k => by rw [pl_eq]; have := cl_lt (c0 := 0) (c1 := 1) (c2 := 2) (by omega) (by omega) (by omega) (k / 3); have := cl_lt (c0 := 0) (c1 := 1) (c2 := 2) (by omega) (by omega) (by omega) (k % 3); show _ < 16; omega) 9 (Nat.le_refl _);have l1 : (put 0 1 2 (Zo.matL a) (topL 4) 9).length = 16 := by rw [put_len]; rfl
 have h2 := put_all (c0 := 0) (c1 := 2) (c2 := 3) (L := put 0 1 2 (Zo.matL a) (topL 4) 9) (fun x => mayC x = true) (fun x y => Zo.mayC_min) (z_may cb) (fun q hq => h1 q (by rw [l1] at hq; exact hq)) (fun k => by rw [pl_eq, l1]; have := cl_lt (c0 := 0) (c1 := 2) (c2 := 3) (by omega) (by omega) (by omega) (k / 3); have := cl_lt (c0 := 0) (c1 := 2) (c2 := 3) (by omega) (by omega) (by omega) (k % 3); omega) 9 (Nat.le_refl _);refine chk_iff.2 ⟨by decide, by decide, by rw [mat_len]; rfl, ?_⟩;rw [List.any_eq_false];intro x hx;obtain ⟨q, hq, rfl⟩ := List.getElem_of_mem hx;have hq' : q < (put 0 1 2 (Zo.matL a) (topL 4) 9).length := by rw [l1]; rw [mat_len] at hq; exact hq
 have := h2 q hq';change mayC ((mat a b)[q]?.getD 0) = true at this;rw [List.getElem?_eq_getElem hq] at this;simp only [Option.getD_some] at this;simp [this]
theorem mat_fits {a b : Zn} (ha : Zo.chk a = 0) (hb : Zo.chk b = 0) (T : Nat -> Rat) : Fits 4 (mx 4 (mat a b)) T ↔ Fz a (t3 (T 0) (T 1) (T 2)) /\ Fz b (t3 (T 0) (T 2) (T 3)) := by
 have ca := (Zo.clo ha).1;have cb := (Zo.clo hb).1;have l1 : (put 0 1 2 (Zo.matL a) (topL 4) 9).length = 16 := by rw [put_len]; rfl
 have hno := put_all (c0 := 0) (c1 := 1) (c2 := 2) (fun x => x = NO \/ x < NO) (fun x y (hx : x = NO \/ x < NO) (hy : y = NO \/ y < NO) => (by omega : min x y = NO \/ min x y < NO)) (z_no ca) top_no (fun k => by rw [pl_eq]; have := cl_lt (c0 := 0) (c1 := 1) (c2 := 2) (by omega) (by omega) (by omega) (k / 3); have := cl_lt (c0 := 0) (c1 := 1) (c2 := 2) (by omega) (by omega) (by omega) (k % 3); show _ < 16; omega) 9 (Nat.le_refl _);have f2 := put_fits (c0 := 0) (c1 := 2) (c2 := 3) (by omega) (by omega) (by omega) l1 (z_no cb) (fun q hq => hno q (by rw [l1] at hq; exact hq)) T 9 (Nat.le_refl _);have f1 := put_fits (c0 := 0) (c1 := 1) (c2 := 2) (L := topL 4) (by omega) (by omega) (by omega) rfl (z_no ca) top_no T 9 (Nat.le_refl _);rw [fits3] at f1 f2;show Fits 4 (mx 4 (put 0 2 3 (Zo.matL b) (put 0 1 2 (Zo.matL a) (topL 4) 9) 9)) T ↔ _;rw [f2, f1];exact ⟨fun h => ⟨h.1.2, h.2⟩, fun h => ⟨⟨top_fits T, h.1⟩, h.2⟩⟩
def Thru (P Q : (Nat -> Rat) -> Prop) (t : Nat -> Rat) : Prop := ∃ s, P (t3 (t 0) (t 1) s) /\ Q (t3 (t 0) s (t 2))
theorem drop_fits {a b : Zn} (ha : Zo.chk a = 0) (hb : Zo.chk b = 0) :
 ((Proj.drop 4 (mat a b) 2).2.2 = 0 -> ∀ t, Fits 3 (mx 3 (Proj.drop 4 (mat a b) 2).2.1) t ↔ Thru (Fz a) (Fz b) t) /\
 ((Proj.drop 4 (mat a b) 2).2.2 = 6 -> ∀ t, ¬ Thru (Fz a) (Fz b) t) := by
 have h0 := mat_chk ha hb;have hT : ∀ (t : Nat -> Rat) s, Fits 4 (mx 4 (mat a b)) (fun i => if i = 0 then t 0 else if i = 1 then t 1 else if i = 2 then s else t 2) ↔ Fz a (t3 (t 0) (t 1) s) /\ Fz b (t3 (t 0) s (t 2)) := fun t s => mat_fits ha hb _;generalize mat a b = L at h0 hT ⊢;constructor
 ·intro h t
  obtain ⟨_, _, _, C, hC, e⟩ := Proj.drop_ok h;rw [e];have hC : closeL 4 L = some C := hC;have hclo : Clo 4 C := close_clo (N := 4) h0 hC;have hf := fun T => close_fits (N := 4) h0 hC T;have hg : ∀ i j, i < 3 -> j < 3 -> mx 3 (Proj.dropL 4 2 C) i j = mx 4 C (Proj.sk 2 i) (Proj.sk 2 j) := fun i j hi hj => by unfold mx; rw [Proj.dropL_get (N := 4) C hi hj]
  show Fits 3 (mx 3 (Proj.dropL 4 2 C)) t ↔ _;constructor
  ·intro ht
   obtain ⟨s, hs⟩ := extend hclo (k := 2) (by omega) (u := fun i => if i = 3 then t 2 else t i) (fun i j hi hj h1 h2 => by
    have k := ht (if i = 3 then 2 else i) (if j = 3 then 2 else j) (by split <;> omega) (by split <;> omega);rw [hg _ _ (by split <;> omega) (by split <;> omega)] at k;have ei : Proj.sk 2 (if i = 3 then 2 else i) = i := by (unfold Proj.sk; repeat' split); all_goals omega
    have ej : Proj.sk 2 (if j = 3 then 2 else j) = j := by (unfold Proj.sk; repeat' split); all_goals omega
    rw [ei, ej] at k;show satO ((if i = 3 then t 2 else t i) - (if j = 3 then t 2 else t j)) (mx 4 C i j);have q : ∀ i, t (if i = 3 then 2 else i) = if i = 3 then t 2 else t i := fun i => by split <;> rfl
    rw [<- q, <- q]; exact k)
   refine ⟨s, (hT t s).1 ((hf _).1 fun i j hi hj => ?_)⟩;have k : satO ((if i = 2 then s else if i = 3 then t 2 else t i) - (if j = 2 then s else if j = 3 then t 2 else t j)) (mx 4 C i j) := hs i j hi hj;have q : ∀ i, i < 4 -> (if i = 0 then t 0 else if i = 1 then t 1 else if i = 2 then s else t 2) = if i = 2 then s else if i = 3 then t 2 else t i := fun i hi => by
    have : i = 0 \/ i = 1 \/ i = 2 \/ i = 3 := by omega
    rcases this with rfl | rfl | rfl | rfl <;> rfl
   show satO ((if i = 0 then t 0 else if i = 1 then t 1 else if i = 2 then s else t 2) - (if j = 0 then t 0 else if j = 1 then t 1 else if j = 2 then s else t 2)) (mx 4 C i j);rw [q i hi, q j hj]; exact k
  ·rintro ⟨s, hs⟩ i j hi hj
   have k := (hf _).2 ((hT t s).2 hs) (Proj.sk 2 i) (Proj.sk 2 j) (Proj.sk_lt (N := 4) hi) (Proj.sk_lt (N := 4) hj);rw [hg i j hi hj];have q : ∀ i, i < 3 -> (if Proj.sk 2 i = 0 then t 0 else if Proj.sk 2 i = 1 then t 1 else if Proj.sk 2 i = 2 then s else t 2) = t i := fun i hi => by
    have : i = 0 \/ i = 1 \/ i = 2 := by omega
    rcases this with rfl | rfl | rfl <;> rfl
   change satO ((if Proj.sk 2 i = 0 then t 0 else if Proj.sk 2 i = 1 then t 1 else if Proj.sk 2 i = 2 then s else t 2) - (if Proj.sk 2 j = 0 then t 0 else if Proj.sk 2 j = 1 then t 1 else if Proj.sk 2 j = 2 then s else t 2)) (mx 4 C (Proj.sk 2 i) (Proj.sk 2 j)) at k;rw [q i hi, q j hj] at k; exact k
 ·rintro h t ⟨s, hs⟩
  obtain ⟨C, hC⟩ := close_some (N := 4) h0 ((hT t s).2 hs);unfold Proj.drop at h;rw [if_pos h0, if_neg (by omega)] at h;change (match closeL 4 L with | some c => ((4 : Int) - 1, Proj.dropL 4 2 c, (0 : Int)) | none => (0, [], 6)).2.2 = 6 at h;rw [hC] at h;cases h
theorem comp_ok {a b : Zn} (ha : Zo.chk a = 0) (hb : Zo.chk b = 0) :
 ((comp a b).2 = 0 -> Zo.chk (comp a b).1 = 0 /\ ∀ t, Fz (comp a b).1 t ↔ Thru (Fz a) (Fz b) t) /\ ((comp a b).2 = 6 -> ∀ t, ¬ Thru (Fz a) (Fz b) t) := by
 obtain ⟨d1, d2⟩ := drop_fits ha hb;unfold comp;rw [if_pos ⟨ha, hb⟩];generalize mat a b = L at d1 d2 ⊢
 by_cases he : (Proj.drop 4 L 2).2.2 = 0
 ·rw [if_pos he]
  obtain ⟨_, _, _, C, hC, e⟩ := Proj.drop_ok he;have e3 : (Proj.drop 4 L 2).1 = 3 := by rw [e]; rfl
  rw [e3];exact ⟨fun h => ⟨(of_ok h).1, fun t => ((of_ok h).2 t).trans (d1 he t)⟩, fun h t ht => of_none h t ((d1 he t).2 ht)⟩
 ·rw [if_neg he]
  exact ⟨fun h => absurd h he, fun h => d2 h⟩
end Cmp
namespace Zs
open Mi Dbm Cmp
theorem comp_pts {l m : List Zn} (h : (comp l m).2 = 0) : Fine (comp l m).1 /\ ∀ t, Pts (comp l m).1 t ↔ Thru (Pts l) (Pts m) t := by
 obtain ⟨h0, h2, h3, h4⟩ := paired_ok h;obtain ⟨c1, c2⟩ := checked2 h0;refine ⟨h2, fun t => (h4 t).trans ?_⟩;constructor
 ·rintro ⟨x, y, hx, hy, he, hf⟩
  obtain ⟨s, h5, h6⟩ := (((comp_ok (c1 x hx) (c2 y hy)).1 he).2 t).1 hf;exact ⟨s, ⟨x, hx, h5⟩, ⟨y, hy, h6⟩⟩
 ·rintro ⟨s, ⟨x, hx, h5⟩, ⟨y, hy, h6⟩⟩
  rcases h3 x y hx hy with he | he
  ·exact ⟨x, y, hx, hy, he, (((comp_ok (c1 x hx) (c2 y hy)).1 he).2 t).2 ⟨s, h5, h6⟩⟩
  ·exact absurd ⟨s, h5, h6⟩ ((comp_ok (c1 x hx) (c2 y hy)).2 he t)
end Zs
namespace Cmp
open Dbm
end Cmp
namespace Cmp
open Dbm
end Cmp
namespace Mi
open Dbm
theorem minus_err {a b : Zn} (ha : Zo.chk a = 0) (hb : Zo.chk b = 0) {p q : List (Zn × Int)} {y : Zn × Int} (h : p ++ y :: q = parts a b) (hp : ∀ x, x ∈ p -> x.2 = 0) (hy : y.2 ≠ 0) : minus a b = ([], y.2) := by
 have hf : (parts a b).find? (fun x => decide (x.2 ≠ 0)) = some y := by
  rw [<- h, List.find?_append, List.find?_eq_none.2 (fun x hx => by simp [hp x hx])];simp [hy]
 unfold minus;rw [if_pos ⟨ha, hb⟩, hf]
theorem minus_fin {a b : Zn} (ha : Zo.chk a = 0) (hb : Zo.chk b = 0) {p : List (Zn × Int)} (h : p = parts a b) (hp : ∀ x, x ∈ p -> x.2 = 0) : minus a b = (p.map (·.1), 0) := by
 have hf : (parts a b).find? (fun x => decide (x.2 ≠ 0)) = none := by
  rw [<- h]; exact List.find?_eq_none.2 (fun x hx => by simp [hp x hx])
 unfold minus;rw [if_pos ⟨ha, hb⟩, hf, h]
theorem of_cases (L : List Int) : (Zo.of 3 L).2 = 0 \/ (Zo.of 3 L).2 = 6 \/ (Zo.of 3 L).2 = 8 := by
 unfold Zo.of
 by_cases h0 : chk 3 L = 0
 ·rw [if_pos h0, if_pos rfl]
  have hcl : close 3 L = (match closeL 3 L with | some L' => (3, L', 0) | none => (0, [], 6)) := by unfold close; rw [if_pos h0]; rfl
  cases hC : closeL 3 L with
  | none => rw [hC] at hcl; rw [hcl]; right; left; rfl
  | some C =>
    rw [hC] at hcl; rw [hcl];show (Zo.told C).2 = 0 \/ _;unfold Zo.told;split
    ·exact .inl rfl
    ·exact .inr (.inr rfl)
 ·rw [if_neg h0]; exact .inr (.inr rfl)
theorem wth_cases (z : Zn) (i : Nat) (b : Int) : (wth z i b).2 = 0 \/ (wth z i b).2 = 6 \/ (wth z i b).2 = 8 := by
 unfold wth;split
 ·exact of_cases _
 ·exact .inr (.inr rfl)
theorem cell_get (b : Zn) {k : Nat} (hk : k < 6) : [Value.int .i64 b.a, .int .i64 b.b, .int .i64 b.c, .int .i64 b.d, .int .i64 b.e, .int .i64 b.f][k]? = some (.int .i64 (Zo.get b k)) := by
 rcases six hk with rfl | rfl | rfl | rfl | rfl | rfl <;> rfl
theorem not_no {b : Int} (h : b = NO) : (Bd.not b).2 ≠ 0 := by subst h; decide
theorem not_mayC {b : Int} (hl : lim 288230376151711744 b) (hn : b ≠ NO) : Bd.not b = (Bd.mk (-(b / 2)) (!(Bd.st b)), 0) /\ mayC (Bd.not b).1 = true := by
 have hb := hl.resolve_left hn;have e : Bd.not b = (Bd.mk (-(b / 2)) (!(Bd.st b)), 0) := by
  unfold Bd.not;rw [Incl.value_of hl hn];have hok : Num.okB (-(b / 2)) = true := Num.okB_iff.2 (by omega);simp only [if_true];unfold Bd.made;rw [if_pos hok]
 refine ⟨e, ?_⟩;rw [e];unfold mayC;rw [Bd.half_mk]
 simp; omega
theorem lim_mayC {b : Int} (h : lim 288230376151711744 b) : mayC b = true := by
 unfold mayC;rcases h with h | h
 ·rw [h]; rfl
 ·simp; omega
structure LSit (w w2 V : World) (Bb : Nat) (b : Zn) (sv : Value) (out : List Zn) (X : World) : Prop where
 below : Below w.heap.size w X
 size : w2.heap.size <= X.heap.size
 size0 : V.heap.size <= X.heap.size
 ha : Holds X Bb b
 own : Own 86 w2.heap.size X sv out
section
variable {w w2 V X Y : World} {Bb : Nat} {b : Zn} {sv : Value} {out : List Zn}
theorem LSit.at {hp : List LB} {r L : List Nat} (s : LSit w w2 V Bb b sv out X) (h : At ⟨w, w.heap.size, Nat.le_refl _⟩ hp r L X Y) (hL : ∀ x, x ∈ L -> X.heap.size <= x \/ x ≠ Bb /\ sv.ownBlock ≠ some x) : LSit w w2 V Bb b sv out Y := by
 refine ⟨h.below, Nat.le_trans s.size h.size, Nat.le_trans s.size0 h.size, s.ha.same (h.step Bb s.ha.lt fun hm => ?_), ?_⟩
 ·rcases hL _ hm with h1 | h1
  ·have := s.ha.lt; omega
  ·exact h1.1 rfl
 ·obtain ⟨hl, h0 | ⟨g, cap, cur, e1, e2, e3, e4⟩⟩ := s.own
  ·exact ⟨hl, .inl h0⟩
  ·have hg := (Array.getElem?_eq_some_iff.1 e3).1
   refine ⟨hl, .inr ⟨g, cap, cur, e1, e2, (h.step g hg (fun e => ?_)).trans e3, e4⟩⟩;rcases hL g e with h1 | h1
   ·omega
   ·exact h1.2 (by rw [e1]; rfl)
theorem LSit.go (s : LSit w w2 V Bb b sv out X) (hw : w.heap.size <= w2.heap.size) (hB : Below X.heap.size X Y) : LSit w w2 V Bb b sv out Y :=
 ⟨s.below.trans (hB.mono s.below.size), Nat.le_trans s.size hB.size, Nat.le_trans s.size0 hB.size, s.ha.below hB, s.own.below hB⟩
theorem LSit.grow {Z : World} {tv : Value} {out2 : List Zn} (s : LSit w w2 V Bb b sv out Y) (hw : w.heap.size <= w2.heap.size) (hBb : sv.ownBlock ≠ some Bb) (hg : Y.grownBy Z sv.ownBlock) (hO : Own 86 w2.heap.size Z tv out2) : LSit w w2 V Bb b tv out2 Z :=
 ⟨⟨hg.os.trans s.below.os, hg.tape.trans s.below.tape, hg.output.trans s.below.output, Nat.le_trans s.below.size hg.size, fun k hk => (hg.block k (Nat.lt_of_lt_of_le hk s.below.size) (fun e => by have := (s.own.lt k e.symm).1; omega)).trans (s.below.block k hk)⟩,
  Nat.le_trans s.size hg.size, Nat.le_trans s.size0 hg.size, s.ha.same (hg.block Bb s.ha.lt (fun e => hBb e.symm)), hO⟩
end
end Mi
set_option maxHeartbeats 40000000 in
theorem rless_any (a b : Zn) (ha : Zo.chk a = 0) (hb : Zo.chk b = 0) (w : World) :
 Calls Tryz.prog 228 #[.agg #[.int .i64 a.a, .int .i64 a.b, .int .i64 a.c, .int .i64 a.d, .int .i64 a.e, .int .i64 a.f], .agg #[.int .i64 b.a, .int .i64 b.b, .int .i64 b.c, .int .i64 b.d, .int .i64 b.e, .int .i64 b.f]] w (Ret w fun v w' => ∃ a' c', v = .tuple #[.slice a' (Mi.minus a b).1.length c', .int .i64 (Mi.minus a b).2] /\ Own 86 w.heap.size w' (.slice a' (Mi.minus a b).1.length c') (Mi.minus a b).1) := by
 refine fun_ret 0 w Tryz.func228 (args := [.agg [.val (.int .i64 a.a), .val (.int .i64 a.b), .val (.int .i64 a.c), .val (.int .i64 a.d), .val (.int .i64 a.e), .val (.int .i64 a.f)], .agg [.val (.int .i64 b.a), .val (.int .i64 b.b), .val (.int .i64 b.c), .val (.int .i64 b.d), .val (.int .i64 b.e), .val (.int .i64 b.f)]]) rfl rfl ?_;refine NewI.mk fun b1 hb1 => ?_;have hb1' : w.heap.size <= b1 := hb1;refine NewI.frn fun w1 h1 => ?_;have hbox : (w1.alloc (.cells #[.int .i64 b.a, .int .i64 b.b, .int .i64 b.c, .int .i64 b.d, .int .i64 b.e, .int .i64 b.f] 86)).heap[w1.heap.size]? = some (.cells #[.int .i64 b.a, .int .i64 b.b, .int .i64 b.c, .int .i64 b.d, .int .i64 b.e, .int .i64 b.f] 86 (0, 0)) := World.alloc_heap_new w1 _;have hw1 : Below w.heap.size w (w1.alloc (.cells #[.int .i64 b.a, .int .i64 b.b, .int .i64 b.c, .int .i64 b.d, .int .i64 b.e, .int .i64 b.f] 86)) := h1.below.alloc h1.below.size _;have hwB : w.heap.size <= w1.heap.size := h1.below.size;have hb1w : b1 < w1.heap.size := h1.lt b1 (by simp);generalize hgB : w1.heap.size = Bb at hbox hwB hb1w;generalize w1.alloc (.cells #[.int .i64 b.a, .int .i64 b.b, .int .i64 b.c, .int .i64 b.d, .int .i64 b.e, .int .i64 b.f] 86) = w2 at hbox hw1;have hw2s := hw1.size;have hbox : Mi.Holds w2 Bb b := hbox;have hBb : Bb < w2.heap.size := hbox.lt
 refine LoopI.inv (α := (Nat × Zn × List (Zn × Int)) × World × Value) (fun y => [(7, .val (.int .i64 y.1.1)), (6, .val y.2.2)]) (fun y => [⟨[.val (.int .i64 y.1.2.1.a), .val (.int .i64 y.1.2.1.b), .val (.int .i64 y.1.2.1.c), .val (.int .i64 y.1.2.1.d), .val (.int .i64 y.1.2.1.e), .val (.int .i64 y.1.2.1.f)], 86⟩]) (fun y => y.2.1)
  (fun y => y.1.1 <= 6 /\ Below w.heap.size w y.2.1 /\ w2.heap.size <= y.2.1.heap.size /\ Mi.Holds y.2.1 Bb b /\ Own 86 w2.heap.size y.2.1 y.2.2 (y.1.2.2.map (·.1)) /\ Zo.chk y.1.2.1 = 0 /\ (∀ x : Zn × Int, x ∈ y.1.2.2 -> x.2 = 0) /\ y.1.2.2.length <= 2 * y.1.1 /\ y.1.2.2 ++ Mi.go b ([0, 1, 2, 3, 4, 5].drop y.1.1) y.1.2.1 = Mi.parts a b) (fun y => 6 - y.1.1) ?_ ?_
 ·intro w3 h3
  have g3 := atB h3 (by simp);exact ⟨((0, a, []), w3, .slice none 0 0), Cov.au rfl rfl rfl rfl rfl, rfl, Nat.zero_le _, h3.below, g3.size, hbox.below g3, Own.nil, ha, by simp, by simp, rfl⟩
 rintro ⟨⟨k, x, pre⟩, V, sv⟩ ⟨hk, hV, hV2, hbx, hO, hx, hz, hpl, hpre⟩;simp only at hk hV hV2 hbx hO hx hz hpl hpre;refine Branch.mk (fun z1 => ?_) (fun z1 => ?_)
 ·have hlt : k < 6 := by have := of_decide_eq_true z1; simp only at this; omega
  have hbl := Mi.get_lim (Zo.clo hb).1 hlt;have hbm := Mi.lim_mayC hbl;have hx0 := (Zo.clo hx).1;have hok : Mi.other k < 6 := by unfold Mi.other; split <;> omega
  have hrow := fun g (h : sv.ownBlock = some g) => hO.lt g h;rw [Mi.drop_six hlt] at hpre;have n1 : sv.ownBlock ≠ some b1 := fun e => by have := (hrow b1 e).1; omega
  have nB : sv.ownBlock ≠ some Bb := fun e => by have := (hrow Bb e).1; omega
  have sit : Mi.LSit w w2 V Bb b sv (pre.map (·.1)) V := ⟨hV, hV2, Nat.le_refl _, hbx, hO⟩;refine Need.mk (by simp only; omega) ?_;refine LoadI.mk ⟨_, ⟨by rw [show (((k : Nat) : Int).toNat * 1) = k by simp]; exact sit.ha.cells k _ (Mi.cell_get b hlt), by simp⟩, ?_⟩;refine Branch.mk (fun z2 => ?_) (fun z2 => ?_)
  ·have hno : Zo.get b k = Dbm.NO := of_decide_eq_true z2
   rw [Mi.go, if_pos (Mi.not_no hno)] at hpre;refine Need.ok (EndI.mk fun w9 h9 => ⟨((k + 1, x, pre), w9, sv), Cov.au rfl rfl rfl rfl rfl, rfl, ?_, by simp only; omega⟩);have sit9 := sit.at h9 (by simp);exact ⟨hlt, sit9.below, sit9.size, sit9.ha, sit9.own, hx, hz, by simp only; omega, hpre⟩
  have hne : Zo.get b k ≠ Dbm.NO := of_decide_eq_false z2;obtain ⟨hn1, hnm⟩ := Mi.not_mayC hbl hne;rw [Mi.go, if_neg (by rw [hn1]; simp)] at hpre;have hbn := hbl.resolve_left hne;have hother : ∀ w, Calls Tryz.prog 241 #[.int .i64 (Zo.get b k)] w fun e w' => e = .returned (.int .i64 (Bd.not (Zo.get b k)).1) /\ Below w.heap.size w w' := fun w => by
   refine (rother02_any (Zo.get b k) (by omega) (by omega) w).mono ?_;rintro e w' ⟨rfl, rfl⟩;rw [hn1];exact ⟨rfl, Below.refl _ _⟩
  generalize hr1v : Mi.wth x (Mi.other k) (Bd.not (Zo.get b k)).1 = r1 at hpre;generalize hr2v : Mi.wth x k (Zo.get b k) = r2 at hpre;have hc1 := Mi.wth_cases x (Mi.other k) (Bd.not (Zo.get b k)).1;have hc2 := Mi.wth_cases x k (Zo.get b k);have hr2 : r2.2 = 0 -> Zo.chk r2.1 = 0 := fun h => by rw [<- hr2v] at h ⊢; exact (Mi.wth_ok hx0 hlt (Mi.lim_lt hbl (by omega)) h).1
  rw [hr1v] at hc1;rw [hr2v] at hc2;refine DrawI.go (.tk 0 (.tk 1 (.tk 3 (.tk 4 (.tk 5 (.two 2 (.two 6 (.two 7 (.tk 8 (.tk 9 (.tk 10 (.ev 11 (.ev 12 (.tk 13 .done)))))) 11 (.ev 7 (.tk 8 (.tk 9 (.tk 10 (.ev 12 (.tk 13 .done))))))) 11 (.ev 6 (.ev 7 (.tk 8 (.tk 9 (.tk 10 (.ev 12 (.tk 13 .done)))))))) 11 (.ev 2 (.ev 6 (.ev 7 (.tk 8 (.tk 9 (.tk 10 (.ev 12 (.tk 13 .done)))))))))))))) (by kernel_rfl) fun w3 h3 => ?_;have sit := sit.at h3 (by simp);refine Need.mk (by simp only; omega) ?_;refine LoadI.mk ⟨_, ⟨by rw [show (((k : Nat) : Int).toNat * 1) = k by simp]; exact sit.ha.cells k _ (Mi.cell_get b hlt), by simp⟩, ?_⟩;refine Both.mk ?_ ?_;apply CallI.use1
  focus (exact fun w3 h3 => rother11_any k hlt w3)
  intro w3 v3 h3 hB3;have sit := (sit.at h3 (fun x hx => by simp at hx <;> first | omega | (subst hx; exact .inr ⟨by omega, by assumption⟩) | (rcases hx with rfl | rfl <;> first | exact .inl (by omega) | exact .inr ⟨by omega, by assumption⟩))).go hw2s hB3;refine Both.mk ?_ ?_;apply CallI.use1
  focus (exact fun w4 h4 => hother w4)
  intro w4 v4 h4 hB4;have sit := (sit.at h4 (fun x hx => by simp at hx <;> first | omega | (subst hx; exact .inr ⟨by omega, by assumption⟩) | (rcases hx with rfl | rfl <;> first | exact .inl (by omega) | exact .inr ⟨by omega, by assumption⟩))).go hw2s hB4;refine Both.mk ?_ ?_;apply CallI.use1
  focus (exact fun w5 h5 => rwith_any x hx0 (Mi.other k) hok (Bd.not (Zo.get b k)).1 hnm w5)
  intro w5 v5 h5 hB5;have sit := (sit.at h5 (fun x hx => by simp at hx <;> first | omega | (subst hx; exact .inr ⟨by omega, by assumption⟩) | (rcases hx with rfl | rfl <;> first | exact .inl (by omega) | exact .inr ⟨by omega, by assumption⟩))).go hw2s hB5;rw [hr1v];refine NewI.mk fun b9 hb9 => ?_;have hb9' := Nat.le_trans sit.size0 hb9;have n9 : sv.ownBlock ≠ some b9 := fun e => by have := (hrow b9 e).2; omega
  have m9 := hbx.lt;rotate_left;refine NewI.mk fun b9 hb9 => ?_;have hb9' := Nat.le_trans sit.size0 hb9;have n9 : sv.ownBlock ≠ some b9 := fun e => by have := (hrow b9 e).2; omega
  have m9 := hbx.lt;apply CallI.use1
  focus (exact fun w5 h5 => rwith_any x hx0 (Mi.other k) hok (Bd.not (Zo.get b k)).1 hnm w5)
  intro w5 v5 h5 hB5;have sit := (sit.at h5 (fun x hx => by simp at hx <;> first | omega | (subst hx; exact .inr ⟨by omega, by assumption⟩) | (rcases hx with rfl | rfl <;> first | exact .inl (by omega) | exact .inr ⟨by omega, by assumption⟩))).go hw2s hB5;rw [hr1v];rotate_left;refine NewI.mk fun b9 hb9 => ?_;have hb9' := Nat.le_trans sit.size0 hb9;have n9 : sv.ownBlock ≠ some b9 := fun e => by have := (hrow b9 e).2; omega
  have m9 := hbx.lt;apply CallI.use1
  focus (exact fun w4 h4 => hother w4)
  intro w4 v4 h4 hB4;have sit := (sit.at h4 (fun x hx => by simp at hx <;> first | omega | (subst hx; exact .inr ⟨by omega, by assumption⟩) | (rcases hx with rfl | rfl <;> first | exact .inl (by omega) | exact .inr ⟨by omega, by assumption⟩))).go hw2s hB4;apply CallI.use1
  focus (exact fun w5 h5 => rwith_any x hx0 (Mi.other k) hok (Bd.not (Zo.get b k)).1 hnm w5)
  intro w5 v5 h5 hB5;have sit := (sit.at h5 (fun x hx => by simp at hx <;> first | omega | (subst hx; exact .inr ⟨by omega, by assumption⟩) | (rcases hx with rfl | rfl <;> first | exact .inl (by omega) | exact .inr ⟨by omega, by assumption⟩))).go hw2s hB5;rw [hr1v];rotate_left;refine NewI.mk fun b9 hb9 => ?_;have hb9' := Nat.le_trans sit.size0 hb9;have n9 : sv.ownBlock ≠ some b9 := fun e => by have := (hrow b9 e).2; omega
  have m9 := hbx.lt;apply CallI.use1
  focus (exact fun w3 h3 => rother11_any k hlt w3)
  intro w3 v3 h3 hB3;have sit := (sit.at h3 (fun x hx => by simp at hx <;> first | omega | (subst hx; exact .inr ⟨by omega, by assumption⟩) | (rcases hx with rfl | rfl <;> first | exact .inl (by omega) | exact .inr ⟨by omega, by assumption⟩))).go hw2s hB3;apply CallI.use1
  focus (exact fun w4 h4 => hother w4)
  intro w4 v4 h4 hB4;have sit := (sit.at h4 (fun x hx => by simp at hx <;> first | omega | (subst hx; exact .inr ⟨by omega, by assumption⟩) | (rcases hx with rfl | rfl <;> first | exact .inl (by omega) | exact .inr ⟨by omega, by assumption⟩))).go hw2s hB4;apply CallI.use1
  focus (exact fun w5 h5 => rwith_any x hx0 (Mi.other k) hok (Bd.not (Zo.get b k)).1 hnm w5)
  intro w5 v5 h5 hB5;have sit := (sit.at h5 (fun x hx => by simp at hx <;> first | omega | (subst hx; exact .inr ⟨by omega, by assumption⟩) | (rcases hx with rfl | rfl <;> first | exact .inl (by omega) | exact .inr ⟨by omega, by assumption⟩))).go hw2s hB5;rw [hr1v]
  all_goals
   refine Branch.mk (fun z3 => ?_) (fun z3 => ?_)
   ·have e8 : r1.2 = 8 := by simpa using z3
    rw [if_neg (by omega)] at hpre;rw [Mi.minus_err ha hb (p := pre) (y := r1) (by rw [<- hpre]; simp; rfl) hz (by omega), e8];exact EndI.mk fun w9 h9 => ⟨_, _, rfl, Own.nil⟩
   have e8 : ¬ r1.2 = 8 := by simpa using z3
   refine Branch.mk (fun z4 => ?_) (fun z4 => ?_);have e0 : r1.2 = 0 := by simpa using z4
   rw [if_neg (by omega)] at hpre;obtain ⟨pre1, hpre1⟩ : ∃ p, p = pre ++ [r1] := ⟨_, rfl⟩;have hp1 : pre1 ++ (if r2.2 = 6 then [] else (if r2.2 = 0 then [] else [r2]) ++ Mi.go b ([0, 1, 2, 3, 4, 5].drop (k + 1)) r2.1) = Mi.parts a b := by rw [hpre1, List.append_assoc]; exact hpre
   have hz1 : ∀ x : Zn × Int, x ∈ pre1 -> x.2 = 0 := fun y hy => by
    rw [hpre1] at hy;rcases List.mem_append.1 hy with hy | hy
    ·exact hz y hy
    ·rw [List.mem_singleton.1 hy]; exact e0
   have hpl1 : pre1.length <= 2 * k + 1 := by rw [hpre1]; simp; omega
   refine NewI.mk fun b10 hb10 => ?_;have hb10' := Nat.le_trans sit.size0 hb10
   refine GenN.app (α := Zn) elZ (pre.map (·.1)) [r1.1] w2.heap.size (fun w5 h5 => (sit.at h5 (fun x hx => by simp at hx <;> first | omega | (subst hx; exact .inr ⟨by omega, by assumption⟩) | (rcases hx with rfl | rfl <;> first | exact .inl (by omega) | exact .inr ⟨by omega, by assumption⟩))).own) (fun w5 h5 => src_own h5 2 rfl rfl rfl rfl) (by unfold maxLen; simp; omega) (by simp; omega) (fun w5 h5 => Nat.le_trans sit.size h5.size)
    (fun w5 w6 h5 hg => keep_grown h5 hg (fun g hg' => ⟨Nat.le_trans hw2s (hrow g hg').1, fun hm => by have := hrow g hg'; simp at hm; omega⟩)) fun tv w5 w6 h5 hg hO' => ?_
   obtain ⟨at_, ct, rfl⟩ := hO'.form;have emap : pre.map (·.1) ++ [r1.1] = pre1.map (·.1) := by rw [hpre1]; simp
   rw [emap] at hO' ⊢;have sit := (sit.at h5 (fun x hx => by simp at hx <;> first | omega | (subst hx; exact .inr ⟨by omega, by assumption⟩) | (rcases hx with rfl | rfl <;> first | exact .inl (by omega) | exact .inr ⟨by omega, by assumption⟩))).grow hw2s nB hg hO';have n1 : (Value.slice at_ (pre1.map (·.1)).length ct).ownBlock ≠ some b1 := fun e => by have := (sit.own.lt b1 e).1; omega
   generalize Value.slice at_ (pre1.map (·.1)).length ct = tv at sit n1 ⊢;rotate_left;have e0 : ¬ r1.2 = 0 := by simpa using z4
   have e6 : r1.2 = 6 := by omega
   rw [if_pos e6, List.nil_append] at hpre;obtain ⟨pre1, hpre1⟩ : ∃ p, p = pre := ⟨_, rfl⟩;rw [<- hpre1] at hpre hz sit;have hp1 := hpre;have hz1 := hz;have hpl1 : pre1.length <= 2 * k + 1 := by rw [hpre1]; omega
   generalize sv = tv at sit n1 n9 ⊢
  all_goals
   refine DrawI.go (.tk 0 (.tk 1 (.tk 2 (.tk 3 (.tk 4 (.two 5 (.tk 6 (.tk 7 (.tk 8 (.ev 9 (.ev 10 (.tk 11 .done)))))) 9 (.ev 5 (.tk 6 (.tk 7 (.tk 8 (.ev 10 (.tk 11 .done)))))))))))) (by kernel_rfl) fun w8 h8 => ?_;have sit := sit.at h8 (fun x hx => by simp at hx <;> first | omega | (subst hx; exact .inr ⟨by omega, by assumption⟩) | (rcases hx with rfl | rfl <;> first | exact .inl (by omega) | exact .inr ⟨by omega, by assumption⟩));refine Need.mk (by simp only; omega) ?_;refine LoadI.mk ⟨_, ⟨by rw [show (((k : Nat) : Int).toNat * 1) = k by simp]; exact sit.ha.cells k _ (Mi.cell_get b hlt), by simp⟩, ?_⟩;refine Both.mk ?_ ?_;apply CallI.use1
   focus (exact fun w6 h6 => rwith_any x hx0 k hlt (Zo.get b k) hbm w6)
   intro w6 v6 h6 hB6;have sit := (sit.at h6 (fun x hx => by simp at hx <;> first | omega | (subst hx; exact .inr ⟨by omega, by assumption⟩) | (rcases hx with rfl | rfl <;> first | exact .inl (by omega) | exact .inr ⟨by omega, by assumption⟩))).go hw2s hB6;rw [hr2v];refine NewI.mk fun b11 hb11 => ?_;have hb11' := Nat.le_trans sit.size0 hb11;have n11 : tv.ownBlock ≠ some b11 := fun e => by have := (sit.own.lt b11 e).2; omega
   have m11 := sit.ha.lt;rotate_left;refine NewI.mk fun b11 hb11 => ?_;have hb11' := Nat.le_trans sit.size0 hb11;have n11 : tv.ownBlock ≠ some b11 := fun e => by have := (sit.own.lt b11 e).2; omega
   have m11 := sit.ha.lt;apply CallI.use1
   focus (exact fun w6 h6 => rwith_any x hx0 k hlt (Zo.get b k) hbm w6)
   intro w6 v6 h6 hB6;have sit := (sit.at h6 (fun x hx => by simp at hx <;> first | omega | (subst hx; exact .inr ⟨by omega, by assumption⟩) | (rcases hx with rfl | rfl <;> first | exact .inl (by omega) | exact .inr ⟨by omega, by assumption⟩))).go hw2s hB6;rw [hr2v]
  all_goals
   refine Branch.mk (fun z5 => ?_) (fun z5 => ?_)
   ·have e6 : r2.2 = 6 := by simpa using z5
    rw [if_pos e6, List.append_nil] at hp1;rw [Mi.minus_fin ha hb hp1 hz1];obtain ⟨ao, co, rfl⟩ := sit.own.form;exact EndI.mk fun w9 h9 => ⟨ao, co, rfl, ((sit.at h9 (fun x hx => by simp at hx <;> first | omega | (subst hx; exact .inr ⟨by omega, by assumption⟩) | (rcases hx with rfl | rfl <;> first | exact .inl (by omega) | exact .inr ⟨by omega, by assumption⟩))).own).lower hw2s⟩
   have e6 : ¬ r2.2 = 6 := by simpa using z5
   rw [if_neg e6] at hp1;refine Branch.mk (fun z6 => ?_) (fun z6 => ?_)
   ·have e0 : ¬ r2.2 = 0 := by simpa using z6
    rw [if_neg e0] at hp1;rw [Mi.minus_err ha hb (p := pre1) (y := r2) (q := Mi.go b ([0, 1, 2, 3, 4, 5].drop (k + 1)) r2.1) (by rw [<- hp1]; simp) hz1 e0];exact EndI.mk fun w9 h9 => ⟨_, _, rfl, Own.nil⟩
   have e0 : r2.2 = 0 := by simpa using z6
   rw [if_pos e0, List.nil_append] at hp1;refine Need.ok (EndI.mk fun w9 h9 => ⟨((k + 1, r2.1, pre1), w9, tv), Cov.au rfl rfl rfl rfl rfl, rfl, ?_, by simp only; omega⟩);have sit9 := sit.at h9 (fun x hx => by simp at hx <;> first | omega | (subst hx; exact .inr ⟨by omega, by assumption⟩) | (rcases hx with rfl | rfl <;> first | exact .inl (by omega) | exact .inr ⟨by omega, by assumption⟩));exact ⟨hlt, sit9.below, sit9.size, sit9.ha, sit9.own, hr2 e0, hz1, by simp only; omega, hp1⟩
 ·have hge : k = 6 := by have := of_decide_eq_false z1; simp only at this; omega
  subst hge;have hp : pre = Mi.parts a b := by simpa [Mi.go] using hpre
  rw [Mi.minus_fin ha hb hp hz];obtain ⟨ao, co, rfl⟩ := hO.form;exact EndI.mk fun w9 h9 => ⟨ao, co, rfl, (hO.below (atB h9 (by simp))).lower hw1.size⟩
theorem Mi.minus_chk {x b : Zn} (hx : Zo.chk x = 0) (hb : Zo.chk b = 0) (h : (Mi.minus x b).2 = 0) : ∀ y, y ∈ (Mi.minus x b).1 -> Zo.chk y = 0 := fun y hy => (Mi.minus_ok hx hb h y hy).1
open Mi in
theorem rrest_any (z : Zn) (hz : Zo.chk z = 0) (l : List Zn) (hl : ∀ b, b ∈ l -> Zo.chk b = 0) (a : Option Addr) (cap : Nat) (w : World) (hS : Sl w.heap.size w (.slice a l.length cap) l) :
 Calls Tryz.prog 214 #[.agg #[.int .i64 z.a, .int .i64 z.b, .int .i64 z.c, .int .i64 z.d, .int .i64 z.e, .int .i64 z.f], .slice a l.length cap] w (Ret w fun v w' => ∃ a' c', v = .tuple #[.slice a' (Mi.outer l [z]).1.length c', .int .i64 (Mi.outer l [z]).2] /\ Sl w'.heap.size w' (.slice a' (Mi.outer l [z]).1.length c') (Mi.outer l [z]).1) := by
 refine fun_ret 0 w Tryz.func214 (args := [.agg [.val (.int .i64 z.a), .val (.int .i64 z.b), .val (.int .i64 z.c), .val (.int .i64 z.d), .val (.int .i64 z.e), .val (.int .i64 z.f)], .val (.slice a l.length cap)]) rfl rfl ?_;obtain ⟨_, _, hfe, hcap1, hcap2, _⟩ := hS.form;injection hfe with _ _ hfe;subst hfe;unfold maxLen at hcap2;refine NewI.mk fun b1 hb1 => ?_;refine NewI.mk fun b2 hb2 => ?_;have hb2w : w.heap.size <= b2 := hb2
 refine LoopI.invC (α := Nat × World × Value × List Zn) (fun y => [(7, .val (.int .i64 y.1)), (6, .val y.2.2.1)]) (fun y => y.2.1)
  (fun y => y.1 <= l.length /\ Below w.heap.size w y.2.1 /\ Sl y.2.1.heap.size y.2.1 y.2.2.1 y.2.2.2 /\ y.2.2.2.length <= 4096 /\ (∀ x, x ∈ y.2.2.2 -> Zo.chk x = 0) /\ b1 < y.2.1.heap.size /\ b2 < y.2.1.heap.size /\ outer l [z] = outer (l.drop y.1) y.2.2.2) (fun y => l.length - y.1) ?_ ?_
 ·intro w3 h3
  exact ⟨(0, w3, .slice (some ⟨b2, 0, none⟩) 1 1, [z]), Cov.au rfl rfl rfl rfl rfl, rfl, Nat.zero_le _, h3.below, Sl.own (l := [z]) h3 1 rfl rfl rfl (Nat.le_refl _) (by simp [maxLen]), by simp, by simp [hz], h3.lt b1 (by simp), h3.lt b2 (by simp), rfl⟩
 rintro ⟨i, V2, ov, out⟩ ⟨hi, hV2, hSo, hol, hoc, hq1, hq2, heq⟩;simp only at hi hV2 hSo hol hoc hq1 hq2 heq;obtain ⟨ao, co, rfl, _⟩ := hSo.form;refine Branch.mk (fun hc3 => ?_) (fun hc3 => ?_)
 ·have hlt : i < l.length := by have := of_decide_eq_true hc3; simp only at this; omega
  have hg := List.getElem?_eq_getElem (l := l) (i := i) hlt;have hd := List.drop_eq_getElem_cons hlt;generalize l[i] = b at hg hd;have hbc := hl b (List.mem_of_getElem? hg);rw [hd, outer_cons] at heq;have st2 := Stay.start (w0 := ⟨w, w.heap.size, Nat.le_refl _⟩) hV2
  refine LoopI.invC (α := Nat × World × Value × List Zn) (fun y => [(9, .val (.int .i64 y.1)), (8, .val y.2.2.1)]) (fun y => y.2.1)
   (fun y => y.1 <= out.length /\ (∃ base, Lp ⟨w, w.heap.size, Nat.le_refl _⟩ [V2] [b1, b2] 86 base y.2.1 y.2.2.1 y.2.2.2) /\ y.2.2.2.length <= 4096 /\ (∀ x, x ∈ y.2.2.2 -> Zo.chk x = 0) /\ inner b out [] = inner b (out.drop y.1) y.2.2.2) (fun y => out.length - y.1) ?_ ?_
  ·intro w5 h5
   exact ⟨(0, w5, .slice none 0 0, []), Cov.au rfl rfl rfl rfl rfl, rfl, Nat.zero_le _, ⟨_, Lp.start st2 h5 (fun x hx => by simp at hx <;> omega)⟩, by simp, by simp, rfl⟩
  rintro ⟨j, V5, nv, next⟩ ⟨hj, ⟨base, lp⟩, hnl, hnc, hin⟩;simp only at hj lp hnl hnc hin;obtain ⟨an, cn, rfl⟩ := lp.own.form;refine Branch.mk (fun hc4 => ?_) (fun hc4 => ?_)
  ·have hlt2 : j < out.length := by have := of_decide_eq_true hc4; simp only at this; omega
   have hg2 := List.getElem?_eq_getElem (l := out) (i := j) hlt2;have hd2 := List.drop_eq_getElem_cons hlt2;generalize out[j] = x at hg2 hd2;have hxc := hoc x (List.mem_of_getElem? hg2);rw [hd2, inner_cons] at hin;refine DrawI.go (.tk 0 (.tk 1 (.tk 2 (.tk 3 (.tk 4 (.tk 5 (.tk 6 (.tk 7 (.ev 8 (.tk 9 (.tk 10 (.tk 11 (.tk 12 (.tk 13 .done)))))))))))))) (by kernel_rfl) fun w4 h4 => ?_;have lp4 := lp.at h4 (by simp);have hSo5 := hSo.st lp4.st;have hS5 := hS.go h4.below h4.below.size;refine hSo5.idx hg2 fun ad2 had2 => ?_;refine hSo5.ld hg2 had2 (Below.refl _ _) (by simp) ?_;refine hS5.idx hg fun ad had => ?_;refine hS5.ld hg had (Below.refl _ _) (by simp) ?_;apply CallI.use
   focus (exact fun w6 h6 => rless_any x b hxc hbc w6)
   rintro v w6 v6 h6 hB6 ⟨am, cm, rfl, hOm⟩;have lp6 := (lp4.at h6 (by simp)).go hB6;have hml := minus_len x b;refine Branch.mk (fun hc5 => ?_) (fun hc5 => ?_)
   ·have he : (minus x b).2 ≠ 0 := by simpa using hc5
    rw [if_pos he] at hin;rw [hin, if_pos he] at heq;rw [heq];exact EndI.mk fun w9 h9 => ⟨_, _, rfl, Sl.nil⟩
   have he : (minus x b).2 = 0 := by simpa using hc5
   rw [if_neg (by simp [he])] at hin;have hmc := Mi.minus_chk hxc hbc he;have h66 := h6.size;have h67 := hB6.size;refine GenN.appR (α := Zn) elZ lp6 (fun y hy hm => by have h1 := lp.own.lt y hy; have q1 := lp.blk b1 (by simp); have q2 := lp.blk b2 (by simp); simp at hm; omega) (by simp) (minus x b).1 (fun w8 h8 => (hOm.sl.go h8.go h8.size).src) (by omega) (by decide) fun a' c' w8 w9 h8 lp9 hsz hbl => ?_;refine Branch.mk (fun hc6 => ?_) (fun hc6 => ?_)
   ·have h4 : 4096 < (next ++ (minus x b).1).length := by (have : (4096 : Int) < (next ++ (minus x b).1).length := by simpa using hc6); omega
    rw [if_pos h4] at hin;rw [hin, if_pos (by decide)] at heq;rw [heq];exact EndI.mk fun w9 h9 => ⟨_, _, rfl, Sl.nil⟩
   have h4 : ¬ 4096 < (next ++ (minus x b).1).length := by (have : ¬ (4096 : Int) < (next ++ (minus x b).1).length := by simpa using hc6); omega
   rw [if_neg h4] at hin;have ho : (out.length : Int) <= 4096 := by omega
   refine Need.ok (EndI.mk fun w10 h10 => ⟨(j + 1, w10, .slice a' (next ++ (minus x b).1).length c', next ++ (minus x b).1), Cov.au rfl rfl rfl rfl rfl, rfl, ⟨hlt2, ⟨base, ?_⟩, Nat.le_of_not_lt h4, fun y hy => (List.mem_append.1 hy).elim (hnc y) (hmc y), hin⟩, by simp only; omega⟩);exact lp9.at h10 (by simp)
  ·have hge2 : j = out.length := by have := of_decide_eq_false hc4; simp only at this; omega
   subst hge2;rw [List.drop_length] at hin;have hin : inner b out [] = (next, 0) := hin;rw [hin, if_neg (by simp)] at heq;have hs5 := lp.size;have q1 := lp.blk b1 (by simp);have q2 := lp.blk b2 (by simp);refine Need.ok (EndI.mk fun w10 h10 => ⟨(i + 1, w10, .slice an next.length cn, next), Cov.au rfl rfl rfl rfl rfl, rfl, ⟨hlt, h10.below, (lp.at h10 (by simp)).own.sl, hnl, hnc, Nat.lt_of_lt_of_le (Nat.lt_of_lt_of_le q1 hs5) h10.size, Nat.lt_of_lt_of_le (Nat.lt_of_lt_of_le q2 hs5) h10.size, heq⟩, by simp only; omega⟩)
 ·have hge : i = l.length := by have := of_decide_eq_false hc3; simp only at this; omega
  subst hge;rw [List.drop_length] at heq;rw [heq];exact EndI.mk fun w9 h9 => ⟨_, _, rfl, hSo.go h9.go h9.size⟩
namespace Cv
theorem checked_two {a b : List Zn} : (a.length <= 4096 /\ b.length <= 4096 /\ (∀ z, z ∈ a -> Zo.chk z = 0) /\ (∀ z, z ∈ b -> Zo.chk z = 0) -> checked [a, b] = 0) /\ (4096 < a.length \/ 4096 < b.length -> checked [a, b] = 4) /\ (a.length <= 4096 -> b.length <= 4096 -> ((∃ z, z ∈ a /\ Zo.chk z ≠ 0) \/ ∃ z, z ∈ b /\ Zo.chk z ≠ 0) -> checked [a, b] = 8) := by
 unfold checked;simp only [List.any_cons, List.any_nil, Bool.or_false, Bool.or_eq_true, decide_eq_true_eq];have ho : ∀ l : List Zn, l.any odd = true ↔ ∃ z, z ∈ l /\ Zo.chk z ≠ 0 := fun l => by
  rw [List.any_eq_true];simp [odd]
 simp only [ho];refine ⟨fun ⟨h1, h2, h3, h4⟩ => ?_, fun h => ?_, fun h1 h2 h3 => ?_⟩
 ·rw [if_neg (by omega), if_neg]
  rintro (⟨z, hz, hc⟩ | ⟨z, hz, hc⟩)
  ·exact hc (h3 z hz)
  ·exact hc (h4 z hz)
 ·rw [if_pos h]
 ·rw [if_neg (by omega), if_pos h3]
def covered (z : Zn) (l : List Zn) : Bool × Int := (decide ((Mi.outer l [z]).2 = 0) && decide ((Mi.outer l [z]).1.length = 0), (Mi.outer l [z]).2)
theorem left_outer {z : Zn} {l : List Zn} (hz : Zo.chk z = 0) (hl : ∀ b, b ∈ l -> Zo.chk b = 0) : Mi.left z l = Mi.outer l [z] := by
 unfold Mi.left;rw [if_neg (by simp [hz]), if_neg (by rw [List.any_eq_true]; rintro ⟨x, hx, h⟩; simp [hl x hx] at h)]
theorem covered_in {z : Zn} {l : List Zn} (h4 : l.length <= 4096) (hz : Zo.chk z = 0) (hl : ∀ b, b ∈ l -> Zo.chk b = 0) : covered z l = in_ z l := by
 unfold in_ covered;rw [checked_two.1 ⟨h4, by simp, hl, by simp [hz]⟩, if_pos rfl, left_outer hz hl]
end Cv
theorem rcheck12_any (l m : List Zn) (hl : ∀ z, z ∈ l -> Zo.i64 z) (hm : ∀ z, z ∈ m -> Zo.i64 z) (a b : Option Addr) (ca cb : Nat) (w : World) (hS : Sl w.heap.size w (.slice a l.length ca) l) (hT : Sl w.heap.size w (.slice b m.length cb) m) :
 Calls Tryz.prog 174 #[.slice a l.length ca, .slice b m.length cb] w fun e w' => e = .returned (.int .i64 (Cv.checked [l, m])) /\ Below w.heap.size w w' := by
 obtain ⟨k1, k2, k3⟩ := Cv.checked_two (a := l) (b := m);refine fun_eq 0 w Tryz.func174 (args := [.val (.slice a l.length ca), .val (.slice b m.length cb)]) rfl rfl ?_;refine Branch.mk (fun z1 => ?_) (fun z1 => ?_)
 ·have h1 : 4096 < l.length := by have := of_decide_eq_true z1; omega
  rw [k2 (.inl h1)];exact EndI.mk fun w9 h9 => rfl
 have h1 : l.length <= 4096 := by have := of_decide_eq_false z1; omega
 refine Branch.mk (fun z2 => ?_) (fun z2 => ?_)
 ·have h2 : 4096 < m.length := by have := of_decide_eq_true z2; omega
  rw [k2 (.inr h2)];exact EndI.mk fun w9 h9 => rfl
 have h2 : m.length <= 4096 := by have := of_decide_eq_false z2; omega
 refine LoopI.invC (α := Nat × World) (fun y => [(5, .val (.int .i64 y.1))]) (fun y => y.2) (fun y => y.1 <= l.length /\ Below w.heap.size w y.2 /\ ∀ z, z ∈ l.take y.1 -> Zo.chk z = 0) (fun y => l.length - y.1) ?_ ?_
 ·intro w1 h1
  exact ⟨(0, w1), Cov.au rfl rfl rfl rfl rfl, rfl, Nat.zero_le _, h1.below, by simp⟩
 rintro ⟨k, V⟩ ⟨hk, hV, hall⟩;simp only at hk hV hall;refine Branch.mk (fun z3 => ?_) (fun z3 => ?_)
 ·have hlt : k < l.length := by have := of_decide_eq_true z3; simp only at this; omega
  have hx := List.getElem?_eq_getElem (l := l) (i := k) hlt;generalize l[k] = x at hx;have hSV := hS.go hV hV.size;refine hSV.idx hx fun ad had => ?_;refine hSV.ld hx had (Below.refl _ _) (by simp) ?_;apply CallI.use1
  focus (exact fun w3 h3 => rzmay_any x (hl x (List.mem_of_getElem? hx)) w3)
  intro w3 v3 h3 hB3
  by_cases hc : Zo.chk x = 0
  ·rw [decide_eq_true hc]
   refine Branch.no rfl ?_;refine Need.ok (EndI.mk fun w9 h9 => ⟨(k + 1, w9), Cov.au rfl rfl rfl rfl rfl, rfl, ⟨hlt, h9.below, fun y hy => ?_⟩, by simp only; omega⟩);simp only at hy;rw [List.take_add_one, hx] at hy;rcases List.mem_append.1 hy with hy | hy
   ·exact hall y hy
   ·rw [List.mem_singleton.1 hy]; exact hc
  ·rw [decide_eq_false hc]
   refine Branch.yes rfl ?_;rw [k3 h1 h2 (.inl ⟨x, List.mem_of_getElem? hx, hc⟩)];exact EndI.mk fun w9 h9 => rfl
 have hge : k = l.length := by have := of_decide_eq_false z3; simp only at this; omega
 subst hge;rw [List.take_length] at hall;refine LoopI.invC (α := Nat × World) (fun y => [(6, .val (.int .i64 y.1))]) (fun y => y.2) (fun y => y.1 <= m.length /\ Below w.heap.size w y.2 /\ ∀ z, z ∈ m.take y.1 -> Zo.chk z = 0) (fun y => m.length - y.1) ?_ ?_
 ·intro w1 h1
  exact ⟨(0, w1), Cov.au rfl rfl rfl rfl rfl, rfl, Nat.zero_le _, h1.below, by simp⟩
 rintro ⟨k, V2⟩ ⟨hk2, hV2, hall2⟩;simp only at hk2 hV2 hall2;refine Branch.mk (fun z4 => ?_) (fun z4 => ?_)
 ·have hlt : k < m.length := by have := of_decide_eq_true z4; simp only at this; omega
  have hx := List.getElem?_eq_getElem (l := m) (i := k) hlt;generalize m[k] = x at hx;have hSV := hT.go hV2 hV2.size;refine hSV.idx hx fun ad had => ?_;refine hSV.ld hx had (Below.refl _ _) (by simp) ?_;apply CallI.use1
  focus (exact fun w3 h3 => rzmay_any x (hm x (List.mem_of_getElem? hx)) w3)
  intro w3 v3 h3 hB3
  by_cases hc : Zo.chk x = 0
  ·rw [decide_eq_true hc]
   refine Branch.no rfl ?_;refine Need.ok (EndI.mk fun w9 h9 => ⟨(k + 1, w9), Cov.au rfl rfl rfl rfl rfl, rfl, ⟨hlt, h9.below, fun y hy => ?_⟩, by simp only; omega⟩);simp only at hy;rw [List.take_add_one, hx] at hy;rcases List.mem_append.1 hy with hy | hy
   ·exact hall2 y hy
   ·rw [List.mem_singleton.1 hy]; exact hc
  ·rw [decide_eq_false hc]
   refine Branch.yes rfl ?_;rw [k3 h1 h2 (.inr ⟨x, List.mem_of_getElem? hx, hc⟩)];exact EndI.mk fun w9 h9 => rfl
 have hge2 : k = m.length := by have := of_decide_eq_false z4; simp only at this; omega
 subst hge2;rw [List.take_length] at hall2;rw [k1 ⟨h1, h2, hall, hall2⟩];exact EndI.mk fun w9 h9 => rfl
theorem rcovered_any (z : Zn) (hz : Zo.chk z = 0) (l : List Zn) (hl : ∀ b, b ∈ l -> Zo.chk b = 0) (a : Option Addr) (cap : Nat) (w : World) (hS : Sl w.heap.size w (.slice a l.length cap) l) :
 Calls Tryz.prog 199 #[.agg #[.int .i64 z.a, .int .i64 z.b, .int .i64 z.c, .int .i64 z.d, .int .i64 z.e, .int .i64 z.f], .slice a l.length cap] w fun e w' => e = .returned (.tuple #[.bool (Cv.covered z l).1, .int .i64 (Cv.covered z l).2]) /\ Below w.heap.size w w' := by
 refine fun_eq 0 w Tryz.func199 (args := [.agg [.val (.int .i64 z.a), .val (.int .i64 z.b), .val (.int .i64 z.c), .val (.int .i64 z.d), .val (.int .i64 z.e), .val (.int .i64 z.f)], .val (.slice a l.length cap)]) rfl rfl ?_;refine NewI.mk fun b1 hb1 => ?_;apply CallI.use
 focus (exact fun w2 h2 => rrest_any z hz l hl a cap w2 (hS.go h2.below h2.below.size))
 rintro v w2 v2 h2 hB2 ⟨a2, c2, rfl, hS2⟩;unfold Cv.covered;generalize Mi.outer l [z] = X at *;obtain ⟨x, e⟩ := X;refine Branch.mk (fun hc2 => ?_) (fun hc2 => ?_)
 ·have h1 : e = 0 := by simpa using hc2
  subst h1;exact EndI.mk fun w3 h3 => by simp
 ·have h1 : ¬ e = 0 := by simpa using hc2
  exact EndI.mk fun w3 h3 => by simp [h1]
theorem erase_step {l : List Zn} {k i : Nat} {x : Zn} (hx : l[k]? = some x) : (l.take (k + 1)).eraseIdx i = if k = i then (l.take k).eraseIdx i else (l.take k).eraseIdx i ++ [x] := by
 have hk := (List.getElem?_eq_some_iff.1 hx).1;have hl : (l.take k).length = k := by rw [List.length_take]; omega
 rw [List.take_add_one, hx];show (l.take k ++ [x]).eraseIdx i = _
 by_cases h1 : i < k
 ·rw [if_neg (by omega), List.eraseIdx_append_of_lt_length (by omega)]
 ·by_cases h2 : k = i
  ·subst h2
   have h3 : (l.take k).eraseIdx k = l.take k := List.eraseIdx_of_length_le (by omega);rw [if_pos rfl, List.eraseIdx_append_of_length_le (by omega), hl, Nat.sub_self, h3];simp
  ·rw [if_neg h2, List.eraseIdx_of_length_le (by rw [List.length_append, hl]; simp; omega), List.eraseIdx_of_length_le (by omega)]
theorem rwithout_any (l : List Zn) (i : Nat) (hlen : l.length <= 4096) (a : Option Addr) (ca : Nat) (w : World) (hS : Sl w.heap.size w (.slice a l.length ca) l) :
 Calls Tryz.prog 200 #[.slice a l.length ca, .int .i64 (i : Nat)] w (Ret w fun v w' => Own 86 w.heap.size w' v (l.eraseIdx i)) := by
 refine fun_ret 0 w Tryz.func200 (args := [.val (.slice a l.length ca), .val (.int .i64 (i : Nat))]) rfl rfl ?_;have st := Stay.first (w := w)
 refine LoopI.invC (α := Nat × World × Value) (fun y => [(6, .val (.int .i64 y.1)), (5, .val y.2.2)]) (fun y => y.2.1) (fun y => y.1 <= l.length /\ Below w.heap.size w y.2.1 /\ ∃ base, Lp ⟨w, w.heap.size, Nat.le_refl _⟩ [w] [] 86 base y.2.1 y.2.2 ((l.take y.1).eraseIdx i)) (fun y => l.length - y.1) ?_ ?_
 ·intro w1 h1
  exact ⟨(0, w1, .slice none 0 0), Cov.au rfl rfl rfl rfl rfl, rfl, Nat.zero_le _, h1.below, _, by simp only [List.take_zero, List.eraseIdx_nil]; exact Lp.start st h1 (by simp)⟩
 rintro ⟨k, V, ov⟩ ⟨hk, hV, base, lp⟩;simp only at hk hV lp;obtain ⟨ao, co, rfl⟩ := lp.own.form;have hle : ((l.take k).eraseIdx i).length <= k := by
  have := List.length_eraseIdx_le (l.take k) i;rw [List.length_take] at this; omega
 refine Branch.mk (fun z3 => ?_) (fun z3 => ?_)
 ·have hlt : k < l.length := by have := of_decide_eq_true z3; simp only at this; omega
  have hx := List.getElem?_eq_getElem (l := l) (i := k) hlt;generalize l[k] = x at hx;have hes := erase_step (i := i) hx;refine Branch.mk (fun z4 => ?_) (fun z4 => ?_)
  ·have hne : k ≠ i := by have := of_decide_eq_true z4; simp only at this; omega
   rw [if_neg hne] at hes;have hSV := hS.go hV hV.size;refine hSV.idx hx fun ad had => ?_;refine hSV.ld hx had (Below.refl _ _) (by simp) ?_;refine NewI.mk fun b1 hb1 => ?_;have hb1' : V.heap.size <= b1 := hb1;refine GenN.appL (α := Zn) elZ lp (fun y hy => .inr (by simp at hy; omega)) (by simp) [x] (fun w8 h8 => src_own h8 0 rfl rfl rfl rfl) (by simp; omega) (by decide) fun a' c' w8 w9 h8 lp9 hsz hbl => ?_;rw [<- hes] at lp9 ⊢;refine Need.ok (EndI.mk fun w10 h10 => ⟨(k + 1, w10, .slice a' ((l.take (k + 1)).eraseIdx i).length c'), Cov.au rfl rfl rfl rfl rfl, rfl, ⟨hlt, h10.below, base, lp9.at h10 (by simp)⟩, by simp only; omega⟩)
  ·have he : k = i := by have := of_decide_eq_false z4; simp only at this; omega
   rw [if_pos he] at hes;rw [<- hes] at lp ⊢;refine Need.ok (EndI.mk fun w10 h10 => ⟨(k + 1, w10, .slice ao ((l.take (k + 1)).eraseIdx i).length co), Cov.au rfl rfl rfl rfl rfl, rfl, ⟨hlt, h10.below, base, lp.at h10 (by simp)⟩, by simp only; omega⟩)
 ·have hge : k = l.length := by have := of_decide_eq_false z3; simp only at this; omega
  subst hge;rw [List.take_length] at lp ⊢;refine EndI.mk fun w10 h10 => (lp.at h10 (by simp)).own.lower ?_;exact lp.anc w (by simp)
theorem cmp_if (x y : Zn) : Zo.cmp x y = if x.a < y.a then -1 else if y.a < x.a then 1 else if x.b < y.b then -1 else if y.b < x.b then 1 else if x.c < y.c then -1 else if y.c < x.c then 1 else if x.d < y.d then -1 else if y.d < x.d then 1 else if x.e < y.e then -1 else if y.e < x.e then 1 else if x.f < y.f then -1 else if y.f < x.f then 1 else 0 := by
 have one : ∀ (a b t : Int), (if cmpI a b ≠ 0 then cmpI a b else t) = if a < b then -1 else if b < a then 1 else t := by
  intro a b t;unfold cmpI;split <;> (try split) <;> simp_all
 unfold Zo.cmp;rw [one, one, one, one, one, one]
theorem rcmp08_any (x y : Zn) (w : World) :
 Calls Tryz.prog 213 #[.agg #[.int .i64 x.a, .int .i64 x.b, .int .i64 x.c, .int .i64 x.d, .int .i64 x.e, .int .i64 x.f], .agg #[.int .i64 y.a, .int .i64 y.b, .int .i64 y.c, .int .i64 y.d, .int .i64 y.e, .int .i64 y.f]] w fun e w' => e = .returned (.int .i64 (Zo.cmp x y)) /\ Below w.heap.size w w' := by
 refine fun_eq 0 w Tryz.func213 (args := [.agg [.val (.int .i64 x.a), .val (.int .i64 x.b), .val (.int .i64 x.c), .val (.int .i64 x.d), .val (.int .i64 x.e), .val (.int .i64 x.f)], .agg [.val (.int .i64 y.a), .val (.int .i64 y.b), .val (.int .i64 y.c), .val (.int .i64 y.d), .val (.int .i64 y.e), .val (.int .i64 y.f)]]) rfl rfl ?_;refine NewI.mk fun b1 hb1 => ?_;refine NewI.mk fun b2 hb2 => ?_;refine LoopI.rounds 7 ?_;rw [cmp_if];obtain ⟨xa, xb, xc, xd, xe, xf⟩ := x;obtain ⟨ya, yb, yc, yd, ye, yf⟩ := y;refine Branch.yes rfl ?_;refine DrawI.go (.tk 0 (.tk 1 (.tk 2 (.tk 3 (.tk 4 (.tk 5 (.tk 6 .done))))))) (by kernel_rfl) fun w1 h1 => ?_;refine Need.mk (by decide) ?_;refine Need.mk (by decide) ?_;refine Branch.mk (fun z1 => ?_) (fun z1 => ?_)
 ·have hl : xa < ya := of_decide_eq_true z1
  simp only [if_pos hl];exact EndI.mk fun w9 h9 => rfl
 have hl : ¬ xa < ya := of_decide_eq_false z1;simp only [if_neg hl];clear z1 hl;refine DrawI.go (.tk 0 (.tk 1 (.tk 2 (.tk 3 (.tk 4 (.tk 5 (.tk 6 .done))))))) (by kernel_rfl) fun w1 h1 => ?_;refine Need.mk (by decide) ?_;refine Need.mk (by decide) ?_;refine Branch.mk (fun z1 => ?_) (fun z1 => ?_)
 ·have hl : ya < xa := of_decide_eq_true z1
  simp only [if_pos hl];exact EndI.mk fun w9 h9 => rfl
 have hl : ¬ ya < xa := of_decide_eq_false z1;simp only [if_neg hl];clear z1 hl;refine Need.ok ?_;refine Branch.yes rfl ?_;refine DrawI.go (.tk 0 (.tk 1 (.tk 2 (.tk 3 (.tk 4 (.tk 5 (.tk 6 .done))))))) (by kernel_rfl) fun w1 h1 => ?_;refine Need.mk (by decide) ?_;refine Need.mk (by decide) ?_;refine Branch.mk (fun z1 => ?_) (fun z1 => ?_)
 ·have hl : xb < yb := of_decide_eq_true z1
  simp only [if_pos hl];exact EndI.mk fun w9 h9 => rfl
 have hl : ¬ xb < yb := of_decide_eq_false z1;simp only [if_neg hl];clear z1 hl;refine DrawI.go (.tk 0 (.tk 1 (.tk 2 (.tk 3 (.tk 4 (.tk 5 (.tk 6 .done))))))) (by kernel_rfl) fun w1 h1 => ?_;refine Need.mk (by decide) ?_;refine Need.mk (by decide) ?_;refine Branch.mk (fun z1 => ?_) (fun z1 => ?_)
 ·have hl : yb < xb := of_decide_eq_true z1
  simp only [if_pos hl];exact EndI.mk fun w9 h9 => rfl
 have hl : ¬ yb < xb := of_decide_eq_false z1;simp only [if_neg hl];clear z1 hl;refine Need.ok ?_;refine Branch.yes rfl ?_;refine DrawI.go (.tk 0 (.tk 1 (.tk 2 (.tk 3 (.tk 4 (.tk 5 (.tk 6 .done))))))) (by kernel_rfl) fun w1 h1 => ?_;refine Need.mk (by decide) ?_;refine Need.mk (by decide) ?_;refine Branch.mk (fun z1 => ?_) (fun z1 => ?_)
 ·have hl : xc < yc := of_decide_eq_true z1
  simp only [if_pos hl];exact EndI.mk fun w9 h9 => rfl
 have hl : ¬ xc < yc := of_decide_eq_false z1;simp only [if_neg hl];clear z1 hl;refine DrawI.go (.tk 0 (.tk 1 (.tk 2 (.tk 3 (.tk 4 (.tk 5 (.tk 6 .done))))))) (by kernel_rfl) fun w1 h1 => ?_;refine Need.mk (by decide) ?_;refine Need.mk (by decide) ?_;refine Branch.mk (fun z1 => ?_) (fun z1 => ?_)
 ·have hl : yc < xc := of_decide_eq_true z1
  simp only [if_pos hl];exact EndI.mk fun w9 h9 => rfl
 have hl : ¬ yc < xc := of_decide_eq_false z1;simp only [if_neg hl];clear z1 hl;refine Need.ok ?_;refine Branch.yes rfl ?_;refine DrawI.go (.tk 0 (.tk 1 (.tk 2 (.tk 3 (.tk 4 (.tk 5 (.tk 6 .done))))))) (by kernel_rfl) fun w1 h1 => ?_;refine Need.mk (by decide) ?_;refine Need.mk (by decide) ?_;refine Branch.mk (fun z1 => ?_) (fun z1 => ?_)
 ·have hl : xd < yd := of_decide_eq_true z1
  simp only [if_pos hl];exact EndI.mk fun w9 h9 => rfl
 have hl : ¬ xd < yd := of_decide_eq_false z1;simp only [if_neg hl];clear z1 hl;refine DrawI.go (.tk 0 (.tk 1 (.tk 2 (.tk 3 (.tk 4 (.tk 5 (.tk 6 .done))))))) (by kernel_rfl) fun w1 h1 => ?_;refine Need.mk (by decide) ?_;refine Need.mk (by decide) ?_;refine Branch.mk (fun z1 => ?_) (fun z1 => ?_)
 ·have hl : yd < xd := of_decide_eq_true z1
  simp only [if_pos hl];exact EndI.mk fun w9 h9 => rfl
 have hl : ¬ yd < xd := of_decide_eq_false z1;simp only [if_neg hl];clear z1 hl;refine Need.ok ?_;refine Branch.yes rfl ?_;refine DrawI.go (.tk 0 (.tk 1 (.tk 2 (.tk 3 (.tk 4 (.tk 5 (.tk 6 .done))))))) (by kernel_rfl) fun w1 h1 => ?_;refine Need.mk (by decide) ?_;refine Need.mk (by decide) ?_;refine Branch.mk (fun z1 => ?_) (fun z1 => ?_)
 ·have hl : xe < ye := of_decide_eq_true z1
  simp only [if_pos hl];exact EndI.mk fun w9 h9 => rfl
 have hl : ¬ xe < ye := of_decide_eq_false z1;simp only [if_neg hl];clear z1 hl;refine DrawI.go (.tk 0 (.tk 1 (.tk 2 (.tk 3 (.tk 4 (.tk 5 (.tk 6 .done))))))) (by kernel_rfl) fun w1 h1 => ?_;refine Need.mk (by decide) ?_;refine Need.mk (by decide) ?_;refine Branch.mk (fun z1 => ?_) (fun z1 => ?_)
 ·have hl : ye < xe := of_decide_eq_true z1
  simp only [if_pos hl];exact EndI.mk fun w9 h9 => rfl
 have hl : ¬ ye < xe := of_decide_eq_false z1;simp only [if_neg hl];clear z1 hl;refine Need.ok ?_;refine Branch.yes rfl ?_;refine DrawI.go (.tk 0 (.tk 1 (.tk 2 (.tk 3 (.tk 4 (.tk 5 (.tk 6 .done))))))) (by kernel_rfl) fun w1 h1 => ?_;refine Need.mk (by decide) ?_;refine Need.mk (by decide) ?_;refine Branch.mk (fun z1 => ?_) (fun z1 => ?_)
 ·have hl : xf < yf := of_decide_eq_true z1
  simp only [if_pos hl];exact EndI.mk fun w9 h9 => rfl
 have hl : ¬ xf < yf := of_decide_eq_false z1;simp only [if_neg hl];clear z1 hl;refine DrawI.go (.tk 0 (.tk 1 (.tk 2 (.tk 3 (.tk 4 (.tk 5 (.tk 6 .done))))))) (by kernel_rfl) fun w1 h1 => ?_;refine Need.mk (by decide) ?_;refine Need.mk (by decide) ?_;refine Branch.mk (fun z1 => ?_) (fun z1 => ?_)
 ·have hl : yf < xf := of_decide_eq_true z1
  simp only [if_pos hl];exact EndI.mk fun w9 h9 => rfl
 have hl : ¬ yf < xf := of_decide_eq_false z1;simp only [if_neg hl];clear z1 hl;refine Need.ok ?_;refine Branch.no rfl ?_;exact EndI.mk fun w9 h9 => rfl
end
section
open Go.RowKit
namespace Cv
open Zo
def Nx (out : List Zn) (x : Zn) : Prop := ∀ y, out.getLast? = some y -> Lt y x
def Sc (l out : List Zn) (i : Nat) (b : Int) : Prop :=
 (b = -1 /\ ∀ k x, k < i -> l[k]? = some x -> ¬ Nx out x) \/
 (∃ j y, b = (j : Nat) /\ j < i /\ l[j]? = some y /\ Nx out y /\ ∀ k x, k < i -> l[k]? = some x -> Nx out x -> ¬ Lt x y)
theorem Sc.start (l out : List Zn) : Sc l out 0 (-1) := .inl ⟨rfl, fun k x h => by omega⟩
theorem Sc.skip {l out : List Zn} {i : Nat} {b : Int} {x : Zn} (h : Sc l out i b) (hx : l[i]? = some x) (hn : ¬ Nx out x) : Sc l out (i + 1) b := by
 rcases h with ⟨rfl, h⟩ | ⟨j, y, rfl, hj, hy, hn2, h⟩
 ·refine .inl ⟨rfl, fun k x' hk hx' => ?_⟩
  by_cases e : k = i
  ·subst e; rw [hx] at hx'; cases hx'; exact hn
  ·exact h k x' (by omega) hx'
 ·refine .inr ⟨j, y, rfl, by omega, hy, hn2, fun k x' hk hx' hn' => ?_⟩
  by_cases e : k = i
  ·subst e; rw [hx] at hx'; cases hx'; exact absurd hn' hn
  ·exact h k x' (by omega) hx' hn'
theorem Sc.first {l out : List Zn} {i : Nat} {x : Zn} (h : Sc l out i (-1)) (hx : l[i]? = some x) (hn : Nx out x) : Sc l out (i + 1) (i : Nat) := by
 rcases h with ⟨_, h⟩ | ⟨j, y, e, _⟩
 ·refine .inr ⟨i, x, rfl, by omega, hx, hn, fun k x' hk hx' hn' => ?_⟩
  by_cases e : k = i
  ·subst e; rw [hx] at hx'; cases hx'; exact Lt.irrefl _
  ·exact absurd hn' (h k x' (by omega) hx')
 ·omega
theorem Sc.keep {l out : List Zn} {i j : Nat} {x y : Zn} (h : Sc l out i (j : Nat)) (hx : l[i]? = some x) (hy : l[j]? = some y) (hn : ¬ Lt x y) : Sc l out (i + 1) (j : Nat) := by
 rcases h with ⟨e, _⟩ | ⟨j', y', e, hj, hy', hn2, h⟩
 ·omega
 ·have : j' = j := by omega
  subst this;rw [hy] at hy'; cases hy';refine .inr ⟨j', y, rfl, by omega, hy, hn2, fun k x' hk hx' hn' => ?_⟩
  by_cases e : k = i
  ·subst e; rw [hx] at hx'; cases hx'; exact hn
  ·exact h k x' (by omega) hx' hn'
theorem Sc.less {l out : List Zn} {i j : Nat} {x y : Zn} (h : Sc l out i (j : Nat)) (hx : l[i]? = some x) (hy : l[j]? = some y) (hN : Nx out x) (hn : Lt x y) : Sc l out (i + 1) (i : Nat) := by
 rcases h with ⟨e, _⟩ | ⟨j', y', e, hj, hy', hn2, h⟩
 ·omega
 ·have : j' = j := by omega
  subst this;rw [hy] at hy'; cases hy';refine .inr ⟨i, x, rfl, by omega, hx, hN, fun k x' hk hx' hn' hlt => ?_⟩
  by_cases e : k = i
  ·subst e; rw [hx] at hx'; cases hx'; exact Lt.irrefl _ hlt
  ·exact h k x' (by omega) hx' hn' (Lt.trans hlt hn)
theorem last_take {S : List Zn} {p : Nat} (hp : p <= S.length) : (S.take p).getLast? = if p = 0 then none else S[p - 1]? := by
 rw [List.getLast?_eq_getElem?, List.length_take, Nat.min_eq_left hp]
 by_cases h : p = 0
 ·subst h; simp
 ·rw [if_neg h, List.getElem?_take, if_pos (by omega)]
theorem strict_at {S : List Zn} (h : S.Pairwise Lt) {i j : Nat} {x y : Zn} (hx : S[i]? = some x) (hy : S[j]? = some y) (hij : i < j) : Lt x y := by
 obtain ⟨h1, rfl⟩ := List.getElem?_eq_some_iff.1 hx;obtain ⟨h2, rfl⟩ := List.getElem?_eq_some_iff.1 hy;exact List.pairwise_iff_getElem.1 h i j h1 h2 hij
theorem nx_at {S : List Zn} (h : S.Pairwise Lt) {p j : Nat} {x : Zn} (hp : p <= S.length) (hx : S[j]? = some x) : Nx (S.take p) x ↔ p <= j := by
 unfold Nx;rw [last_take hp];constructor
 ·intro hn
  by_cases e : p = 0
  ·omega
  rw [if_neg e] at hn;obtain ⟨y, hy⟩ : ∃ y, S[p - 1]? = some y := ⟨_, List.getElem?_eq_getElem (by omega)⟩;have hlt := hn y hy;refine Nat.le_of_not_lt fun hj => ?_
  by_cases e2 : j = p - 1
  ·subst e2; rw [hx] at hy; cases hy; exact Lt.irrefl _ hlt
  ·exact Lt.irrefl _ (Lt.trans hlt (strict_at h hx hy (by omega)))
 ·intro hpj y hy
  by_cases e : p = 0
  ·rw [if_pos e] at hy; cases hy
  ·rw [if_neg e] at hy
   exact strict_at h hy hx (by omega)
theorem Sc.done {l : List Zn} {p : Nat} (hp : p <= (sorted l).length) (h : Sc l ((sorted l).take p) l.length (-1)) : (sorted l).take p = sorted l := by
 rcases h with ⟨_, h⟩ | ⟨j, y, e, _⟩
 ·refine List.take_of_length_le (Nat.le_of_not_lt fun hlt => ?_)
  have hx := List.getElem?_eq_getElem hlt;obtain ⟨k, hk⟩ := List.mem_iff_getElem?.1 ((sorted_mem l _).1 (List.mem_of_getElem? hx));exact h k _ (List.getElem?_eq_some_iff.1 hk).1 hk ((nx_at (sorted_strict l) hp hx).2 (Nat.le_refl _))
 ·omega
theorem Sc.more {l : List Zn} {p j : Nat} {y : Zn} (hp : p <= (sorted l).length) (h : Sc l ((sorted l).take p) l.length (j : Nat)) (hy : l[j]? = some y) : (sorted l)[p]? = some y := by
 rcases h with ⟨e, _⟩ | ⟨j', y', e, hj, hy', hn2, h⟩
 ·omega
 ·have : j' = j := by omega
  subst this;rw [hy] at hy'; cases hy';obtain ⟨q, hq⟩ := List.mem_iff_getElem?.1 ((sorted_mem l y).2 (List.mem_of_getElem? hy));have hpq := (nx_at (sorted_strict l) hp hq).1 hn2
  by_cases e : p = q
  ·rw [e]; exact hq
  have hql := (List.getElem?_eq_some_iff.1 hq).1;have hx := List.getElem?_eq_getElem (l := sorted l) (i := p) (by omega);obtain ⟨k, hk⟩ := List.mem_iff_getElem?.1 ((sorted_mem l _).1 (List.mem_of_getElem? hx));exact absurd (strict_at (sorted_strict l) hx hq (by omega)) (h k _ (List.getElem?_eq_some_iff.1 hk).1 hk ((nx_at (sorted_strict l) hp hx).2 (Nat.le_refl _)))
end Cv
end
section
open Go.RowKit Go.Proofs.YtanhnllkccldhaaGreat.Eng Enc
namespace Zo
theorem cmpI_gt (x y : Int) : 0 < cmpI x y ↔ y < x := by unfold cmpI; split <;> (try split) <;> omega
theorem step_gt {x y c : Int} {P : Prop} (h : 0 < c ↔ P) : 0 < (if cmpI x y ≠ 0 then cmpI x y else c) ↔ (y < x \/ y = x /\ P) := by
 have h1 := cmpI_gt x y;have h2 := cmpI_eq x y
 by_cases hc : cmpI x y = 0
 ·rw [if_neg (by simp [hc]), h]
  have := h2.1 hc;constructor
  ·intro hp; exact .inr ⟨this.symm, hp⟩
  ·rintro (hl | ⟨_, hp⟩)
   ·omega
   ·exact hp
 ·rw [if_pos hc, h1]
  constructor
  ·exact .inl
  ·rintro (hl | ⟨he, _⟩)
   ·exact hl
   ·exact absurd (h2.2 he.symm) hc
theorem cmp_gt (x y : Zn) : 0 < cmp x y ↔ Lt y x := by
 unfold cmp Lt;exact step_gt (step_gt (step_gt (step_gt (step_gt (step_gt (by simp))))))
end Zo
namespace Cv
theorem Sc.neg {l out : List Zn} {i : Nat} {b : Int} (h : Sc l out i b) (hb : b < 0) : b = -1 := by
 rcases h with ⟨rfl, _⟩ | ⟨j, y, rfl, _⟩ <;> omega
theorem Sc.pos {l out : List Zn} {i : Nat} {b : Int} (h : Sc l out i b) (hb : ¬ b < 0) : ∃ j y, b = (j : Nat) /\ j < i /\ l[j]? = some y := by
 rcases h with ⟨rfl, _⟩ | ⟨j, y, rfl, hj, hy, _⟩
 ·omega
 ·exact ⟨j, y, rfl, hj, hy⟩
end Cv
theorem rsorted_any (l : List Zn) (hlen : l.length <= 4096) (a : Option Addr) (ca : Nat) (w : World) (hS : Sl w.heap.size w (.slice a l.length ca) l) :
 Calls Tryz.prog 198 #[.slice a l.length ca] w (Ret w fun v w' => Own 86 w.heap.size w' v (Cv.sorted l)) := by
 refine fun_ret 0 w Tryz.func198 (args := [.val (.slice a l.length ca)]) rfl rfl ?_;have st := Stay.first (w := w)
 have hsl : (Cv.sorted l).length <= 4096 := Nat.le_trans (Cv.sorted_len l) hlen;refine LoopI.invC (α := Nat × World × Value) (fun y => [(3, .val y.2.2)]) (fun y => y.2.1) (fun y => y.1 <= (Cv.sorted l).length /\ Below w.heap.size w y.2.1 /\ ∃ base, Lp ⟨w, w.heap.size, Nat.le_refl _⟩ [w] [] 86 base y.2.1 y.2.2 ((Cv.sorted l).take y.1)) (fun y => (Cv.sorted l).length - y.1) ?_ ?_
 ·intro w1 h1
  exact ⟨(0, w1, .slice none 0 0), Cov.au rfl rfl rfl rfl rfl, rfl, Nat.zero_le _, h1.below, _, by simp only [List.take_zero]; exact Lp.start st h1 (by simp)⟩
 rintro ⟨p, V, ov⟩ ⟨hp, hV, base, lp0⟩;simp only at hp hV lp0;obtain ⟨ao, co, rfl⟩ := lp0.own.form;have hlenT : ((Cv.sorted l).take p).length = p := by rw [List.length_take, Nat.min_eq_left hp]
 generalize hout : (Cv.sorted l).take p = out at *;refine LoopI.invC (α := Nat × World × Int) (fun y => [(4, .val (.int .i64 y.2.2)), (5, .val (.int .i64 y.1))]) (fun y => y.2.1) (fun y => y.1 <= l.length /\ Below w.heap.size w y.2.1 /\ Lp ⟨w, w.heap.size, Nat.le_refl _⟩ [w] [] 86 base y.2.1 (.slice ao out.length co) out /\ Cv.Sc l out y.1 y.2.2) (fun y => l.length - y.1) ?_ ?_
 ·intro w1 h1
  exact ⟨(0, w1, -1), Cov.au rfl rfl rfl rfl rfl, rfl, Nat.zero_le _, h1.below, lp0.at h1 (by simp), Cv.Sc.start _ _⟩
 rintro ⟨k, U, best⟩ ⟨hk, hU, lp, hSc⟩;simp only at hk hU lp hSc;have hSU := hS.go hU hU.size;refine Branch.mk (fun z3 => ?_) (fun z3 => ?_)
 ·have hlt : k < l.length := by have := of_decide_eq_true z3; simp only at this; omega
  have hx := List.getElem?_eq_getElem (l := l) (i := k) hlt;generalize l[k] = x at hx;refine DrawI.go (.tk 0 (.tk 1 (.tk 2 (.tk 3 (.tk 4 (.tk 5 (.tk 6 (.tk 7 (.tk 8 (.tk 9 (.tk 10 (.tk 11 (.tk 12 (.tk 13 (.ev 14 (.tk 15 (.tk 16 (.tk 17 .done)))))))))))))))))) (by kernel_rfl) fun w2 h2 => ?_;refine Branch.mk (fun z4 => ?_) (fun z4 => ?_)
  ·have hz : out.length = 0 := by have := of_decide_eq_true z4; omega
   have hN : Cv.Nx out x := fun y hy => by rw [List.length_eq_zero_iff.1 hz] at hy; cases hy
   refine DrawI.go (.tk 0 (.tk 1 (.tk 2 (.tk 3 (.tk 4 (.tk 5 (.tk 6 (.tk 7 (.tk 8 (.tk 9 (.tk 10 (.tk 11 (.tk 12 (.ev 13 (.tk 14 (.tk 15 (.tk 16 .done))))))))))))))))) (by kernel_rfl) fun w4 h4 => ?_;have lpT := (lp.at h2 (by simp)).at h4 (by simp);have hST := hS.go h4.below h4.below.size;refine Branch.mk (fun z6 => ?_) (fun z6 => ?_)
   ·have hb : best = -1 := hSc.neg (of_decide_eq_true z6)
    subst hb;have hSc2 := hSc.first hx hN
    refine Need.ok (EndI.mk fun w10 h10 => ⟨(k + 1, w10, (k : Nat)), Cov.au rfl rfl rfl rfl rfl, rfl, ⟨hlt, h10.below, lpT.at h10 (by simp), hSc2⟩, by simp only; omega⟩)
   ·obtain ⟨j, y2, rfl, hjk, hy2⟩ := hSc.pos (of_decide_eq_false z6)
    refine hST.idx hx fun ad5 had5 => ?_;refine hST.ld hx had5 (Below.refl _ _) (by simp) ?_;refine hST.idx hy2 fun ad6 had6 => ?_;refine hST.ld hy2 had6 (Below.refl _ _) (by simp) ?_;apply CallI.use1
    focus (exact fun w5 h5 => rcmp08_any x y2 w5)
    intro w5 v5 h5 hB5;refine Branch.mk (fun z7 => ?_) (fun z7 => ?_)
    ·have hl : Zo.Lt x y2 := (Zo.cmp_lt x y2).1 (of_decide_eq_true z7)
     have hSc2 := hSc.less hx hy2 hN hl;refine Need.ok (EndI.mk fun w10 h10 => ⟨(k + 1, w10, (k : Nat)), Cov.au rfl rfl rfl rfl rfl, rfl, ⟨hlt, h10.below, ((lpT.at h5 (by simp)).go hB5).at h10 (by simp), hSc2⟩, by simp only; omega⟩)
    ·have hl : ¬ Zo.Lt x y2 := fun h => of_decide_eq_false z7 ((Zo.cmp_lt x y2).2 h)
     have hSc2 := hSc.keep hx hy2 hl;refine Need.ok (EndI.mk fun w10 h10 => ⟨(k + 1, w10, (j : Nat)), Cov.au rfl rfl rfl rfl rfl, rfl, ⟨hlt, h10.below, ((lpT.at h5 (by simp)).go hB5).at h10 (by simp), hSc2⟩, by simp only; omega⟩)
  ·have hz : out.length ≠ 0 := by have := of_decide_eq_false z4; omega
   have hSw := hSU.go h2.go h2.go.size;refine hSw.idx hx fun ad had => ?_;refine hSw.ld hx had (Below.refl _ _) (by simp) ?_;refine Need.ok ?_;have hlpw := lp.at h2 (by simp);obtain ⟨y, hy⟩ : ∃ y, out[out.length - 1]? = some y := ⟨_, List.getElem?_eq_getElem (by omega)⟩;have hix : ((out.length : Nat) : Int) - 1 = ((out.length - 1 : Nat) : Int) := by omega
   conv => whnf
   rw [hix];refine hlpw.own.sl.idx (k := out.length - 1) hy fun ad2 had2 => ?_;refine hlpw.own.sl.ld hy had2 (Below.refl _ _) (by simp) ?_;apply CallI.use1
   focus (exact fun w3 h3 => rcmp08_any x y w3)
   intro w3 v3 h3 hB3;have hNx : Cv.Nx out x ↔ 0 < Zo.cmp x y := by
    rw [Zo.cmp_gt];unfold Cv.Nx;rw [List.getLast?_eq_getElem?, hy];exact ⟨fun h => h y rfl, fun h y2 e => by cases e; exact h⟩
   refine DrawI.go (.tk 0 (.tk 1 (.tk 2 (.tk 3 (.tk 4 (.tk 5 (.tk 6 (.tk 7 (.tk 8 (.tk 9 (.tk 10 (.tk 11 (.tk 12 (.ev 13 (.tk 14 (.tk 15 (.tk 16 .done))))))))))))))))) (by kernel_rfl) fun w4 h4 => ?_;have lpT := ((hlpw.at h3 (by simp)).go hB3).at h4 (by simp);refine Branch.mk (fun z5 => ?_) (fun z5 => ?_)
   ·have hN := hNx.2 (of_decide_eq_true z5)
    have hST := hS.go h4.below h4.below.size;refine Branch.mk (fun z6 => ?_) (fun z6 => ?_)
    ·have hb : best = -1 := hSc.neg (of_decide_eq_true z6)
     subst hb;have hSc2 := hSc.first hx hN
     refine Need.ok (EndI.mk fun w10 h10 => ⟨(k + 1, w10, (k : Nat)), Cov.au rfl rfl rfl rfl rfl, rfl, ⟨hlt, h10.below, lpT.at h10 (by simp), hSc2⟩, by simp only; omega⟩)
    ·obtain ⟨j, y2, rfl, hjk, hy2⟩ := hSc.pos (of_decide_eq_false z6)
     refine hST.idx hx fun ad5 had5 => ?_;refine hST.ld hx had5 (Below.refl _ _) (by simp) ?_;refine hST.idx hy2 fun ad6 had6 => ?_;refine hST.ld hy2 had6 (Below.refl _ _) (by simp) ?_;apply CallI.use1
     focus (exact fun w5 h5 => rcmp08_any x y2 w5)
     intro w5 v5 h5 hB5;refine Branch.mk (fun z7 => ?_) (fun z7 => ?_)
     ·have hl : Zo.Lt x y2 := (Zo.cmp_lt x y2).1 (of_decide_eq_true z7)
      have hSc2 := hSc.less hx hy2 hN hl;refine Need.ok (EndI.mk fun w10 h10 => ⟨(k + 1, w10, (k : Nat)), Cov.au rfl rfl rfl rfl rfl, rfl, ⟨hlt, h10.below, ((lpT.at h5 (by simp)).go hB5).at h10 (by simp), hSc2⟩, by simp only; omega⟩)
     ·have hl : ¬ Zo.Lt x y2 := fun h => of_decide_eq_false z7 ((Zo.cmp_lt x y2).2 h)
      have hSc2 := hSc.keep hx hy2 hl;refine Need.ok (EndI.mk fun w10 h10 => ⟨(k + 1, w10, (j : Nat)), Cov.au rfl rfl rfl rfl rfl, rfl, ⟨hlt, h10.below, ((lpT.at h5 (by simp)).go hB5).at h10 (by simp), hSc2⟩, by simp only; omega⟩)
   ·have hN : ¬ Cv.Nx out x := fun h => of_decide_eq_false z5 (hNx.1 h)
    have hSc2 := hSc.skip hx hN;refine Need.ok (EndI.mk fun w10 h10 => ⟨(k + 1, w10, best), Cov.au rfl rfl rfl rfl rfl, rfl, ⟨hlt, h10.below, lpT.at h10 (by simp), hSc2⟩, by simp only; omega⟩)
 ·have hge : k = l.length := by have := of_decide_eq_false z3; simp only at this; omega
  subst hge;refine Branch.mk (fun z4 => ?_) (fun z4 => ?_)
  ·have hb : best = -1 := hSc.neg (of_decide_eq_true z4)
   subst hb;have he : out = Cv.sorted l := by rw [<- hout] at hSc ⊢; exact hSc.done hp
   rw [he] at lp;refine EndI.mk fun w10 h10 => ?_;have := (lp.at h10 (by simp)).own.lower (lp.anc w (by simp));rw [<- he] at this ⊢;exact this
  ·obtain ⟨j, y, rfl, hjk, hy⟩ := hSc.pos (of_decide_eq_false z4)
   have hm : (Cv.sorted l)[p]? = some y := by rw [<- hout] at hSc; exact hSc.more hp hy
   have hpl := (List.getElem?_eq_some_iff.1 hm).1;have htk : (Cv.sorted l).take (p + 1) = out ++ [y] := by rw [List.take_add_one, hm, hout]; rfl
   refine hSU.idx hy fun ad had => ?_;refine hSU.ld hy had (Below.refl _ _) (by simp) ?_;refine NewI.mk fun b1 hb1 => ?_;have hb1' : U.heap.size <= b1 := hb1;refine GenN.appL (α := Zn) elZ lp (fun y hy => .inr (by simp at hy; omega)) (by simp) [y] (fun w8 h8 => src_own h8 0 rfl rfl rfl rfl) (by simp; omega) (by decide) fun a' c' w8 w9 h8 lp9 hsz hbl => ?_;refine EndI.mk fun w10 h10 => ⟨(p + 1, w10, .slice a' (out ++ [y]).length c'), Cov.au rfl rfl rfl rfl rfl, rfl, ⟨hpl, h10.below, base, by simp only [htk]; exact lp9.at h10 (by simp)⟩, by simp only; omega⟩
theorem rwantedO_any (l : List Zn) (hl : ∀ z, z ∈ l -> Zo.chk z = 0) (hlen : l.length <= 4096) (a : Option Addr) (ca : Nat) (w : World) (hS : Sl w.heap.size w (.slice a l.length ca) l) :
 Calls Tryz.prog 175 #[.slice a l.length ca] w (Ret w fun v w' => ∃ a' c', v = .tuple #[.slice a' (Cv.pgo (Cv.sorted l).length (Cv.sorted l)).1.length c', .int .i64 (Cv.pgo (Cv.sorted l).length (Cv.sorted l)).2] /\ Own TZ w.heap.size w' (.slice a' (Cv.pgo (Cv.sorted l).length (Cv.sorted l)).1.length c') (Cv.pgo (Cv.sorted l).length (Cv.sorted l)).1) := by
 refine fun_ret 0 w Tryz.func175 (args := [.val (.slice a l.length ca)]) rfl rfl ?_;have hsl : (Cv.sorted l).length <= 4096 := Nat.le_trans (Cv.sorted_len l) hlen;have hsc : ∀ z, z ∈ Cv.sorted l -> Zo.chk z = 0 := fun z hz => hl z ((Cv.sorted_mem l z).1 hz);apply CallI.use
 focus (exact fun w1 h1 => rsorted_any l hlen a ca w1 (hS.go h1.below h1.below.size))
 rintro v w1 v1 h1 hB1 hO1;obtain ⟨a1, c1, rfl⟩ := hO1.form;generalize Cv.sorted l = S at *;refine Need.ok ?_;refine LoopI.invC (α := Int × World × Value × List Zn) (fun y => [(5, .val (.int .i64 y.1)), (4, .val y.2.2.1)]) (fun y => y.2.1) (fun y => -1 <= y.1 /\ y.1 < y.2.2.2.length /\ y.2.2.2.length <= 4096 /\ Below w.heap.size w y.2.1 /\ Own TZ w.heap.size y.2.1 y.2.2.1 y.2.2.2 /\ (∀ z, z ∈ y.2.2.2 -> Zo.chk z = 0) /\ Cv.pgo S.length S = Cv.pgo (y.1 + 1).toNat y.2.2.2) (fun y => (y.1 + 1).toNat) ?_ ?_
 ·intro w2 h2
  exact ⟨((S.length : Int) - 1, w2, .slice a1 S.length c1, S), Cov.au rfl rfl rfl rfl rfl, rfl, by simp only; omega, by simp only; omega, hsl, h2.below, (hO1.lower h1.below.size).below h2.go, hsc, by simp⟩
 rintro ⟨i, V, ov, out⟩ ⟨hi, hi2, ho4, hV, hSo, hoc, heq⟩;simp only at hi hi2 ho4 hV hSo hoc heq;obtain ⟨ao, co, rfl⟩ := hSo.form;refine Branch.mk (fun z3 => ?_) (fun z3 => ?_)
 ·have hge : 0 <= i := by have := of_decide_eq_true z3; exact this
  obtain ⟨k, rfl⟩ := Int.eq_ofNat_of_zero_le hge;have hlt : k < out.length := by omega
  have hx := List.getElem?_eq_getElem (l := out) (i := k) hlt;generalize out[k] = x at hx;have hxc := hoc x (List.mem_of_getElem? hx);rw [show (((k : Nat) : Int) + 1).toNat = k + 1 by omega, Cv.pgo_succ hx] at heq;refine DrawI.go (.tk 0 (.tk 1 (.tk 2 (.tk 3 (.tk 4 (.tk 5 (.ev 6 (.ev 7 (.tk 8 (.tk 9 (.tk 10 (.tk 11 (.tk 12 .done))))))))))))) (by kernel_rfl) fun w3 h3 => ?_;have hO3 := hSo.below h3.go;have hS3 := hO3.sl;refine hS3.idx hx fun ad had => ?_;refine hS3.ld hx had (Below.refl _ _) (by simp) ?_;apply CallI.use
  focus (exact fun w4 h4 => rwithout_any out k ho4 ao co w4 (hS3.go h4.go h4.go.size))
  rintro v w4 v4 h4 hB4 hO4;obtain ⟨a4, c4, rfl⟩ := hO4.form;have hec : ∀ z, z ∈ out.eraseIdx k -> Zo.chk z = 0 := fun z hz => hoc z (List.mem_of_mem_eraseIdx hz);have hel : (out.eraseIdx k).length <= 4096 := by have := List.length_eraseIdx_le out k; omega
  have hcv := fun w h => rcovered_any x hxc (out.eraseIdx k) hec a4 c4 w h;rw [Cv.covered_in hel hxc hec] at hcv;apply CallI.use1
  focus (exact fun w5 h5 => hcv w5 (hO4.sl.go h5.go h5.go.size))
  intro w5 v5 h5 hB5;generalize Cv.in_ x (out.eraseIdx k) = I at heq;obtain ⟨is, e⟩ := I;simp only at heq;have hOv := (((hO3.below h4.go).below hB4).below h5.go).below hB5;refine Branch.mk (fun z4 => ?_) (fun z4 => ?_)
  ·have he : e ≠ 0 := of_decide_eq_true z4
   rw [if_pos he] at heq;rw [heq];exact EndI.mk fun w9 h9 => ⟨_, _, rfl, Own.nil⟩
  have he : e = 0 := by have := of_decide_eq_false z4; simpa using this
  subst he;rw [if_neg (by simp)] at heq;refine Branch.mk (fun z5 => ?_) (fun z5 => ?_)
  ·have hi : is = true := by simpa using z5
   subst hi;rw [if_pos rfl] at heq;apply CallI.use
   focus (exact fun w6 h6 => rwithout_any out k ho4 ao co w6 (hOv.below h6.go).sl)
   rintro v w6 v6 h6 hB6 hO6;obtain ⟨a6, c6, rfl⟩ := hO6.form;have hle : (out.eraseIdx k).length = out.length - 1 := List.length_eraseIdx_of_lt hlt;refine Need.ok (EndI.mk fun w10 h10 => ⟨(((k : Nat) : Int) - 1, w10, .slice a6 (out.eraseIdx k).length c6, out.eraseIdx k), Cov.au rfl rfl rfl rfl rfl, rfl, ⟨by simp only; omega, by simp only; omega, hel, h10.below, (hO6.lower h6.below.size).below h10.go, hec, by rw [heq]; simp⟩, by simp only; omega⟩)
  ·have hi : is = false := by simpa using z5
   subst hi;rw [if_neg (by simp)] at heq;refine Need.ok (EndI.mk fun w10 h10 => ⟨(((k : Nat) : Int) - 1, w10, .slice ao out.length co, out), Cov.au rfl rfl rfl rfl rfl, rfl, ⟨by simp only; omega, by simp only; omega, ho4, h10.below, hOv.below h10.go, hoc, by rw [heq]; simp⟩, by simp only; omega⟩)
 ·have hlt : i = -1 := by have := of_decide_eq_false z3; omega
  subst hlt;rw [show ((-1 : Int) + 1).toNat = 0 by omega, Cv.pgo] at heq;rw [heq];exact EndI.mk fun w9 h9 => ⟨_, _, rfl, hSo.below h9.go⟩
theorem rprune12O_any (l : List Zn) (hl : ∀ z, z ∈ l -> Zo.i64 z) (a : Option Addr) (ca : Nat) (w : World) (hS : Sl w.heap.size w (.slice a l.length ca) l) :
 Calls Tryz.prog 128 #[.slice a l.length ca] w (Ret w fun v w' => ∃ a' c', v = .tuple #[.slice a' (Cv.prune l).1.length c', .int .i64 (Cv.prune l).2] /\ Own TZ w.heap.size w' (.slice a' (Cv.prune l).1.length c') (Cv.prune l).1) := by
 refine fun_ret 0 w Tryz.func128 (args := [.val (.slice a l.length ca)]) rfl rfl ?_;have hone : Cv.checked [l, []] = Cv.checked [l] := by
  unfold Cv.checked;simp
 apply CallI.use1
 focus (exact fun w1 h1 => rcheck12_any l [] hl (by simp) a none ca 0 w1 (hS.go h1.below h1.below.size) (Sl.nil ..))
 intro w1 v1 h1 hB1;rw [hone];unfold Cv.prune;refine Branch.mk (fun z3 => ?_) (fun z3 => ?_)
 ·have he : Cv.checked [l] ≠ 0 := of_decide_eq_true z3
  rw [if_pos he];exact EndI.mk fun w9 h9 => ⟨_, _, rfl, Own.nil⟩
 have he : Cv.checked [l] = 0 := by have := of_decide_eq_false z3; simpa using this
 rw [if_neg (by simp [he])];obtain ⟨hlen, hc⟩ := Cv.checked_one.1 he;have hS1 := (hS.go h1.below h1.below.size).go hB1 hB1.size;apply CallI.use
 focus (exact fun w2 h2 => rwantedO_any l hc hlen a ca w2 (hS1.go h2.go h2.go.size))
 rintro v w2 v2 h2 hB2 ⟨a2, c2, rfl, hO2⟩;exact EndI.mk fun w9 h9 => ⟨_, _, rfl, (hO2.lower h2.below.size).below h9.go⟩
theorem same11_any (l m : List Zn) (a : Option Addr) (cap : Nat) (b : Option Addr) (cb : Nat) (w : World) (hS : Sl w.heap.size w (.slice a l.length cap) l) (hT : Sl w.heap.size w (.slice b m.length cb) m) :
 Calls Tryz.prog 83 #[.slice a l.length cap, .slice b m.length cb] w fun e w' => e = .returned (.bool (decide (l = m))) /\ Below w.heap.size w w' := by
 refine fun_eq 0 w Tryz.func83 (args := [.val (.slice a l.length cap), .val (.slice b m.length cb)]) rfl rfl ?_;obtain ⟨_, _, hfe, hcap1, hcap2, _⟩ := hS.form;injection hfe with _ _ hfe;subst hfe;unfold maxLen at hcap2;refine Branch.mk (fun hc => ?_) (fun hc => ?_)
 ·have hne : l.length ≠ m.length := by have := of_decide_eq_true hc; omega
  refine EndI.mk fun w9 h9 => ?_;rw [decide_eq_false (fun e => hne (by rw [e]))]
 have hlm : l.length = m.length := by have := of_decide_eq_false hc; omega
 refine LoopI.invC (α := Nat × World) (fun y => [(5, .val (.int .i64 y.1))]) (fun y => y.2) (fun y => y.1 <= l.length /\ Below w.heap.size w y.2 /\ l.take y.1 = m.take y.1) (fun y => l.length - y.1) ?_ ?_
 ·intro w1 h1
  exact ⟨(0, w1), Cov.au rfl rfl rfl rfl rfl, rfl, Nat.zero_le _, h1.below, rfl⟩
 rintro ⟨k, V⟩ ⟨hk, hV, hall⟩;simp only at hk hV hall;refine Branch.mk (fun hc2 => ?_) (fun hc2 => ?_)
 ·have hlt : k < l.length := by have := of_decide_eq_true hc2; simp only at this; omega
  have hx := List.getElem?_eq_getElem (l := l) (i := k) hlt;have hy := List.getElem?_eq_getElem (l := m) (i := k) (by omega);generalize l[k] = x at hx;generalize m[k]'(by omega) = y at hy;refine DrawI.go (.tk 0 (.tk 1 (.tk 2 (.tk 3 (.tk 4 (.tk 5 (.tk 6 (.tk 7 (.ev 8 .done))))))))) (by kernel_rfl) fun w4 h4 => ?_;have hg4 : Below V.heap.size V w4 := h4.go;have hw4 := hV.trans (hg4.mono hV.size);have hS4 := hS.go hw4 hw4.size;have hT4 := hT.go hw4 hw4.size;refine hS4.idx hx fun ad had => ?_;refine hS4.ld hx had (Below.refl _ _) (by simp) ?_;refine hT4.idx hy fun ad2 had2 => ?_;refine hT4.ld hy had2 (Below.refl _ _) (by simp) ?_;refine GenV.to (x := .bool (decide (x ≠ y))) (fun w => run_neq_znG _ _ x y w) fun w5 h5 => ?_;refine Branch.mk (fun hc3 => ?_) (fun hc3 => ?_)
  ·have hne : x ≠ y := by simpa using hc3
   refine EndI.mk fun w9 h9 => ?_;rw [decide_eq_false (fun e => hne (by rw [e, hy] at hx; injection hx with hx; exact hx.symm))]
  ·have he : x = y := by simpa using hc3
   refine Need.ok (EndI.mk fun w9 h9 => ⟨(k + 1, w9), Cov.au rfl rfl rfl rfl rfl, rfl, ⟨hlt, h9.below, ?_⟩, by simp only; omega⟩);simp only;rw [List.take_add_one, List.take_add_one, hall, hx, hy, he]
 ·have hge : k = l.length := by have := of_decide_eq_false hc2; simp only at this; omega
  subst hge;rw [List.take_length, hlm, List.take_length] at hall;refine EndI.mk fun w9 h9 => ?_;rw [decide_eq_true hall]
namespace Zs
theorem chk_i64 {z : Zn} (h : Zo.chk z = 0) : Zo.i64 z := Mi.clo_int64 (Zo.clo h).2
end Zs
theorem rof13_any (l : List Zn) (hl : ∀ z, z ∈ l -> Zo.i64 z) (a : Option Addr) (ca : Nat) (w : World) (hS : Sl w.heap.size w (.slice a l.length ca) l) :
 Calls Tryz.prog 82 #[.slice a l.length ca] w (Ret w fun v w' => ∃ a' c', v = .tuple #[.slice a' (Cv.prune l).1.length c', .int .i64 (Cv.prune l).2] /\ Own TZ w.heap.size w' (.slice a' (Cv.prune l).1.length c') (Cv.prune l).1) := by
 refine fun_ret 0 w Tryz.func82 (args := [.val (.slice a l.length ca)]) rfl rfl ?_;apply CallI.use
 focus (exact fun w2 h2 => rprune12O_any l hl a ca w2 (hS.go h2.below h2.below.size))
 rintro v w2 v2 h2 hB2 ⟨a2, c2, rfl, hO2⟩;exact EndI.mk fun w9 h9 => ⟨a2, c2, rfl, (hO2.lower h2.below.size).below (at_belowM h9 (by simp))⟩
theorem rmay13_any (l : List Zn) (hl : ∀ z, z ∈ l -> Zo.i64 z) (a : Option Addr) (ca : Nat) (w : World) (hS : Sl w.heap.size w (.slice a l.length ca) l) :
 Calls Tryz.prog 46 #[.slice a l.length ca] w fun e w' => e = .returned (.bool (decide ((Cv.prune l).2 = 0) && decide (l = (Cv.prune l).1))) /\ Below w.heap.size w w' := by
 refine fun_eq 0 w Tryz.func46 (args := [.val (.slice a l.length ca)]) rfl rfl ?_;have st := Stay.first (w := w)
 apply CallI.use
 focus (exact fun w2 h2 => rof13_any l hl a ca w2 (hS.st (st.at h2)))
 rintro v w2 v2 h2 hB2 ⟨a2, c2, rfl, hO2⟩;have st := st.nx h2 hB2;refine Branch.mk (fun hc => ?_) (fun hc => ?_)
 ·skip
  apply CallI.use1
  focus (exact fun w3 h3 => same11_any l (Cv.prune l).1 a ca a2 c2 w3 (hS.st (st.at h3)) ((hO2.st (st.at h3)).sl))
  intro w3 v3 h3 hB3;have st := st.nx h3 hB3;exact EndI.mk fun w9 h9 => by rw [hc]; rfl
 ·exact EndI.mk fun w9 h9 => by rw [hc]; rfl
theorem Sl.ldx {α : Type} [Enc α] {n : Nat} {W w : World} {L : List Nat} {a : Option Addr} {ad : Addr} {m cap : Nat} {l : List α} (h : Sl n W (.slice a m cap) l) {k : Nat} {x : α} (hk : l[k]? = some x) (had : a = some ad) (hB : Below n W w) (hL : ∀ b, b ∈ L -> n <= b) {i : Nat} {c : Value} (hc : (enc x)[i]? = some c) {K : Value -> Prop} (hK : K c) :
 LoadI w L ((ad.add ((k : Int).toNat * size α)).add i) K := by
 subst had;obtain ⟨h1, h2⟩ := h.cell hk hB;refine ⟨⟨_, ⟨h2 i c hc, fun e => ?_⟩, hK⟩⟩;have hb : ∀ (q : Addr) (j : Nat), (q.add j).block = q.block := fun q j => by unfold Addr.add; split <;> rfl
 rw [hb, hb] at e;have := hL _ e; omega
namespace Tb
def lng : Int -> List Zn -> Int
 | o, [] => o
 | o, z :: l => if z.c = 9223372036854775807 then 7 else lng (max o (min 7 (z.c / 2))) l
theorem lng_cons (o : Int) (z : Zn) (l : List Zn) : lng o (z :: l) = if z.c = 9223372036854775807 then 7 else lng (max o (min 7 (z.c / 2))) l := rfl
theorem lng_ge : ∀ (l : List Zn) (o : Int), o <= 7 -> o <= lng o l /\ lng o l <= 7
 | [], o, h => ⟨Int.le_refl _, h⟩
 | z :: l, o, h => by
   rw [lng_cons];split
   ·exact ⟨h, by omega⟩
   ·have := lng_ge l (max o (min 7 (z.c / 2))) (by omega)
    omega
theorem lng_mem : ∀ (l : List Zn) (o : Int), o <= 7 -> lng o l <= 6 -> ∀ z, z ∈ l -> z.c <= 2 * lng o l + 1
 | [], o, _, _, z, hz => (nomatch hz)
 | x :: l, o, ho, h, z, hz => by
   rw [lng_cons] at h ⊢;split at h
   ·omega
   ·rename_i hn
    rw [if_neg hn];rcases List.mem_cons.1 hz with rfl | hz
    ·have := lng_ge l (max o (min 7 (z.c / 2))) (by omega)
     omega
    ·exact lng_mem l _ (by omega) h z hz
def may (l : List Zn) : Bool := !Cl.odd l && (decide ((Cv.prune l).2 = 0) && decide (l = (Cv.prune l).1))
end Tb
set_option maxHeartbeats 1000000 in
theorem rlong24_any (l : List Zn) (hi : ∀ z, z ∈ l -> Zo.i64 z) (a : Option Addr) (cap : Nat) (w : World) (hS : Sl w.heap.size w (.slice a l.length cap) l) :
 Calls Tryz.prog 14 #[.slice a l.length cap] w fun e w' => e = .returned (.int .i64 (Tb.lng 0 l)) /\ Below w.heap.size w w' := by
 refine fun_eq 0 w Tryz.func14 (args := [.val (.slice a l.length cap)]) rfl rfl ?_;obtain ⟨_, _, hfe, hcap1, hcap2, _⟩ := hS.form;injection hfe with _ _ hfe;subst hfe;unfold maxLen at hcap2;refine LoopI.invC (α := Nat × Int × World) (fun y => [(3, .val (.int .i64 y.2.1)), (4, .val (.int .i64 y.1))]) (fun y => y.2.2) (fun y => y.1 <= l.length /\ Below w.heap.size w y.2.2 /\ (0 <= y.2.1 /\ y.2.1 <= 7) /\ Tb.lng y.2.1 (l.drop y.1) = Tb.lng 0 l) (fun y => l.length - y.1) ?_ ?_
 ·intro w1 h1
  exact ⟨(0, 0, w1), Cov.au rfl rfl rfl rfl rfl, rfl, Nat.zero_le _, h1.below, by simp, rfl⟩
 rintro ⟨k, o, V⟩ ⟨hk, hV, ho, hall⟩;simp only at hk hV ho hall;refine Branch.mk (fun hc2 => ?_) (fun hc2 => ?_)
 ·have hlt : k < l.length := by have := of_decide_eq_true hc2; simp only at this; omega
  have hx := List.getElem?_eq_getElem (l := l) (i := k) hlt;have hdm : l.drop k = l[k]'hlt :: l.drop (k + 1) := List.drop_eq_getElem_cons hlt;have hxi := hi _ (List.getElem_mem hlt);generalize l[k]'hlt = x at hx hdm hxi;have hxc : -9223372036854775808 <= x.c /\ x.c <= 9223372036854775807 := hxi x.c (by simp [Zo.matL]);rw [hdm, Tb.lng_cons] at hall;have hS4 := hS.go hV hV.size;refine hS4.idx hx fun ad had => ?_;refine Need.mk (by decide) ?_;refine hS4.ldx hx had (Below.refl _ _) (by simp) (i := 2) (c := .int .i64 x.c) rfl ?_;refine Branch.mk (fun hc3 => ?_) (fun hc3 => ?_)
  ·have hn : x.c = 9223372036854775807 := by simpa using hc3
   rw [if_pos hn] at hall;refine EndI.mk fun w9 h9 => ?_;rw [hall]
  ·have hn : ¬ x.c = 9223372036854775807 := by simpa using hc3
   rw [if_neg hn] at hall;apply CallI.use1
   focus (exact fun w4 h4 => (rnumber_any x.c hxc.1 hxc.2 w4).mono fun e w' ⟨he, hw⟩ => ⟨he, hw ▸ Below.refl _ _⟩)
   intro w4 v4 h4 hB4;have hml : maxL o [minL 7 [x.c / 2]] = max o (min 7 (x.c / 2)) := by simp only [maxL, minL, List.foldl_cons, List.foldl_nil]; omega
   rw [<- hml] at hall;refine Need.ok (EndI.mk fun w9 h9 => ⟨(k + 1, maxL o [minL 7 [x.c / 2]], w9), Cov.au rfl rfl rfl rfl rfl, rfl, ⟨hlt, h9.below, by simp only; rw [hml]; omega, hall⟩, by simp only; omega⟩)
 ·have hge : k = l.length := by have := of_decide_eq_false hc2; simp only at this; omega
  subst hge;rw [List.drop_length] at hall;refine EndI.mk fun w9 h9 => ?_;rw [<- hall]; rfl
set_option maxHeartbeats 1000000 in
theorem rmaylist_any (l : List Zn) (hi : ∀ z, z ∈ l -> Zo.i64 z) (a : Option Addr) (cap : Nat) (w : World) (hS : Sl w.heap.size w (.slice a l.length cap) l) :
 Calls Tryz.prog 18 #[.slice a l.length cap] w fun e w' => e = .returned (.bool (Tb.may l)) /\ Below w.heap.size w w' := by
 refine fun_eq 0 w Tryz.func18 (args := [.val (.slice a l.length cap)]) rfl rfl ?_;obtain ⟨_, _, hfe, hcap1, hcap2, _⟩ := hS.form;injection hfe with _ _ hfe;subst hfe;unfold maxLen at hcap2;refine LoopI.invC (α := Nat × World) (fun y => [(3, .val (.int .i64 y.1))]) (fun y => y.2) (fun y => y.1 <= l.length /\ Below w.heap.size w y.2 /\ (l.drop y.1).any Cl.oddZ = l.any Cl.oddZ) (fun y => l.length - y.1) ?_ ?_
 ·intro w1 h1
  exact ⟨(0, w1), Cov.au rfl rfl rfl rfl rfl, rfl, Nat.zero_le _, h1.below, rfl⟩
 rintro ⟨k, V⟩ ⟨hk, hV, hall⟩;simp only at hk hV hall;refine Branch.mk (fun hc2 => ?_) (fun hc2 => ?_)
 ·have hlt : k < l.length := by have := of_decide_eq_true hc2; simp only at this; omega
  have hx := List.getElem?_eq_getElem (l := l) (i := k) hlt;have hdm : l.drop k = l[k]'hlt :: l.drop (k + 1) := List.drop_eq_getElem_cons hlt;generalize l[k]'hlt = x at hx hdm;rw [hdm, List.any_cons] at hall;have hS4 := hS.go hV hV.size;have yes : Cl.oddZ x = true -> Tb.may l = false := fun h => by
   rw [h, Bool.true_or] at hall;unfold Tb.may Cl.odd;rw [<- hall]; rfl
  refine hS4.idx hx fun ad had => ?_;refine Need.mk (by decide) ?_;refine hS4.ldx hx had (Below.refl _ _) (by simp) (i := 1) (c := .int .i64 x.b) rfl ?_;refine Branch.mk (fun hc3 => ?_) (fun hc3 => ?_)
  ·rw [yes (by unfold Cl.oddZ; simp at hc3; simp [hc3])]
   exact EndI.mk fun w9 h9 => rfl
  ·refine hS4.idx hx fun ad2 had2 => ?_
   refine Need.mk (by decide) ?_;refine hS4.ldx hx had2 (Below.refl _ _) (by simp) (i := 5) (c := .int .i64 x.f) rfl ?_;refine Branch.mk (fun hc4 => ?_) (fun hc4 => ?_)
   ·rw [yes (by unfold Cl.oddZ; simp at hc4; simp [hc4])]
    exact EndI.mk fun w9 h9 => rfl
   ·have hn : Cl.oddZ x = false := by unfold Cl.oddZ; simp at hc3 hc4; simp [hc3, hc4]
    rw [hn, Bool.false_or] at hall;refine Need.ok (EndI.mk fun w9 h9 => ⟨(k + 1, w9), Cov.au rfl rfl rfl rfl rfl, rfl, ⟨hlt, h9.below, hall⟩, by simp only; omega⟩)
 ·have hge : k = l.length := by have := of_decide_eq_false hc2; simp only at this; omega
  subst hge;rw [List.drop_length] at hall;apply CallI.use1
  focus (exact fun w4 h4 => rmay13_any l hi a cap w4 (hS.go h4.below h4.below.size))
  intro w4 v4 h4 hB4;refine EndI.mk fun w9 h9 => ?_;unfold Tb.may Cl.odd;rw [<- hall]; rfl
namespace Tb
def tmay (al nw : List Zn) : Bool :=
 if Zs.check al ≠ 0 \/ Zs.check nw ≠ 0 \/ Cl.odd al = true then false else decide ((Cv.all_ nw al).2 = 0) && ((Cv.all_ nw al).1 && !Cl.odd nw)
def capped (l : List Zn) (e zones : Int) : List Zn × Int := if e ≠ 0 \/ zones < (l.length : Int) then ([], 300) else (l, 0)
end Tb
theorem tmay1_any (z : Zn) (w : World) : Calls Tryz.prog 104 #[.agg #[.int .i64 z.a, .int .i64 z.b, .int .i64 z.c, .int .i64 z.d, .int .i64 z.e, .int .i64 z.f]] w fun e w' => e = .returned (.bool (Cl.oddZ z)) /\ Below w.heap.size w w' := by
 refine fun_eq 0 w Tryz.func104 (args := [.agg [.val (.int .i64 z.a), .val (.int .i64 z.b), .val (.int .i64 z.c), .val (.int .i64 z.d), .val (.int .i64 z.e), .val (.int .i64 z.f)]]) rfl rfl ?_;refine NewI.mk fun b1 hb1 => ?_;refine Need.mk (by decide) ?_;unfold Cl.oddZ;refine Branch.mk (fun h1 => ?_) (fun h1 => ?_)
 ·have h1 : decide (1 < z.b) = true := h1
  exact EndI.mk fun w9 h9 => by rw [h1]; rfl
 have h1 : decide (1 < z.b) = false := h1;refine Need.mk (by decide) ?_;exact EndI.mk fun w9 h9 => by rw [h1]; rfl
theorem tmay_any (al nw : List Zn) (a b : Option Addr) (ca cb : Nat) (w : World) (hS : Sl w.heap.size w (.slice a al.length ca) al) (hT : Sl w.heap.size w (.slice b nw.length cb) nw) :
 Calls Tryz.prog 63 #[.agg #[.slice a al.length ca, .slice b nw.length cb]] w fun e w' => e = .returned (.bool (Tb.tmay al nw)) /\ Below w.heap.size w w' := by
 refine fun_eq 0 w Tryz.func63 (args := [.agg [.val (.slice a al.length ca), .val (.slice b nw.length cb)]]) rfl rfl ?_;have st := Stay.first (w := w)
 refine NewI.mk fun b1 hb1 => ?_;have hcon : ∀ (l : List Zn) (a : Option Addr) (c : Nat) (w : World), Sl w.heap.size w (.slice a l.length c) l -> _ := fun l a c w h => containsZ_pure l Cl.oddZ a c 104 #[] w h Tryz.call104 fun x W hx _ => tmay1_any x W;unfold Tb.tmay;apply CallI.use1
 focus (exact fun w2 h2 => zscheck_any al a ca w2 (hS.st (st.at h2)))
 intro w2 v2 h2 hB2;have st := st.nx h2 hB2;refine Branch.mk (fun h1 => ?_) (fun h1 => ?_)
 ·rw [if_pos (.inl (of_decide_eq_true h1))]
  exact EndI.mk fun w9 h9 => rfl
 have h1 := of_decide_eq_false h1;apply CallI.use1
 focus (exact fun w3 h3 => zscheck_any nw b cb w3 (hT.st (st.at h3)))
 intro w3 v3 h3 hB3;have st := st.nx h3 hB3;refine Branch.mk (fun h2 => ?_) (fun h2 => ?_)
 ·rw [if_pos (.inr (.inl (of_decide_eq_true h2)))]
  exact EndI.mk fun w9 h9 => rfl
 have h2 := of_decide_eq_false h2;apply CallI.use1
 focus (exact fun w4 h4 => hcon al a ca w4 (hS.st (st.at h4)))
 intro w4 v4 h4 hB4;have st := st.nx h4 hB4;refine Branch.mk (fun h3 => ?_) (fun h3 => ?_)
 ·rw [if_pos (.inr (.inr h3))]
  exact EndI.mk fun w9 h9 => rfl
 rw [if_neg (fun h => by
  rcases h with h | h | h
  ·exact h1 h
  ·exact h2 h
  ·rw [show Cl.odd al = al.any Cl.oddZ from rfl, h3] at h; cases h)]
 apply CallI.use1
 focus (exact fun w5 h5 => zsin_any nw al b a cb ca w5 (hT.st (st.at h5)) (hS.st (st.at h5)))
 intro w5 v5 h5 hB5;have st := st.nx h5 hB5;refine Branch.mk (fun h4 => ?_) (fun h4 => ?_)
 case refine_2 => exact EndI.mk fun w9 h9 => by rw [h4]; rfl
 rw [h4];refine Branch.mk (fun h5 => ?_) (fun h5 => ?_)
 case refine_2 => exact EndI.mk fun w9 h9 => by rw [h5]; rfl
 rw [h5];apply CallI.use1
 focus (exact fun w6 h6 => hcon nw b cb w6 (hT.st (st.at h6)))
 intro w6 v6 h6 hB6;have st := st.nx h6 hB6;exact EndI.mk fun w9 h9 => rfl
theorem capped_any (l : List Zn) (e zones : Int) (a : Option Addr) (c : Nat) (w : World) :
 Calls Tryz.prog 34 #[.slice a l.length c, .int .i64 e, .int .i64 zones] w fun r w' => r = .returned (if e ≠ 0 \/ zones < (l.length : Int) then .tuple #[.slice none 0 0, .int .i64 300] else .tuple #[.slice a l.length c, .int .i64 0]) /\ Below w.heap.size w w' := by
 refine fun_eq 0 w Tryz.func34 (args := [.val (.slice a l.length c), .val (.int .i64 e), .val (.int .i64 zones)]) rfl rfl ?_;refine Branch.mk (fun h1 => ?_) (fun h1 => ?_)
 ·rw [if_pos (.inl (of_decide_eq_true h1))]
  exact EndI.mk fun w9 h9 => rfl
 have h1 := of_decide_eq_false h1;refine Branch.mk (fun h2 => ?_) (fun h2 => ?_)
 ·rw [if_pos (.inr (of_decide_eq_true h2))]
  exact EndI.mk fun w9 h9 => rfl
 have h2 := of_decide_eq_false h2;rw [if_neg (fun h => h.elim h1 h2)];exact EndI.mk fun w9 h9 => rfl
structure Tbl where
 a : Svl
 n : Svl
instance encTbl : Enc Tbl := ⟨fun x => [.slice x.a.a x.a.len x.a.cap, .slice x.n.a x.n.len x.n.cap], 2, fun _ => rfl, by decide, fun _ v hv => by simp only [List.mem_cons, List.not_mem_nil, or_false] at hv; rcases hv with rfl | rfl <;> rfl, fun x => .agg #[.slice x.a.a x.a.len x.a.cap, .slice x.n.a x.n.len x.n.cap]⟩
theorem indexT_any (l : List Tbl) (p : Tbl -> Bool) (a : Option Addr) (cap : Nat) (fid : FuncId) (caps : Array Value) (B : Nat) (w : World) (hB : B <= w.heap.size) (hS : Sl B w (.slice a l.length cap) l)
 (T : Nat -> World -> Prop) (h0 : T 0 w) (hst : ∀ k W W', T k W -> Below W.heap.size W W' -> T k W') (en : Enters Tryz.prog fid)
 (hcall : ∀ k x W, l[k]? = some x -> Below B w W -> T k W -> Calls Tryz.prog fid (val x :: caps.toList).toArray W fun e W' => e = .returned (.bool (p x)) /\ Below B W W' /\ T (k + 1) W') :
 Calls Tryz.prog 103 #[.slice a l.length cap, .func (.func fid) #[] caps] w fun e w' => ∃ v, e = .returned v /\ Below B w w' /\ v = .int .i64 (idxF p l) /\ T (cntF p l) w' := by
 obtain ⟨a', cap', e', hcap, hmax, _⟩ := hS.form;injection e' with e1 e2 e3;subst e1; subst e3;unfold maxLen at hmax;refine fun_at 0 B w hB Tryz.func103 (args := [.val (.slice a l.length cap), .val (.func (.func fid) #[] caps)]) rfl rfl ?_;refine LoopI.inv (α := Nat × World) (fun x => [(8, .val (.int .i64 x.1))]) (fun _ => []) (fun x => x.2) (fun x => x.1 <= l.length /\ T x.1 x.2 /\ Below B w x.2 /\ ∀ j y, j < x.1 -> l[j]? = some y -> p y = false) (fun x => l.length - x.1) ?_ ?_
 ·intro w1 h1
  exact ⟨(0, w1), Cov.au rfl rfl rfl rfl rfl, rfl, Nat.zero_le _, hst _ _ _ h0 h1.go, h1.below, fun j y hj => by omega⟩
 ·rintro ⟨k, W⟩ ⟨hk, hT, hBw, hno⟩
  refine Branch.mk (fun hb => ?_) (fun hb => ?_)
  ·have hlt : k < l.length := by simpa using hb
   obtain ⟨x, hx⟩ : ∃ x, l[k]? = some x := ⟨l[k], List.getElem?_eq_getElem hlt⟩;refine hS.idx hx fun ad had => ?_;refine hS.ld hx had hBw (by simp) ?_;refine Need.mk en ?_;refine CallI.mk fun w1 h1 => ?_;have hT1 := hst _ _ _ hT h1.go;refine (hcall k x w1 hx h1.below hT1).mono ?_;rintro e w2 ⟨rfl, hB2, hT2⟩;refine ⟨⟨hB2, by simp⟩, _, rfl, ?_⟩;refine Branch.mk (fun hp => ?_) (fun hp => ?_)
   ·refine EndI.mk fun w3 h3 => ?_
    obtain ⟨i1, i2⟩ := idxF_at p l k x hx hp hno;refine ⟨by rw [i1], by rw [i2]; exact hst _ _ _ hT2 h3.go⟩
   ·refine Need.mk (by show _ /\ _; omega) (EndI.mk fun w3 h3 => ?_)
    refine ⟨(k + 1, w3), Cov.au rfl rfl rfl rfl rfl, rfl, ⟨hlt, hst _ _ _ hT2 h3.go, h3.below, fun j y hj hy => ?_⟩, by simp only; omega⟩
    by_cases hjk : j = k
    ·subst hjk; rw [hx] at hy; injection hy with hy; subst hy; exact hp
    ·exact hno j y (by omega) hy
  ·have hge : k = l.length := by (have : ¬ k < l.length := by simpa using hb); omega
   subst hge;refine EndI.mk fun w3 h3 => ?_;obtain ⟨i1, i2⟩ := idxF_none p l fun j y hy => hno j y (List.getElem?_eq_some_iff.1 hy).1 hy;exact ⟨by rw [i1], by rw [i2]; exact hst _ _ _ hT h3.go⟩
theorem containsT_any (l : List Tbl) (p : Tbl -> Bool) (a : Option Addr) (cap : Nat) (fid : FuncId) (caps : Array Value) (B : Nat) (w : World) (hB : B <= w.heap.size) (hS : Sl B w (.slice a l.length cap) l)
 (T : Nat -> World -> Prop) (h0 : T 0 w) (hst : ∀ k W W', T k W -> Below W.heap.size W W' -> T k W') (en : Enters Tryz.prog fid)
 (hcall : ∀ k x W, l[k]? = some x -> Below B w W -> T k W -> Calls Tryz.prog fid (val x :: caps.toList).toArray W fun e W' => e = .returned (.bool (p x)) /\ Below B W W' /\ T (k + 1) W') :
 Calls Tryz.prog 61 #[.slice a l.length cap, .func (.func fid) #[] caps] w fun e w' => ∃ v, e = .returned v /\ Below B w w' /\ v = .bool (l.any p) /\ T (cntF p l) w' := by
 refine fun_at 0 B w hB Tryz.func61 (args := [.val (.slice a l.length cap), .val (.func (.func fid) #[] caps)]) rfl rfl ?_;refine CallI.mk fun w1 h1 => ?_;have hB1 : B <= w1.heap.size := Nat.le_trans hB h1.size;refine (indexT_any l p a cap fid caps B w1 hB1 (hS.below h1.below) T (hst _ _ _ h0 h1.go) hst en fun k x W hx hW hT => hcall k x W hx (h1.below.trans hW) hT).mono ?_;rintro e w2 ⟨v, rfl, hB2, rfl, hT⟩;refine ⟨⟨hB2, by simp⟩, _, rfl, ?_⟩;refine EndI.mk fun w3 h3 => ⟨?_, hst _ _ _ hT h3.go⟩;rw [<- idxF_any]
theorem containsT_pure (l : List Tbl) (p : Tbl -> Bool) (a : Option Addr) (cap : Nat) (fid : FuncId) (caps : Array Value) (w : World) (hS : Sl w.heap.size w (.slice a l.length cap) l) (en : Enters Tryz.prog fid)
 (hcall : ∀ x W, x ∈ l -> Below w.heap.size w W -> Calls Tryz.prog fid (val x :: caps.toList).toArray W fun e W' => e = .returned (.bool (p x)) /\ Below W.heap.size W W') :
 Calls Tryz.prog 61 #[.slice a l.length cap, .func (.func fid) #[] caps] w fun e w' => e = .returned (.bool (l.any p)) /\ Below w.heap.size w w' := by
 refine (containsT_any l p a cap fid caps w.heap.size w (Nat.le_refl _) hS (fun _ _ => True) trivial (fun _ _ _ _ _ => trivial) en fun k x W hx hB _ => ?_).mono ?_
 ·refine (hcall x W (List.mem_of_getElem? hx) hB).mono ?_
  rintro e W' ⟨rfl, hB'⟩;exact ⟨rfl, hB'.mono hB.size, trivial⟩
 ·rintro e w' ⟨v, rfl, hB, rfl, _⟩
  exact ⟨rfl, hB⟩
theorem Sl.inj {α : Type} [Enc α] (hi : ∀ x y : α, enc x = enc y -> x = y) {n m : Nat} {W : World} {sv : Value} {l k : List α} (h : Sl n W sv l) (g : Sl m W sv k) : l = k := by
 obtain ⟨a, c, e1, _, _, _, h4⟩ := h;obtain ⟨a', c', e2, _, _, _, g4⟩ := g;rw [e1] at e2;injection e2 with q1 q2 q3;subst q1;refine List.ext_getElem? fun i => ?_;rcases Nat.lt_or_ge i l.length with hl | hl
 ·have hx := List.getElem?_eq_getElem (l := l) (i := i) hl
  have hy := List.getElem?_eq_getElem (l := k) (i := i) (by omega);obtain ⟨b, o, ha, _, hb⟩ := h4 i _ hx;obtain ⟨b', o', ha', _, hb'⟩ := g4 i _ hy;rw [ha] at ha';injection ha' with ha';injection ha' with r1 r2 _;subst r1; subst r2;rw [hx, hy]
  congr 1
  refine hi _ _ (List.ext_getElem? fun j => ?_);rcases Nat.lt_or_ge j (size α) with hj | hj
  ·have u1 := List.getElem?_eq_getElem (l := enc l[i]) (i := j) (by rw [Enc.len]; exact hj)
   have u2 := List.getElem?_eq_getElem (l := enc k[i]) (i := j) (by rw [Enc.len]; exact hj);have v1 := hb j _ u1;have v2 := hb' j _ u2;rw [v1] at v2;injection v2 with v2;rw [u1, u2, v2]
  ·rw [List.getElem?_eq_none (by rw [Enc.len]; exact hj), List.getElem?_eq_none (by rw [Enc.len]; exact hj)]
 ·rw [List.getElem?_eq_none hl, List.getElem?_eq_none (by omega)]
theorem zn_inj (x y : Zn) (h : enc x = enc y) : x = y := by
 obtain ⟨a, b, c, d, e, f⟩ := x;obtain ⟨a', b', c', d', e', f'⟩ := y;simp [enc] at h;obtain ⟨rfl, rfl, rfl, rfl, rfl, rfl⟩ := h
 rfl
namespace Tb
def Parts (n : Nat) (W : World) (ts : List Tbl) (ls : List (List Zn × List Zn)) : Prop := ts.length = ls.length /\ ∀ (k : Nat) (t : Tbl) (l : List Zn × List Zn), ts[k]? = some t -> ls[k]? = some l -> Sl n W (.slice t.a.a t.a.len t.a.cap) l.1 /\ t.a.len = l.1.length /\ Sl n W (.slice t.n.a t.n.len t.n.cap) l.2 /\ t.n.len = l.2.length
theorem Parts.go {n : Nat} {W X : World} {ts : List Tbl} {ls : List (List Zn × List Zn)} (h : Parts n W ts ls) (hB : Below n W X) (hn : n <= X.heap.size) : Parts X.heap.size X ts ls := ⟨h.1, fun k t l ht hl => by
 obtain ⟨h1, h2, h3, h4⟩ := h.2 k t l ht hl;exact ⟨h1.go hB hn, h2, h3.go hB hn, h4⟩⟩
def ask (zones : Int) (ls : List (List Zn × List Zn)) : Int := if zones < 1 \/ 4096 < zones then 2 else if (ls.any fun x => !tmay x.1 x.2) = true then 8 else 0
end Tb
theorem tasked1_any (al nw : List Zn) (a b : Option Addr) (ca cb : Nat) (w : World) (hS : Sl w.heap.size w (.slice a al.length ca) al) (hT : Sl w.heap.size w (.slice b nw.length cb) nw) :
 Calls Tryz.prog 62 #[.agg #[.slice a al.length ca, .slice b nw.length cb]] w fun e w' => e = .returned (.bool (!Tb.tmay al nw)) /\ Below w.heap.size w w' := by
 refine fun_eq 0 w Tryz.func62 (args := [.agg [.val (.slice a al.length ca), .val (.slice b nw.length cb)]]) rfl rfl ?_;have st := Stay.first (w := w)
 refine NewI.mk fun b1 hb1 => ?_;apply CallI.use1
 focus (exact fun w2 h2 => tmay_any al nw a b ca cb w2 (hS.st (st.at h2)) (hT.st (st.at h2)))
 intro w2 v2 h2 hB2;have st := st.nx h2 hB2;exact EndI.mk fun w9 h9 => rfl
open Classical in
theorem tasked_any (zones : Int) (ts : List Tbl) (ls : List (List Zn × List Zn)) (a : Option Addr) (c : Nat) (w : World) (hP : Tb.Parts w.heap.size w ts ls) (hS : Sl w.heap.size w (.slice a ts.length c) ts) :
 Calls Tryz.prog 31 #[.int .i64 zones, .slice a ts.length c] w fun e w' => e = .returned (.int .i64 (Tb.ask zones ls)) /\ Below w.heap.size w w' := by
 refine fun_eq 0 w Tryz.func31 (args := [.val (.int .i64 zones), .val (.slice a ts.length c)]) rfl rfl ?_;unfold Tb.ask;refine Branch.mk (fun h1 => ?_) (fun h1 => ?_)
 ·rw [if_pos (.inl (of_decide_eq_true h1))]
  exact EndI.mk fun w9 h9 => rfl
 have h1 := of_decide_eq_false h1;refine Branch.mk (fun h2 => ?_) (fun h2 => ?_)
 ·rw [if_pos (.inr (of_decide_eq_true h2))]
  exact EndI.mk fun w9 h9 => rfl
 have h2 := of_decide_eq_false h2;rw [if_neg (fun h => h.elim h1 h2)]
 let p : Tbl -> Bool := fun t => decide (∃ (k : Nat) (l : List Zn × List Zn), ts[k]? = some t /\ ls[k]? = some l /\ Tb.tmay l.1 l.2 = false)
 have hp : ∀ (k : Nat) (t : Tbl) (l : List Zn × List Zn), ts[k]? = some t -> ls[k]? = some l -> p t = !Tb.tmay l.1 l.2 := fun k t l ht hl => by
  obtain ⟨u1, _, u2, _⟩ := hP.2 k t l ht hl;show decide _ = _;cases hm : Tb.tmay l.1 l.2 with
  | false => exact decide_eq_true ⟨k, l, ht, hl, hm⟩
  | true =>
    refine decide_eq_false ?_;rintro ⟨k', l', ht', hl', hm'⟩;obtain ⟨v1, _, v2, _⟩ := hP.2 k' t l' ht' hl';rw [Sl.inj zn_inj v1 u1, Sl.inj zn_inj v2 u2, hm] at hm';cases hm'
 have hany : ts.any p = ls.any fun x => !Tb.tmay x.1 x.2 := by
  rw [Bool.eq_iff_iff, List.any_eq_true, List.any_eq_true];constructor
  ·rintro ⟨t, ht, hpt⟩
   obtain ⟨k, hk⟩ := List.getElem?_of_mem ht;have hkl := (List.getElem?_eq_some_iff.1 hk).1;have hl := List.getElem?_eq_getElem (l := ls) (i := k) (by have := hP.1; omega);exact ⟨_, List.mem_of_getElem? hl, (hp k t _ hk hl).symm.trans hpt⟩
  ·rintro ⟨l, hl, hpl⟩
   obtain ⟨k, hk⟩ := List.getElem?_of_mem hl;have hkl := (List.getElem?_eq_some_iff.1 hk).1;have ht := List.getElem?_eq_getElem (l := ts) (i := k) (by have := hP.1; omega);exact ⟨_, List.mem_of_getElem? ht, (hp k _ l ht hk).trans hpl⟩
 have hcl : ∀ (w3 : World), Below w.heap.size w w3 -> ∀ (x : Tbl) (W : World), x ∈ ts -> Below w3.heap.size w3 W -> Calls Tryz.prog 62 #[.agg #[.slice x.a.a x.a.len x.a.cap, .slice x.n.a x.n.len x.n.cap]] W fun e W' => e = .returned (.bool (p x)) /\ Below W.heap.size W W' := fun w3 hw x W hx hB => by
  obtain ⟨k, hk⟩ := List.getElem?_of_mem hx;have hkl := (List.getElem?_eq_some_iff.1 hk).1;have hl := List.getElem?_eq_getElem (l := ls) (i := k) (by have := hP.1; omega);generalize ls[k]'(by have := hP.1; omega) = l at hl;obtain ⟨u1, e1, u2, e2⟩ := ((hP.go hw hw.size).go hB hB.size).2 k x l hk hl;rw [hp k x l hk hl];obtain ⟨⟨xa, xl, xc⟩, ⟨ya, yl, yc⟩⟩ := x;simp only at u1 e1 u2 e2;subst e1; subst e2;exact tasked1_any l.1 l.2 xa ya xc yc W u1 u2
 apply CallI.use1
 focus (exact fun w3 h3 => containsT_pure ts p a c 62 #[] w3 (Sl.at h3 hS) Tryz.call62 fun x W hx hB => hcl w3 h3.below x W hx hB)
 intro w3 v3 h3 hB3;rw [hany];refine Branch.mk (fun h4 => ?_) (fun h4 => ?_)
 ·rw [if_pos h4]
  exact EndI.mk fun w9 h9 => rfl
 ·rw [if_neg (by rw [h4]; decide)]
  exact EndI.mk fun w9 h9 => rfl
end
section
open Go.ChangeShapes Go.WideShapes Go.ChangeAt Go.RowKit Go.Deep Go.Proofs.YtanhnllkccldhaaGreat.Eng
section
variable {H : Type} {en : TypeId × Value -> H} {P : Program}
def OpensW (en : TypeId × Value -> H) (P : Program) (e : TypeId) (α : Type) [Enc α] (G : World -> α -> Prop) : Prop :=
 P.cellsOf e = Enc.size α /\ ∀ (W : World) (sp : Nat -> Bool) (hl : Bool) (fuel : Nat) (cs : List Value) (x : DataW H × List MemPlace), DataW.trod en P W 0 sp hl fuel e cs = some x -> ∃ y : α, cs = Enc.enc y /\ G W y
theorem open_listW {α : Type} [Enc α] {G : World -> α -> Prop} {t e : TypeId} (ht : P.underlying t = some (.slice e)) (ho : OpensW en P e α G) {W : World} {sp : Nat -> Bool} {hl : Bool} {fuel : Nat} {cs : List Value} {x : DataW H × List MemPlace}
 (h : DataW.trod en P W 0 sp hl fuel t cs = some x) :
 ∃ (a : Option Addr) (l : List α) (cap : Nat), cs = [.slice a l.length cap] /\ Sl W.heap.size W (.slice a l.length cap) l /\ ∀ y ∈ l, G W y := by
 obtain ⟨hc, ho⟩ := ho;rcases open_slice ht h with ⟨rfl, rfl⟩ | ⟨a, len, cap, m, n, D, Pl, rfl, hb, hl1, hm, hmm, rfl, hx⟩
 ·exact ⟨none, [], 0, rfl, Sl.nil, by simp⟩
 have hle : len <= m := by rw [hmm]; split <;> omega
 have key : ∀ i, i < len -> ∃ y : α, G W y /\ ∀ j c, (Enc.enc y)[j]? = some c -> W.cell? ((a.add (i * Enc.size α)).add j) = some c := by
  intro i hi;obtain ⟨cs', h1, h2⟩ := hx i (by omega);obtain ⟨y, rfl, hy⟩ := ho _ _ _ _ _ _ h2;obtain ⟨_, hlen, hcell⟩ := World.cells?_some h1;rw [hc] at hcell hlen;exact ⟨y, hy, fun j c hj => by rw [hcell j (by rw [<- Enc.len y]; exact (List.getElem?_eq_some_iff.1 hj).1), hj]⟩
 by_cases h0 : len = 0
 ·subst h0
  refine ⟨some a, [], cap, rfl, ⟨some a, cap, rfl, by simp, hm, by simp, by simp⟩, by simp⟩
 obtain ⟨y0, _⟩ := key 0 (by omega)
 haveI : Inhabited α := ⟨y0⟩
 obtain ⟨f, hf⟩ := choose_lt key;have hll : ((List.range len).map f).length = len := by simp
 obtain ⟨b, o, spot⟩ := a;have hsp : spot = none := by
  obtain ⟨_, h2⟩ := hf 0 (by omega);have hp := Enc.pos (α := α);rw [<- Enc.len (f 0)] at hp;have := World.cell?_spot (h2 0 _ (List.getElem?_eq_getElem hp))
  simpa [Addr.add] using this
 subst hsp;refine ⟨some ⟨b, o, none⟩, (List.range len).map f, cap, by rw [hll], ?_, ?_⟩
 ·refine ⟨some ⟨b, o, none⟩, cap, rfl, by rw [hll]; exact hl1, hm, by simp, fun k x hk => ?_⟩
  have hk' : k < len := by have := (List.getElem?_eq_some_iff.1 hk).1; simpa using this
  have hx' : x = f k := by simp [hk'] at hk; exact hk.symm
  subst hx';obtain ⟨_, h2⟩ := hf k hk';refine ⟨b, o, rfl, ?_, fun i c hi => ?_⟩
  ·have hp := Enc.pos (α := α)
   rw [<- Enc.len (f k)] at hp;have := World.block_lt_of_cell? W _ (h2 0 _ (List.getElem?_eq_getElem hp))
   simpa [addr_addL] using this
  ·have := h2 i c hi
   rw [addr_addL, addr_addL, Nat.add_assoc] at this;exact this
 ·intro y hy
  obtain ⟨i, hi, rfl⟩ := List.mem_map.1 hy;exact (hf i (List.mem_range.1 hi)).1
theorem open_lstW {α : Type} [Enc α] {G : World -> α -> Prop} {t e : TypeId} {r : Reach} {b0 : Nat} {v : Value} {d : DataW H} {ps : List MemPlace} {W : World} {sp : Nat -> Bool} {hl : Bool} (ht : P.underlying t = some (.slice e)) (ho : OpensW en P e α G)
 (hval : Value.okWide P W r b0 t v) (hd : DataW.Trod en P W 0 sp hl t v d ps) :
 ∃ a l cap, v = .slice a (l : List α).length cap /\ Sl W.heap.size W (.slice a l.length cap) l /\ ∀ y ∈ l, G W y := by
 obtain ⟨a', len, cap', rfl⟩ := okWide_slice ht hval;obtain ⟨fuel, hf⟩ := hd;obtain ⟨a, l, cap, e1, hS, hG⟩ := open_listW ht ho hf;simp [Value.cells] at e1;obtain ⟨rfl, rfl, rfl⟩ := e1;exact ⟨_, l, _, rfl, hS, hG⟩
theorem Tb.ins_i64 {z : Zn} (h : Zn.ins z) : Zo.i64 z := by
 obtain ⟨h1, h2, h3, h4, h5, h6⟩ := h;simp only [inK] at h1 h2 h3 h4 h5 h6;intro b hb;unfold Zo.matL at hb;unfold Dbm.int64;simp only [List.mem_cons, List.not_mem_nil, or_false] at hb;omega
def TblG (W : World) (t : Tbl) : Prop := ∃ p q : List Zn, Sl W.heap.size W (.slice t.a.a t.a.len t.a.cap) p /\ t.a.len = p.length /\ (∀ z ∈ p, z.ins) /\ Sl W.heap.size W (.slice t.n.a t.n.len t.n.cap) q /\ t.n.len = q.length /\ ∀ z ∈ q, z.ins
theorem opens_tbl {e ez : TypeId} {f0 f1 : Field} (he : P.underlying e = some (.struct #[f0, f1])) (hc : P.cellsOf e = 2) (h0 : f0.offset = 0) (h1 : f1.offset = 1) (c0 : P.cellsOf f0.type = 1) (c1 : P.cellsOf f1.type = 1)
 (t0 : P.underlying f0.type = some (.slice ez)) (t1 : P.underlying f1.type = some (.slice ez)) (oz : Opens en P ez Zn Zn.ins) : OpensW en P e Tbl TblG := by
 refine ⟨hc, fun W sp hl fuel cs x h => ?_⟩;obtain ⟨y0, y1, n, rfl, hlen, k0, k1⟩ := trod_struct2 he h;rw [hc] at hlen
 match cs, hlen with
 | [a, b], _ =>
   rw [h0, c0] at k0;rw [h1, c1] at k1;obtain ⟨pa, p, ca, e0, hS, hG⟩ := open_list t0 oz k0;obtain ⟨qa, q, cq, e1, hT, hH⟩ := open_list t1 oz k1;simp at e0 e1;subst e0; subst e1;exact ⟨⟨⟨pa, p.length, ca⟩, ⟨qa, q.length, cq⟩⟩, rfl, p, q, hS, rfl, hG, hT, rfl, hH⟩
end
theorem parts_of (W : World) : ∀ ts : List Tbl, (∀ t ∈ ts, TblG W t) -> ∃ ls : List (List Zn × List Zn), Tb.Parts W.heap.size W ts ls /\ ∀ x ∈ ls, (∀ z ∈ x.1, z.ins) /\ ∀ z ∈ x.2, z.ins
 | [], _ => ⟨[], ⟨rfl, fun k t l h => by simp at h⟩, by simp⟩
 | t :: ts, h => by
   obtain ⟨ls, ⟨h1, h2⟩, h3⟩ := parts_of W ts fun x hx => h x (by simp [hx]);obtain ⟨p, q, hS, ep, ip, hT, eq, iq⟩ := h t (by simp);refine ⟨(p, q) :: ls, ⟨by simp [h1], fun k t' l ht hl => ?_⟩, fun x hx => ?_⟩
   ·cases k with
    | zero =>
      simp at ht hl;subst ht; subst hl;exact ⟨hS, ep, hT, eq⟩
    | succ k =>
      simp at ht hl;exact h2 k t' l ht hl
   ·rcases List.mem_cons.1 hx with rfl | hx
    ·exact ⟨ip, iq⟩
    ·exact h3 x hx
end
section
open Go.RowKit Go.Proofs.YtanhnllkccldhaaGreat.Eng Enc
namespace Mi
open Dbm
def Sm (S : Int) (z : Zn) : Prop := ∀ k, k < 6 -> Zo.get z k <= S
theorem get_mayC {z : Zn} (h : chk 3 (Zo.matL z) = 0) {k : Nat} (hk : k < 6) : mayC (Zo.get z k) = true := by
 obtain ⟨_, _, _, h4⟩ := chk_iff.1 h;simp only [Zo.matL, List.any_cons, List.any_nil, Bool.or_false, Bool.or_eq_false_iff, Bool.not_eq_false'] at h4;obtain ⟨_, h1, h2, h3, _, h5, h6, h7, _⟩ := h4;rcases six hk with rfl | rfl | rfl | rfl | rfl | rfl <;> assumption
theorem chk_of_get {z : Zn} (h : ∀ k, k < 6 -> mayC (Zo.get z k) = true) : chk 3 (Zo.matL z) = 0 := by
 have h0 : mayC z.a = true := h 0 (by decide);have h1 : mayC z.b = true := h 1 (by decide);have h2 : mayC z.c = true := h 2 (by decide);have h3 : mayC z.d = true := h 3 (by decide);have h4 : mayC z.e = true := h 4 (by decide);have h5 : mayC z.f = true := h 5 (by decide);have h6 : mayC 1 = true := by decide
 refine chk_iff.2 ⟨by decide, by decide, by simp [Zo.matL], ?_⟩;simp [Zo.matL, h0, h1, h2, h3, h4, h5, h6]
theorem mayC_iff {b : Int} : mayC b = true ↔ b = NO \/ (-288230376151711744 <= b / 2 /\ b / 2 <= 288230376151711744) := by
 unfold mayC NO;simp
theorem of_sm {L : List Int} {S : Int} (h0 : chk 3 L = 0) (hS : 0 <= S /\ S <= 288230376151711744) (h : ∀ i j, i < 3 -> j < 3 -> i ≠ j -> L[i * 3 + j]?.getD 0 <= S) :
 (Zo.of 3 L).2 = 6 \/ ((Zo.of 3 L).2 = 0 /\ Clo 3 (Zo.matL (Zo.of 3 L).1) /\ ∀ i j, i < 3 -> j < 3 -> i ≠ j -> (Zo.matL (Zo.of 3 L).1)[i * 3 + j]?.getD 0 <= L[i * 3 + j]?.getD 0) := by
 unfold Zo.of;rw [if_pos h0, if_pos rfl];have hcl : close 3 L = (match closeL 3 L with | some L' => (3, L', 0) | none => (0, [], 6)) := by unfold close; rw [if_pos h0]; rfl
 cases hC : closeL 3 L with
 | none => rw [hC] at hcl; rw [hcl]; left; rfl
 | some C =>
   right;rw [hC] at hcl;rw [hcl, if_pos rfl];obtain ⟨L1, a2, a3, inv, hl, hE⟩ := close_inv h0 hC;have clo := close_clo h0 hC;have low : ∀ i j, i < 3 -> j < 3 -> i ≠ j -> C[i * 3 + j]?.getD 0 <= L[i * 3 + j]?.getD 0 /\ C[i * 3 + j]?.getD 0 ≠ NO := fun i j hi hj hne => by
    have h1 := inv.low i j hi hj;have h2 := h i j hi hj hne;have hno : L[i * 3 + j]?.getD 0 ≠ NO := fun e => by rw [e] at h2; unfold NO at h2; omega
    have h3 : mx 3 L1 i j = some (L[i * 3 + j]?.getD 0) := by
     unfold mx ob;rw [a3 i j hi hj, if_neg hne, if_neg hno]
    rw [h3] at h1;cases hv : mx 3 C i j with
    | none => rw [hv] at h1; exact h1.elim
    | some v =>
      rw [hv] at h1;obtain ⟨e1, e2⟩ := mx_some hv;rw [e1];exact ⟨h1, e2⟩
   have hmay : ∀ i j, i < 3 -> j < 3 -> mayC (C[i * 3 + j]?.getD 0) = true := fun i j hi hj => by
    by_cases e : i = j
    ·subst e
     rw [clo.diag i hi]; decide
    ·obtain ⟨l1, l2⟩ := low i j hi hj e
     obtain ⟨l3, l4⟩ := low j i hj hi (fun h => e h.symm);have s1 := h i j hi hj e;have s2 := h j i hj hi (fun h => e h.symm);have h3 := clo.tri i i j hi hi hj;have m1 : mx 3 C i i = some 1 := by unfold mx; rw [clo.diag i hi]; rfl
     have m2 : mx 3 C i j = some (C[i * 3 + j]?.getD 0) := by unfold mx ob; rw [if_neg l2]
     have m3 : mx 3 C j i = some (C[j * 3 + i]?.getD 0) := by unfold mx ob; rw [if_neg l4]
     rw [m1, m2, m3] at h3;have h4 : (1 : Int) <= bsum (C[i * 3 + j]?.getD 0) (C[j * 3 + i]?.getD 0) := h3;have h5 := bsum_half (C[i * 3 + j]?.getD 0) (C[j * 3 + i]?.getD 0);exact mayC_iff.2 (.inr (by omega))
   have hlen : C.length = 9 := clo.len;have h1 : chk 3 C = 0 := by
    refine chk_iff.2 ⟨by decide, by decide, by rw [hlen]; decide, ?_⟩;rw [List.any_eq_false];intro b hb;obtain ⟨q, hq, rfl⟩ := List.getElem_of_mem hb;have := hmay (q / 3) (q % 3) (by omega) (by omega);rw [show q / 3 * 3 + q % 3 = q by omega, List.getElem?_eq_getElem hq] at this
    simpa using this
   have e1 : (Zo.told (3, C, (0 : Int)).2.1) = (Zo.ofL C, 0) := by unfold Zo.told; exact if_pos h1
   have hm : Zo.matL (Zo.ofL C) = C := by
    have d0 := clo.diag 0 (by decide);have d1 := clo.diag 1 (by decide);have d2 := clo.diag 2 (by decide)
    match C, hlen with
    | [c0, c1, c2, c3, c4, c5, c6, c7, c8], _ =>
      simp at d0 d1 d2;subst d0; subst d1; subst d2
      rfl
   rw [e1];refine ⟨rfl, ?_, fun i j hi hj hne => ?_⟩
   ·rw [hm]; exact clo
   ·rw [hm]; exact (low i j hi hj hne).1
theorem get_of_mat {z y : Zn} (h : ∀ i j, i < 3 -> j < 3 -> i ≠ j -> (Zo.matL z)[i * 3 + j]?.getD 0 <= (Zo.matL y)[i * 3 + j]?.getD 0) : ∀ k, k < 6 -> Zo.get z k <= Zo.get y k := fun k hk => by
 rcases six hk with rfl | rfl | rfl | rfl | rfl | rfl
 ·exact h 1 0 (by decide) (by decide) (by decide)
 ·exact h 0 1 (by decide) (by decide) (by decide)
 ·exact h 2 0 (by decide) (by decide) (by decide)
 ·exact h 0 2 (by decide) (by decide) (by decide)
 ·exact h 2 1 (by decide) (by decide) (by decide)
 ·exact h 1 2 (by decide) (by decide) (by decide)
theorem mat_of_get {z : Zn} {S : Int} (h : Sm S z) : ∀ i j, i < 3 -> j < 3 -> i ≠ j -> (Zo.matL z)[i * 3 + j]?.getD 0 <= S := fun i j hi hj hne => by
 rcases (by omega : i = 0 \/ i = 1 \/ i = 2) with rfl | rfl | rfl <;> rcases (by omega : j = 0 \/ j = 1 \/ j = 2) with rfl | rfl | rfl <;> first
  | exact absurd rfl hne
  | exact h 0 (by decide)
  | exact h 1 (by decide)
  | exact h 2 (by decide)
  | exact h 3 (by decide)
  | exact h 4 (by decide)
  | exact h 5 (by decide)
theorem min_mayC {x y : Int} (hx : mayC x = true) (hy : mayC y = true) : mayC (min x y) = true := by
 rcases Int.le_total x y with h | h
 ·rw [Int.min_eq_left h]; exact hx
 ·rw [Int.min_eq_right h]; exact hy
theorem wth_sm {z : Zn} {S : Int} (hS : 0 <= S /\ S <= 288230376151711744) (hz : Zo.chk z = 0) (hs : Sm S z) {i : Nat} (hi : i < 6) {b : Int} (hb : mayC b = true) :
 (wth z i b).2 = 6 \/ ((wth z i b).2 = 0 /\ ∀ k, k < 6 -> Zo.get (wth z i b).1 k <= Zo.get z k) := by
 have hcut : ∀ k, k < 6 -> Zo.get (cut z i b) k = if k = i then min (Zo.get z i) b else Zo.get z k := fun k hk => by unfold cut; exact get_set z hi hk _
 have hle : ∀ k, k < 6 -> Zo.get (cut z i b) k <= Zo.get z k := fun k hk => by
  rw [hcut k hk];split
  ·rename_i e; rw [e]; omega
  ·omega
 have h0 : chk 3 (Zo.matL (cut z i b)) = 0 := chk_of_get fun k hk => by
  rw [hcut k hk];split
  ·exact min_mayC (get_mayC (Zo.clo hz).1 hi) hb
  ·exact get_mayC (Zo.clo hz).1 hk
 unfold wth;rw [if_pos h0];rcases of_sm h0 hS (mat_of_get fun k hk => Int.le_trans (hle k hk) (hs k hk)) with h | ⟨h1, _, h3⟩
 ·exact .inl h
 ·exact .inr ⟨h1, fun k hk => Int.le_trans (get_of_mat h3 k hk) (hle k hk)⟩
theorem not_mayK {b : Int} (h : (Bd.not b).2 = 0) (hl : lim 288230376151711744 b) : mayC (Bd.not b).1 = true := by
 unfold Bd.not at h ⊢
 by_cases hn : b = NO
 ·subst hn
  rw [Incl.value_no] at h;rw [if_neg (by decide)] at h; cases h
 rw [Incl.value_of hl hn] at h ⊢;have hb := hl.resolve_left hn;have hok : Num.okB (-(b / 2)) = true := Num.okB_iff.2 (by omega);simp only [if_true] at h ⊢;unfold Bd.made at h ⊢;rw [if_pos hok] at h ⊢;simp only;refine mayC_iff.2 (.inr ?_);unfold Bd.mk;split <;> omega
def Dj (x y : Zn) : Prop := ∀ t, ¬ (Fz x t /\ Fz y t)
theorem go_sm {b : Zn} {S : Int} (hS : 0 <= S /\ S <= 288230376151711744) (hb : Zo.chk b = 0) : ∀ (l : List Nat) (x : Zn), (∀ i, i ∈ l -> i < 6) -> Zo.chk x = 0 -> Sm S x ->
 (∀ y, y ∈ go b l x -> y.2 = 0 /\ ∀ k, k < 6 -> Zo.get y.1 k <= Zo.get x k) /\ ((go b l x).map (·.1)).Pairwise Dj
 | [], x, _, _, _ => ⟨fun y hy => by simp [go] at hy, by simp [go]⟩
 | i :: l, x, hl, hx, hs => by
   have hi := hl i (by simp);have hll : ∀ j, j ∈ l -> j < 6 := fun j hj => hl j (by simp [hj]);have hcb := (Zo.clo hb).1;unfold go
   by_cases hn : (Bd.not (Zo.get b i)).2 ≠ 0
   ·rw [if_pos hn]
    exact go_sm hS hb l x hll hx hs
   rw [if_neg hn];have hn : (Bd.not (Zo.get b i)).2 = 0 := by simpa using hn
   obtain ⟨n1, n2, n3⟩ := not_lt hn (get_lim hcb hi);have ho : other i < 6 := by unfold other; split <;> omega
   have hA := wth_sm hS hx hs ho (not_mayK hn (get_lim hcb hi));have hB := wth_sm hS hx hs hi (get_mayC hcb hi)
   -- the first one
   have first : ∀ y, y ∈ (if (wth x (other i) (Bd.not (Zo.get b i)).1).2 = 6 then [] else [wth x (other i) (Bd.not (Zo.get b i)).1]) -> (y.2 = 0 /\ ∀ k, k < 6 -> Zo.get y.1 k <= Zo.get x k) /\ ∀ t, Fz y.1 t -> ¬ satO (dif i t) (ob (Zo.get b i)) := fun y hy => by
    rcases hA with hA | ⟨hA1, hA2⟩
    ·rw [if_pos hA] at hy; simp at hy
    ·rw [if_neg (by rw [hA1]; decide)] at hy
     rw [List.mem_singleton.1 hy];refine ⟨⟨hA1, hA2⟩, fun t ht => ?_⟩;have := ((wth_ok (Zo.clo hx).1 ho (.inr n2) hA1).2 t).1 ht;rw [dif_other hi] at this;exact (n3 _).1 this.2
   have hfd : ((if (wth x (other i) (Bd.not (Zo.get b i)).1).2 = 6 then [] else [wth x (other i) (Bd.not (Zo.get b i)).1]).map (·.1)).Pairwise Dj := by
    split <;> simp
   rcases hB with hB | ⟨hB1, hB2⟩
   ·rw [if_pos (show (wth x i (Zo.get b i)).2 = 6 from hB), List.append_nil]
    exact ⟨fun y hy => (first y hy).1, hfd⟩
   ·rw [if_neg (show ¬ (wth x i (Zo.get b i)).2 = 6 by rw [hB1]; decide), if_pos hB1, List.nil_append]
    obtain ⟨w1, w2⟩ := wth_ok (Zo.clo hx).1 hi (lim_lt (get_lim hcb hi) (by omega)) hB1;obtain ⟨g1, g2⟩ := go_sm hS hb l _ hll w1 (fun k hk => Int.le_trans (hB2 k hk) (hs k hk));refine ⟨fun y hy => ?_, ?_⟩
    ·rcases List.mem_append.1 hy with hy | hy
     ·exact (first y hy).1
     ·exact ⟨(g1 y hy).1, fun k hk => Int.le_trans ((g1 y hy).2 k hk) (hB2 k hk)⟩
    ·rw [List.map_append, List.pairwise_append]
     refine ⟨hfd, g2, fun u hu v hv t ht => ?_⟩;obtain ⟨u', hu', rfl⟩ := List.mem_map.1 hu;obtain ⟨v', hv', rfl⟩ := List.mem_map.1 hv;have := (go_ok hcb l _ hll (Zo.clo w1).1 (fun y hy => (g1 y hy).1) v' hv').2 t ht.2;exact (first u' hu').2 t ht.1 ((w2 t).1 this.1).2
theorem minus_sm {a b : Zn} {S : Int} (hS : 0 <= S /\ S <= 288230376151711744) (ha : Zo.chk a = 0) (hb : Zo.chk b = 0) (hs : Sm S a) :
 (minus a b).2 = 0 /\ (∀ y, y ∈ (minus a b).1 -> ∀ k, k < 6 -> Zo.get y k <= Zo.get a k) /\ (minus a b).1.Pairwise Dj := by
 obtain ⟨g1, g2⟩ := go_sm hS hb [0, 1, 2, 3, 4, 5] a (by simp) ha hs;unfold minus;rw [if_pos ⟨ha, hb⟩];have hf : (parts a b).find? (fun x => decide (x.2 ≠ 0)) = none := List.find?_eq_none.2 fun x hx => by simp [(g1 x hx).1]
 rw [hf];refine ⟨rfl, fun y hy => ?_, g2⟩;obtain ⟨x, hx, rfl⟩ := List.mem_map.1 hy;exact (g1 x hx).2
end Mi
namespace Ky
open Dbm Mi
def fr (x : Rat) : Rat := x - (x.floor : Rat)
theorem fr_nonneg (x : Rat) : 0 <= fr x := by unfold fr; have := Rat.floor_le x; grind
theorem fr_lt (x : Rat) : fr x < 1 := by unfold fr; have := Rat.lt_floor_add_one x; rw [Rat.intCast_add] at this; have h : ((1 : Int) : Rat) = 1 := rfl; rw [h] at this; grind
theorem eq_fr (x : Rat) : x = (x.floor : Rat) + fr x := by unfold fr; grind
theorem le_key (x y : Rat) (c : Int) : x - y <= (c : Rat) ↔ x.floor - y.floor < c \/ (x.floor - y.floor = c /\ fr x <= fr y) := by
 have e1 := eq_fr x;have e2 := eq_fr y;have a1 := fr_nonneg x;have a2 := fr_nonneg y;have b1 := fr_lt x;have b2 := fr_lt y;have e3 : ((x.floor - y.floor : Int) : Rat) = (x.floor : Rat) - (y.floor : Rat) := Rat.intCast_sub ..;rcases Int.lt_trichotomy (x.floor - y.floor) c with h | h | h
 ·have h1 : ((x.floor - y.floor + 1 : Int) : Rat) <= (c : Rat) := by exact_mod_cast (by omega : x.floor - y.floor + 1 <= c)
  rw [Rat.intCast_add, e3] at h1;have h2 : ((1 : Int) : Rat) = 1 := rfl;rw [h2] at h1;exact ⟨fun _ => .inl h, fun _ => by grind⟩
 ·have h1 : ((x.floor - y.floor : Int) : Rat) = (c : Rat) := by rw [h]
  rw [e3] at h1;constructor
  ·intro k; exact .inr ⟨h, by grind⟩
  ·rintro (k | ⟨_, k⟩)
   ·omega
   ·grind
 ·have h1 : ((c + 1 : Int) : Rat) <= ((x.floor - y.floor : Int) : Rat) := by exact_mod_cast (by omega : c + 1 <= x.floor - y.floor)
  rw [Rat.intCast_add, e3] at h1;have h2 : ((1 : Int) : Rat) = 1 := rfl;rw [h2] at h1;constructor
  ·intro k; exfalso; grind
  ·rintro (k | ⟨k, _⟩) <;> omega
theorem lt_key (x y : Rat) (c : Int) : x - y < (c : Rat) ↔ x.floor - y.floor < c \/ (x.floor - y.floor = c /\ fr x < fr y) := by
 have e1 := eq_fr x;have e2 := eq_fr y;have a1 := fr_nonneg x;have a2 := fr_nonneg y;have b1 := fr_lt x;have b2 := fr_lt y;have e3 : ((x.floor - y.floor : Int) : Rat) = (x.floor : Rat) - (y.floor : Rat) := Rat.intCast_sub ..;rcases Int.lt_trichotomy (x.floor - y.floor) c with h | h | h
 ·have h1 : ((x.floor - y.floor + 1 : Int) : Rat) <= (c : Rat) := by exact_mod_cast (by omega : x.floor - y.floor + 1 <= c)
  rw [Rat.intCast_add, e3] at h1;have h2 : ((1 : Int) : Rat) = 1 := rfl;rw [h2] at h1;exact ⟨fun _ => .inl h, fun _ => by grind⟩
 ·have h1 : ((x.floor - y.floor : Int) : Rat) = (c : Rat) := by rw [h]
  rw [e3] at h1;constructor
  ·intro k; exact .inr ⟨h, by grind⟩
  ·rintro (k | ⟨_, k⟩)
   ·omega
   ·grind
 ·have h1 : ((c + 1 : Int) : Rat) <= ((x.floor - y.floor : Int) : Rat) := by exact_mod_cast (by omega : c + 1 <= x.floor - y.floor)
  rw [Rat.intCast_add, e3] at h1;have h2 : ((1 : Int) : Rat) = 1 := rfl;rw [h2] at h1;constructor
  ·intro k; exfalso; grind
  ·rintro (k | ⟨k, _⟩) <;> omega
theorem sat_key {x y x' y' : Rat} (h1 : x.floor - y.floor = x'.floor - y'.floor) (h2 : fr x <= fr y ↔ fr x' <= fr y') (h3 : fr y <= fr x ↔ fr y' <= fr x') (b : OB) : satO (x - y) b ↔ satO (x' - y') b := by
 cases b with
 | none => exact Iff.rfl
 | some v =>
   unfold satO;simp only;split
   ·rw [lt_key, lt_key, h1]
    have : fr x < fr y ↔ fr x' < fr y' := by rw [<- Rat.not_le, <- Rat.not_le, h3]
    rw [this]
   ·rw [le_key, le_key, h1, h2]
structure Alike (t t' : Nat -> Rat) : Prop where
 fl : ∀ i, i < 3 -> (t i).floor - (t 0).floor = (t' i).floor - (t' 0).floor
 le : ∀ i j, i < 3 -> j < 3 -> (fr (t i) <= fr (t j) ↔ fr (t' i) <= fr (t' j))
theorem Alike.fz {t t' : Nat -> Rat} (h : Alike t t') (z : Zn) : Fz z t ↔ Fz z t' := by
 constructor
 ·intro k i j hi hj
  exact (sat_key (by have := h.fl i hi; have := h.fl j hj; omega) (h.le i j hi hj) (h.le j i hj hi) _).1 (k i j hi hj)
 ·intro k i j hi hj
  exact (sat_key (by have := h.fl i hi; have := h.fl j hj; omega) (h.le i j hi hj) (h.le j i hj hi) _).2 (k i j hi hj)
theorem fr_int (n : Int) : fr (n : Rat) = 0 := by unfold fr; rw [Rat.floor_intCast]; grind
theorem fz_shift (z : Zn) (t : Nat -> Rat) (c : Rat) : Fz z t ↔ Fz z (fun i => t i - c) := by
 unfold Fz Dbm.Fits;constructor
 ·intro h i j hi hj
  have := h i j hi hj
  rwa [show t i - c - (t j - c) = t i - t j by grind]
 ·intro h i j hi hj
  have := h i j hi hj
  rwa [show t i - c - (t j - c) = t i - t j by grind] at this
theorem sixth_of {p q r : Rat} (hp : p = 0 \/ p = 1/3 \/ p = 1/2 \/ p = 2/3) (hq : q = 0 \/ q = 1/3 \/ q = 1/2 \/ q = 2/3) (hpq : (p = 1/2 -> q = 0 \/ q = 1/2) /\ (q = 1/2 -> p = 0 \/ p = 1/2)) (h0 : 0 <= r) (h1 : r < 1) :
 ∃ g : Nat, g < 6 /\ ((r <= p ↔ (g : Rat) / 6 <= p) /\ (p <= r ↔ p <= (g : Rat) / 6) /\ (r <= q ↔ (g : Rat) / 6 <= q) /\ (q <= r ↔ q <= (g : Rat) / 6) /\ (r <= 0 ↔ (g : Rat) / 6 <= 0)) := by
 have c0 : ((0 : Nat) : Rat) / 6 = 0 := by decide +kernel
 have c1 : ((1 : Nat) : Rat) / 6 = 1/6 := by decide +kernel
 have c2 : ((2 : Nat) : Rat) / 6 = 1/3 := by decide +kernel
 have c3 : ((3 : Nat) : Rat) / 6 = 1/2 := by decide +kernel
 have c4 : ((4 : Nat) : Rat) / 6 = 2/3 := by decide +kernel
 have c5 : ((5 : Nat) : Rat) / 6 = 5/6 := by decide +kernel
 by_cases e0 : r = 0
 ·exact ⟨0, by omega, by rw [c0, e0]; exact ⟨Iff.rfl, Iff.rfl, Iff.rfl, Iff.rfl, Iff.rfl⟩⟩
 by_cases e1 : r = p
 ·rcases hp with rfl | rfl | rfl | rfl
  ·exact absurd e1 e0
  ·exact ⟨2, by omega, by rw [c2, e1]; exact ⟨Iff.rfl, Iff.rfl, Iff.rfl, Iff.rfl, Iff.rfl⟩⟩
  ·exact ⟨3, by omega, by rw [c3, e1]; exact ⟨Iff.rfl, Iff.rfl, Iff.rfl, Iff.rfl, Iff.rfl⟩⟩
  ·exact ⟨4, by omega, by rw [c4, e1]; exact ⟨Iff.rfl, Iff.rfl, Iff.rfl, Iff.rfl, Iff.rfl⟩⟩
 by_cases e2 : r = q
 ·rcases hq with rfl | rfl | rfl | rfl
  ·exact absurd e2 e0
  ·exact ⟨2, by omega, by rw [c2, e2]; exact ⟨Iff.rfl, Iff.rfl, Iff.rfl, Iff.rfl, Iff.rfl⟩⟩
  ·exact ⟨3, by omega, by rw [c3, e2]; exact ⟨Iff.rfl, Iff.rfl, Iff.rfl, Iff.rfl, Iff.rfl⟩⟩
  ·exact ⟨4, by omega, by rw [c4, e2]; exact ⟨Iff.rfl, Iff.rfl, Iff.rfl, Iff.rfl, Iff.rfl⟩⟩
 have hr0 : 0 < r := by grind
 by_cases l1 : r < 1/3
 ·refine ⟨1, by omega, ?_⟩
  rw [c1];rcases hp with rfl | rfl | rfl | rfl <;> rcases hq with rfl | rfl | rfl | rfl <;> grind
 by_cases l2 : r < 2/3
 ·by_cases l3 : r < 1/2
  ·by_cases k : p = 1/2 \/ q = 1/2
   ·refine ⟨1, by omega, ?_⟩
    rw [c1];rcases hp with rfl | rfl | rfl | rfl <;> rcases hq with rfl | rfl | rfl | rfl <;> grind
   ·refine ⟨3, by omega, ?_⟩
    rw [c3];rcases hp with rfl | rfl | rfl | rfl <;> rcases hq with rfl | rfl | rfl | rfl <;> grind
  ·by_cases k : p = 1/2 \/ q = 1/2
   ·refine ⟨5, by omega, ?_⟩
    rw [c5];rcases hp with rfl | rfl | rfl | rfl <;> rcases hq with rfl | rfl | rfl | rfl <;> grind
   ·refine ⟨3, by omega, ?_⟩
    rw [c3];rcases hp with rfl | rfl | rfl | rfl <;> rcases hq with rfl | rfl | rfl | rfl <;> grind
 ·refine ⟨5, by omega, ?_⟩
  rw [c5];rcases hp with rfl | rfl | rfl | rfl <;> rcases hq with rfl | rfl | rfl | rfl <;> grind
theorem fl_add {n : Int} {g : Rat} (h0 : 0 <= g) (h1 : g < 1) : ((n : Rat) + g).floor = n /\ fr ((n : Rat) + g) = g := by
 have hf : ((n : Rat) + g).floor = n := by
  apply Int.le_antisymm
  ·have : ((n : Rat) + g).floor < n + 1 := Rat.floor_lt_iff.2 (by rw [Rat.intCast_add]; have h : ((1 : Int) : Rat) = 1 := rfl; rw [h]; grind)
   omega
  ·exact Rat.le_floor_iff.2 (by grind)
 exact ⟨hf, by unfold fr; rw [hf]; grind⟩
end Ky
end
end Go.Proofs.YtanhnllkccldhaaGreat
