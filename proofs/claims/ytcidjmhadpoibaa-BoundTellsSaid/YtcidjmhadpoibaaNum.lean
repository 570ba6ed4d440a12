/-
  The contracts of package num: what Check, sums, Sum, Add, Neg, Sub and Clamp give at every argument, over this seat's translation.
-/
import Derived.Test.YtcidjmhadpoibaaRows
import Derived.WalkKit
import Derived.Lib.Hide
import Derived.RangeFuncNested
import Derived.RangeFuncBound
import Derived.RangeFuncCalls
import Derived.RangeFuncLeaves
import Derived.RangeFuncWrites
import Derived.RangeFuncBox
import Derived.Shelf.Abstract
import Derived.Shelf.RegionOpen
import Derived.OwnWalkIn
import Derived.TacticsInMore
import Derived.LoopNIn
import Derived.LoopIn
import Derived.Test.YtcidjmhadpoibaaPlainNum
import Derived.Test.YtcidjmhadpoibaaRange
import Derived.Test.YtcidjmhadpoibaaMem
namespace Go.Proofs.Ytcidjmhadpoibaa
set_option linter.unusedVariables false
open Go.RowKit Go.Shelf
attribute [local go_sem] Oper.semAt_some

theorem check_yes (a : Int) (h1 : -2305843009213693952 ≤ a) (h2 : a ≤ 2305843009213693952) (w : World) :
    Calls Try.prog 18 #[.int .i64 a] w fun e w' => e = .returned (.int .i64 0) ∧ w = w' := by
  go_enter Try.func18, Try.ntmps18
  go_wp2
  go_ret
  exact ⟨rfl, rfl⟩

theorem check_no (a : Int) (h : a < -2305843009213693952 ∨ 2305843009213693952 < a) (w : World) :
    Calls Try.prog 18 #[.int .i64 a] w fun e w' => e = .returned (.int .i64 10) ∧ w = w' := by
  rcases h with h | h
  · go_enter Try.func18, Try.ntmps18
    go_wp2
    go_ret
    exact ⟨rfl, rfl⟩
  · have h' : ¬ a < -2305843009213693952 := by omega
    go_enter Try.func18, Try.ntmps18
    go_wp2
    go_ret
    exact ⟨rfl, rfl⟩


theorem check_any (a : Int) (w : World) :
    Calls Try.prog 18 #[.int .i64 a] w fun e w' => e = .returned (.int .i64 (Num.chk a)) ∧ w = w' := by
  by_cases h : Num.okB a = true
  · rw [Num.chk_yes h]; exact check_yes a (Num.okB_iff.1 h).1 (Num.okB_iff.1 h).2 w
  · rw [Num.chk_no (by simpa using h)]; exact check_no a (Num.okB_no.1 (by simpa using h)) w

/-- The slice value sv holds the ints zs, in a block below n; or it is empty. -/
def Ints (n : Nat) (W : World) (sv : Value) (zs : List Int) : Prop :=
  (∃ a cap, sv = .slice a 0 cap ∧ (a = none → cap = 0) ∧ zs = []) ∨ ∃ b off cap, sv = .slice (some ⟨b, off, none⟩) zs.length cap ∧ b < n ∧ ∀ j, j < zs.length → W.cell? ⟨b, off + j, none⟩ = some (.int .i64 (zs[j]?.getD 0))
theorem Ints.below {n : Nat} {A B : World} (h : Below n A B) {sv : Value} {zs : List Int} : Ints n A sv zs → Ints n B sv zs
  | .inl e => .inl e
  | .inr ⟨b, off, cap, e, hb, hc⟩ => .inr ⟨b, off, cap, e, hb, fun j hj => (h.cell (p := ⟨b, off + j, none⟩) hb).trans (hc j hj)⟩
theorem Ints.upto {n m : Nat} {A : World} (h : n ≤ m) {sv : Value} {zs : List Int} : Ints n A sv zs → Ints m A sv zs
  | .inl e => .inl e
  | .inr ⟨b, off, cap, e, hb, hc⟩ => .inr ⟨b, off, cap, e, Nat.lt_of_lt_of_le hb h, hc⟩

theorem Ints.src {n : Nat} {W : World} {sv : Value} {zs : List Int} (h : Ints n W sv zs) : Src W sv 1 zs.length (zs.map (Value.int .i64)) := by
  rcases h with ⟨a, cap, rfl, hn, rfl⟩ | ⟨b, off, cap, rfl, hb, hc⟩
  · refine ⟨rfl, ?_⟩
    cases a with
    | none => obtain rfl := hn rfl; exact .inl ⟨rfl, rfl⟩
    | some ad => exact .inr ⟨ad, cap, rfl, fun j u hu => by simp at hu⟩
  · refine ⟨by simp, .inr ⟨⟨b, off, none⟩, cap, rfl, fun j u hu => ?_⟩⟩
    rw [List.getElem?_map] at hu
    cases hz : zs[j]? with
    | none => rw [hz] at hu; cases hu
    | some z =>
      rw [hz] at hu
      have hj : j < zs.length := (List.getElem?_eq_some_iff.1 hz).1
      have := hc j hj
      rw [hz] at this
      rw [Addr.add_lit, this]
      exact hu
theorem Ints.owned {W : World} {base : Nat} {e : TypeId} {sv : Value} {zs : List Int} (h : W.ownsRow base e 1 sv zs.length (zs.map (Value.int .i64))) : Ints W.heap.size W sv zs := by
  obtain ⟨_, ⟨rfl, h0⟩ | ⟨g, cap, cur, rfl, _, hg, _, _, _, _⟩⟩ := id h
  · exact .inl ⟨_, _, by rfl, fun _ => rfl, List.eq_nil_of_length_eq_zero h0⟩
  · refine .inr ⟨g, 0, cap, rfl, (Array.getElem?_eq_some_iff.1 hg).1, fun j hj => ?_⟩
    have := h.cells (g := g) rfl j (.int .i64 (zs[j]?.getD 0)) (by rw [List.getElem?_map]; simp [hj])
    rwa [Addr.add_lit] at this

/-- sums(l): the list is boxed; the closure captures the box. -/
theorem sums_any (a : Option Addr) (len cap : Nat) (w : World) :
    CallsIn Fence.wide 8 Try.prog 42 #[.slice a len cap] w fun e w' => e = .returned (.func (.func 53) #[] #[.pointer (some ⟨w.heap.size, 0, none⟩)]) ∧ w' = w.alloc (.cells #[.slice a len cap] 22) := by
  refine callsIn_of_wp Try.func42 rfl trivial ?_ rfl
  simp only [Try.ntmps42, List.size_toArray, List.length_cons, List.length_nil, Nat.reduceAdd, Nat.reduceSub, Array.replicate_succ, Array.replicate_zero, List.push_toArray, List.append_toArray, List.nil_append, List.cons_append]
  gi_wp2
  go_ret
  exact ⟨rfl, rfl⟩

abbrev encP (p : Int × Int) : Array Value := #[.int .i64 p.1, .int .i64 p.2]

set_option maxRecDepth 100000 in
set_option maxHeartbeats 2000000 in
theorem sums1_in (l Bs n₀ b off cap : Nat) (zs : List Int) (hreach : zs.length * 8 ≤ 140737488351232) (hb : b < n₀) (J Jx : List (Int × Int) → World → Prop)
    (hY : ∀ pre x W, J pre W → pre.length < zs.length → YieldAt Fence.wide 7 Try.prog l (encP x) W fun e W' =>
      (e = .returned (.bool true) ∧ J (pre ++ [x]) W' ∧ Below n₀ W W') ∨ (e = .returned (.bool false) ∧ Jx (pre ++ [x]) W'))
    (W : World) (hBs : W.cell? ⟨Bs, 0, none⟩ = some (.slice (some ⟨b, off, none⟩) zs.length cap)) (hc : ∀ j, j < zs.length → W.cell? ⟨b, off + j, none⟩ = some (.int .i64 (zs[j]?.getD 0))) (h0 : J [] W) :
    CallsIn Fence.wide 8 Try.prog 53 #[.func (.yield l) #[] #[], .pointer (some ⟨Bs, 0, none⟩)] W fun e W' => (∃ v, e = .returned v) ∧
      ((∃ ys, ys = Num.outs 0 zs ∧ J ys W') ∨ (∃ pre, pre <+: Num.outs 0 zs ∧ Jx pre W')) := by
  refine callsIn_of_wp Try.func53 rfl trivial ?_ rfl
  simp only [Try.ntmps53, List.size_toArray, List.length_cons, List.length_nil, Nat.reduceAdd, Nat.reduceSub, Array.replicate_succ, Array.replicate_zero, List.push_toArray, List.append_toArray, List.nil_append, List.cons_append]
  gi_wp2
  gi_loopw [3, 8] (fun t i wr => ∃ (k : Nat) (s : Int) (pre : List (Int × Int)), k ≤ zs.length ∧ t = .int .i64 s ∧ i = .int .i64 k ∧ Num.outs 0 zs = pre ++ Num.outs s (zs.drop k) ∧ pre.length = k ∧ -2305843009213693952 ≤ s ∧ s ≤ 2305843009213693952 ∧ J pre wr ∧ Below n₀ W wr)
    (fun _ i _ => zs.length - (intOf i).toNat)
  case atStart => exact ⟨0, 0, [], Nat.zero_le _, rfl, rfl, by simp, rfl, by omega, by omega, h0, Below.refl _ _⟩
  case round =>
    obtain ⟨k, s, pre, hk, rfl, rfl, hO, hpl, hs1, hs2, hJs, hnx⟩ := hrel
    have hcx : k < zs.length → wr.cell? ⟨b, off + k, none⟩ = some (.int .i64 (zs[k]?.getD 0)) := fun h => (hnx.cell (p := ⟨b, off + k, none⟩) hb).trans (hc k h)
    clear hc
    have HO := Lib.hid hO; clear hO
    by_cases hlt : k < zs.length
    · have hcx' := hcx hlt
      clear hcx
      have hlz : k < zs.length := hlt
      obtain ⟨x, hx⟩ : ∃ x, zs[k]?.getD 0 = x := ⟨_, rfl⟩
      have hd : zs.drop k = x :: zs.drop (k + 1) := by rw [List.drop_eq_getElem_cons hlz, ← hx]; simp [hlz]
      rw [hx] at hcx'
      have hplt : pre.length < zs.length := by omega
      have HP := Lib.hid hpl; clear hpl
      have HX := Lib.hid hx; clear hx
      have HD := Lib.hid hd; clear hd
      clear hlz
      by_cases c1 : -2305843009213693952 ≤ x ∧ x ≤ 2305843009213693952
      · obtain ⟨c1, c1'⟩ := c1
        by_cases c2 : -2305843009213693952 ≤ s + x ∧ s + x ≤ 2305843009213693952
        · obtain ⟨c2, c2'⟩ := c2
          obtain ⟨fn, tmps, assign, body, hy, hR⟩ := hY pre (s + x, 0) wr hJs hplt
          dsimp only [encP] at hy
          have e1 := Num.chk_yes (Num.okB_iff.2 ⟨c1, c1'⟩)
          have e2 := Num.chk_yes (Num.okB_iff.2 ⟨c2, c2'⟩)
          gi_wp2_with ((with_reducible apply And.intro); (exact trivial); first | (gi_at_call 18; refine (callsIn_wide.2 (check_any _ _)).mono ?_; rintro e w' ⟨rfl, rfl⟩) | skip)
          refine hR.mono ?_
          rintro e W3 (⟨rfl, hJ3, hk3⟩ | ⟨rfl, hJx3⟩)
          · gi_wp2
            go_roundw
            case rel => exact ⟨k + 1, s + x, pre ++ [(s + x, 0)], by omega, rfl, by go_num, by rw [HO.out, HD.out, Num.outs_yes (Num.okB_iff.2 ⟨c1, c1'⟩) (Num.okB_iff.2 ⟨c2, c2'⟩)]; simp, by simp [HP.out], c2, c2', hJ3, hnx.trans hk3⟩
            case measure => simp [intOf]; omega
          · gi_wp2
            refine bodyPost_ret (results_none rfl _ _ _) rfl ?_
            exact ⟨⟨_, rfl⟩, .inr ⟨_, by rw [HO.out, HD.out, Num.outs_yes (Num.okB_iff.2 ⟨c1, c1'⟩) (Num.okB_iff.2 ⟨c2, c2'⟩)]; exact ⟨_, by simp; rfl⟩, hJx3⟩⟩
        · obtain ⟨fn, tmps, assign, body, hy, hR⟩ := hY pre (0, 10) wr hJs hplt
          dsimp only [encP] at hy
          have hno : Num.outs 0 zs = pre ++ [(0, 10)] := by rw [HO.out, HD.out, Num.outs_no (.inr (Num.okB_no.2 (by omega)))]
          have HN := Lib.hid hno; clear hno
          have e1 := Num.chk_yes (Num.okB_iff.2 ⟨c1, c1'⟩)
          have e2 := Num.chk_no (Num.okB_no.2 (show s + x < -2305843009213693952 ∨ 2305843009213693952 < s + x by omega))
          gi_wp2_with ((with_reducible apply And.intro); (exact trivial); first | (gi_at_call 18; refine (callsIn_wide.2 (check_any _ _)).mono ?_; rintro e w' ⟨rfl, rfl⟩) | skip)
          refine hR.mono ?_
          rintro e W3 (⟨rfl, hJ3, hk3⟩ | ⟨rfl, hJx3⟩)
          · gi_wp2
            refine bodyPost_ret (results_none rfl _ _ _) rfl ?_
            exact ⟨⟨_, rfl⟩, .inl ⟨_, rfl, by rw [HN.out]; exact hJ3⟩⟩
          · gi_wp2
            refine bodyPost_ret (results_none rfl _ _ _) rfl ?_
            exact ⟨⟨_, rfl⟩, .inr ⟨_, by rw [HN.out]; exact List.prefix_refl _, hJx3⟩⟩
      · obtain ⟨fn, tmps, assign, body, hy, hR⟩ := hY pre (0, 10) wr hJs hplt
        dsimp only [encP] at hy
        have hno : Num.outs 0 zs = pre ++ [(0, 10)] := by rw [HO.out, HD.out, Num.outs_no (.inl (Num.okB_no.2 (by omega)))]
        have HN := Lib.hid hno; clear hno
        have e1 := Num.chk_no (Num.okB_no.2 (show x < -2305843009213693952 ∨ 2305843009213693952 < x by omega))
        gi_wp2_with ((with_reducible apply And.intro); (exact trivial); first | (gi_at_call 18; refine (callsIn_wide.2 (check_any _ _)).mono ?_; rintro e w' ⟨rfl, rfl⟩) | skip)
        refine hR.mono ?_
        rintro e W3 (⟨rfl, hJ3, hk3⟩ | ⟨rfl, hJx3⟩)
        · gi_wp2
          refine bodyPost_ret (results_none rfl _ _ _) rfl ?_
          exact ⟨⟨_, rfl⟩, .inl ⟨_, rfl, by rw [HN.out]; exact hJ3⟩⟩
        · gi_wp2
          refine bodyPost_ret (results_none rfl _ _ _) rfl ?_
          exact ⟨⟨_, rfl⟩, .inr ⟨_, by rw [HN.out]; exact List.prefix_refl _, hJx3⟩⟩
    · obtain rfl : k = zs.length := by omega
      have hd : zs.drop zs.length = [] := by simp
      have HD := Lib.hid hd; clear hd
      have HP := Lib.hid hpl; clear hpl
      gi_wp2
      go_end0
      exact ⟨⟨_, rfl⟩, .inl ⟨_, rfl, by rw [HO.out, HD.out]; simpa [Num.outs] using hJs⟩⟩


set_option maxRecDepth 100000 in
set_option maxHeartbeats 1000000 in
theorem sums1_nil_in (l Bs : Nat) (a : Option Addr) (cap : Nat) (J : List (Int × Int) → World → Prop) (W : World) (hBs : W.cell? ⟨Bs, 0, none⟩ = some (.slice a 0 cap)) (h0 : J [] W) :
    CallsIn Fence.wide 8 Try.prog 53 #[.func (.yield l) #[] #[], .pointer (some ⟨Bs, 0, none⟩)] W fun e W' => (∃ v, e = .returned v) ∧ J [] W' := by
  refine callsIn_of_wp Try.func53 rfl trivial ?_ rfl
  simp only [Try.ntmps53, List.size_toArray, List.length_cons, List.length_nil, Nat.reduceAdd, Nat.reduceSub, Array.replicate_succ, Array.replicate_zero, List.push_toArray, List.append_toArray, List.nil_append, List.cons_append]
  gi_wp2
  gi_loopw [8] (fun i wr => i = .int .i64 0 ∧ J [] wr) (fun _ _ => 0)
  case atStart => exact ⟨rfl, h0⟩
  case round =>
    obtain ⟨rfl, hJs⟩ := hrel
    gi_wp2
    go_end0
    exact ⟨⟨_, rfl⟩, hJs⟩

theorem sums_stops (Bs n₀ : Nat) (sv : Value) (zs : List Int) (hreach : zs.length * 8 ≤ 140737488351232) (w : World) (hBs : Bs < w.heap.size) (hn₀ : n₀ ≤ w.heap.size)
    (hc : w.cell? ⟨Bs, 0, none⟩ = some sv) (hI : Ints n₀ w sv zs) :
    SeqStopsK Fence.wide 8 Try.prog 53 #[.pointer (some ⟨Bs, 0, none⟩)] encP (Below n₀) (fun ys => ys = Num.outs 0 zs) (fun _ => True) zs.length w := fun l J Jx W hW _ _ hY h0 => by
  have hc' := (hW.cell (p := ⟨Bs, 0, none⟩) hBs).trans hc
  rcases hI.below (hW.mono hn₀) with ⟨a, cap, rfl, _, rfl⟩ | ⟨b, off, cap, rfl, hb, hcs⟩
  · exact (sums1_nil_in l Bs a cap J W hc' h0).mono fun e W' ⟨he, hj⟩ => ⟨he, .inl ⟨_, rfl, hj⟩⟩
  · refine (sums1_in l Bs n₀ b off cap zs hreach hb J Jx hY W hc' hcs h0).mono ?_
    rintro e W' ⟨he, ⟨ys, rfl, hj⟩ | ⟨pre, _, hj⟩⟩
    · exact ⟨he, .inl ⟨_, rfl, hj⟩⟩
    · exact ⟨he, .inr ⟨_, trivial, hj⟩⟩

def lastP (pre : List (Int × Int)) : Int × Int := pre.getLast?.getD (0, 0)
theorem lastP_snoc (pre : List (Int × Int)) (x : Int × Int) : lastP (pre ++ [x]) = x := by simp [lastP]

set_option maxRecDepth 100000 in
set_option maxHeartbeats 2000000 in
theorem sum_in (sv : Value) (a : Option Addr) (len cap : Nat) (hsv : sv = .slice a len cap) (zs : List Int) (hreach : zs.length * 8 ≤ 140737488351232) (w : World) (hI : Ints w.heap.size w sv zs) :
    CallsIn Fence.wide 9 Try.prog 14 #[sv] w fun e W' => e = .returned (.tuple #[.int .i64 (Num.sumFrom 0 zs).1, .int .i64 (Num.sumFrom 0 zs).2]) ∧ Below w.heap.size w W' := by
  subst hsv
  have hlast := Num.last_outs 0 zs (0, 0) (fun _ => rfl)
  have HL := Lib.hid hlast; clear hlast
  refine callsIn_of_wp_marks Try.func14 rfl trivial ?_ rfl
  simp only [Try.ntmps14, List.size_toArray, List.length_cons, List.length_nil, Nat.reduceAdd, Nat.reduceSub, Array.replicate_succ, Array.replicate_zero, List.push_toArray, List.append_toArray, List.nil_append, List.cons_append]
  gi_wp2_with ((with_reducible apply And.intro); (exact trivial); gi_at_call 42; refine (sums_any _ _ _ _).mono ?_; rintro e w' ⟨rfl, rfl⟩)
  have bS := Boxed.new w 3 (.int .i64 0)
  have bE := Boxed.new (w.alloc (.cells #[.int .i64 0] 3)) 23 (.int .i64 0)
  have bN := Boxed.new ((w.alloc (.cells #[.int .i64 0] 3)).alloc (.cells #[.int .i64 0] 23)) 22 (.slice a len cap)
  rw [World.size_alloc] at bE bN
  rw [World.size_alloc] at bN
  have hB0 : Below w.heap.size w (((w.alloc (.cells #[.int .i64 0] 3)).alloc (.cells #[.int .i64 0] 23)).alloc (.cells #[.slice a len cap] 22)) := (((Below.refl _ w).alloc (Nat.le_refl _) _).alloc (by simp) _).alloc (by simp; omega) _
  refine range_assigns (n := 9) (by decide) (gf := 53) (lb := #[.pointer (some ⟨w.heap.size + 1 + 1, 0, none⟩)]) rfl (enters_of Try.func53 (by kernel_rfl) rfl) (n₀ := w.heap.size) (by simp; omega)
    (sums_stops (w.heap.size + 1 + 1) w.heap.size _ zs hreach _ (by simp) (by simp; omega) bN.cell (hI.below hB0)) (fun _ => rfl)
    (fun pre W => (Boxed W w.heap.size 3 (.int .i64 (lastP pre).1) ∧ Boxed W (w.heap.size + 1) 23 (.int .i64 (lastP pre).2)) ∧ Below w.heap.size w W)
    (OwnFrom.and (OwnFrom.and ((boxed_own _ _ _).from _) ((boxed_own _ _ _).from _)) (ownFrom_below (Nat.le_refl _) (by simp; omega)))
    ⟨⟨(bS.alloc _).alloc _, bE.alloc _⟩, hB0⟩ ?assign ?body ?done
  case assign =>
    rintro l pre x W ⟨⟨h1, h2⟩, hB⟩
    have c1 := h1.cell
    have c2 := h2.cell
    have f1 := h1.frozen
    have f2 := h2.frozen
    gi_wp2
    refine ⟨?_, ?_, ⟨?_, ?_⟩, ?_⟩
    · exact ((KeepsOthers.setCell _ _ _).trans (KeepsOthers.setCell _ _ _)).from _
    · exact ((Below.refl w.heap.size W).setCell (p := ⟨w.heap.size, 0, none⟩) (Nat.le_refl _) _).setCell (p := ⟨w.heap.size + 1, 0, none⟩) (by simp) _
    · rw [lastP_snoc]; exact (h1.set _).other (by omega) _
    · rw [lastP_snoc]; exact (h2.other (by omega) _).set _
    · exact (hB.setCell (p := ⟨w.heap.size, 0, none⟩) (Nat.le_refl _) _).setCell (p := ⟨w.heap.size + 1, 0, none⟩) (by simp) _
  case body =>
    intro l R a' W hR
    gi_wp2
    exact hR
  case done =>
    rintro D ys W hD rfl ⟨⟨h1, h2⟩, hB⟩ hK
    gi_wp2
    refine ⟨by simp, .inl ⟨_, _, rfl, run_takeDeferred hK, ?_⟩⟩
    have k1 := cell_kept h1.cell (grownBy_putObj' _ D (.deferred none)) (fun r e => by cases e; exact ⟨_, hK, rfl⟩)
    have k2 := cell_kept h2.cell (grownBy_putObj' _ D (.deferred none)) (fun r e => by cases e; exact ⟨_, hK, rfl⟩)
    have e0 : lastP (Num.outs 0 zs) = Num.sumFrom 0 zs := HL.out
    rw [e0] at k1 k2
    refine ⟨_, ?_, rfl, hB.trans (belowK_b (w := w) (Nat.le_refl _) W D _ _ (by simp at hD; omega) hK rfl rfl)⟩
    simp [results, Try.f14, go_sem, k1, k2]

/-- Sum, at whatever list of ints within the reach. -/
theorem sum_any (a : Option Addr) (len cap : Nat) (zs : List Int) (hreach : zs.length * 8 ≤ 140737488351232) (w : World) (hI : Ints w.heap.size w (.slice a len cap) zs) :
    Calls Try.prog 14 #[.slice a len cap] w fun e W' => e = .returned (.tuple #[.int .i64 (Num.sumFrom 0 zs).1, .int .i64 (Num.sumFrom 0 zs).2]) ∧ Below w.heap.size w W' :=
  (callsIn_wide (n := 9)).1 (sum_in _ a len cap rfl zs hreach w hI)

end Go.Proofs.Ytcidjmhadpoibaa
