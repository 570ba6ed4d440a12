/-
  Merged texts of this law (each with its own head below).
-/
import Derived.Shelf.SlSortCmp.NoneTotal
import Derived.Ground.SlsfProg
import Derived.Test.YtanhnllkccldhaaGreatProg
import Derived.Test.YtanhnllkccldhaaGreatLTableNews4
import Derived.Test.YtanhnllkccldhaaGreatLTableNews3
import Derived.Sort.OwnSorted
import Derived.Laws.StructEq
import Derived.Maps.AppendAt
namespace Go.Proofs
open Go.Shelf
def Tryz.sortZ_ren : Go.Shelf.Ren := ⟨fun | 6 => 181 | 15 => 204 | 14 => 203 | 28 => 223 | 29 => 224 | 20 => 215 | 21 => 216 | 22 => 217 | 23 => 218 | 24 => 219 | 25 => 220 | 26 => 221 | 27 => 222 | 46 => 229 | 47 => 230 | 48 => 231 | 49 => 232 | 50 => 233 | 57 => 242 | n => n, fun | 22 => 22 | 24 => 86 | 25 => 182 | 3 => 3 | 39 => 244 | 0 => 0 | 53 => 262 | 55 => 169 | 4 => 4 | 46 => 255 | 45 => 254 | 50 => 259 | 5 => 5 | 9 => 9 | 66 => 269 | 70 => 273 | 76 => 283 | 77 => 214 | n => n, fun | n => n⟩
theorem Tryz.sortZ : Go.Proofs.SlLaysF0.n6 Tryz.prog Tryz.sortZ_ren := {
 mixed := by kernel_rfl
 f6 := ⟨Tryz.f181.name, by decide, Tryz.func181.trans (congrArg some (by kernel_rfl))⟩
 f14 := ⟨Tryz.f203.name, by decide, Tryz.func203.trans (congrArg some (by kernel_rfl))⟩
 f15 := Tryz.func204.trans (congrArg some (by kernel_rfl))
 f20 := ⟨Tryz.f215.name, by decide, Tryz.func215.trans (congrArg some (by kernel_rfl))⟩
 f21 := ⟨Tryz.f216.name, by decide, Tryz.func216.trans (congrArg some (by kernel_rfl))⟩
 f22 := ⟨Tryz.f217.name, by decide, Tryz.func217.trans (congrArg some (by kernel_rfl))⟩
 f23 := ⟨Tryz.f218.name, by decide, Tryz.func218.trans (congrArg some (by kernel_rfl))⟩
 f24 := ⟨Tryz.f219.name, by decide, Tryz.func219.trans (congrArg some (by kernel_rfl))⟩
 f25 := ⟨Tryz.f220.name, by decide, Tryz.func220.trans (congrArg some (by kernel_rfl))⟩
 f26 := ⟨Tryz.f221.name, by decide, Tryz.func221.trans (congrArg some (by kernel_rfl))⟩
 f27 := ⟨Tryz.f222.name, by decide, Tryz.func222.trans (congrArg some (by kernel_rfl))⟩
 f28 := Tryz.func223.trans (congrArg some (by kernel_rfl))
 f29 := Tryz.func224.trans (congrArg some (by kernel_rfl))
 f46 := ⟨Tryz.f229.name, by decide, Tryz.func229.trans (congrArg some (by kernel_rfl))⟩
 f47 := Tryz.func230.trans (congrArg some (by kernel_rfl))
 f48 := Tryz.func231.trans (congrArg some (by kernel_rfl))
 f49 := ⟨Tryz.f232.name, by decide, Tryz.func232.trans (congrArg some (by kernel_rfl))⟩
 f50 := ⟨Tryz.f233.name, by decide, Tryz.func233.trans (congrArg some (by kernel_rfl))⟩
 f57 := ⟨Tryz.f242.name, by decide, Tryz.func242.trans (congrArg some (by kernel_rfl))⟩
 t0 := Tryz.underlying0
 a0 := Tryz.isAgg0
 z0 := Tryz.sizeOf0
 v0 := Tryz.zeroValue0
 t3 := Tryz.underlying3
 a3 := Tryz.isAgg3
 z3 := Tryz.sizeOf3
 v3 := Tryz.zeroValue3
 t4 := Tryz.underlying4
 a4 := Tryz.isAgg4
 z4 := Tryz.sizeOf4
 v4 := Tryz.zeroValue4
 t5 := Tryz.underlying5
 a5 := Tryz.isAgg5
 z5 := Tryz.sizeOf5
 v5 := Tryz.zeroValue5
 t9 := Tryz.underlying9
 a9 := Tryz.isAgg9
 z9 := Tryz.sizeOf9
 v9 := Tryz.zeroValue9
 t22 := Tryz.underlying22
 a22 := Tryz.isAgg22
 z22 := Tryz.sizeOf22
 v22 := Tryz.zeroValue22
 t25 := Tryz.underlying182
 a25 := Tryz.isAgg182
 z25 := Tryz.sizeOf182
 v25 := Tryz.zeroValue182
 t39 := Tryz.underlying244
 a39 := Tryz.isAgg244
 z39 := Tryz.sizeOf244
 v39 := Tryz.zeroValue244
 t45 := Tryz.underlying254
 a45 := Tryz.isAgg254
 z45 := Tryz.sizeOf254
 v45 := Tryz.zeroValue254
 t46 := Tryz.underlying255
 a46 := Tryz.isAgg255
 z46 := Tryz.sizeOf255
 v46 := Tryz.zeroValue255
 t50 := Tryz.underlying259
 a50 := Tryz.isAgg259
 z50 := Tryz.sizeOf259
 v50 := Tryz.zeroValue259
 t53 := Tryz.underlying262
 a53 := Tryz.isAgg262
 z53 := Tryz.sizeOf262
 v53 := Tryz.zeroValue262
 t55 := Tryz.underlying169
 a55 := Tryz.isAgg169
 z55 := Tryz.sizeOf169
 v55 := Tryz.zeroValue169
 t66 := Tryz.underlying269
 a66 := Tryz.isAgg269
 z66 := Tryz.sizeOf269
 v66 := Tryz.zeroValue269
 t70 := Tryz.underlying273
 a70 := Tryz.isAgg273
 z70 := Tryz.sizeOf273
 v70 := Tryz.zeroValue273
 t76 := Tryz.underlying283
 a76 := Tryz.isAgg283
 z76 := Tryz.sizeOf283
 v76 := Tryz.zeroValue283
 t77 := Tryz.underlying214
 a77 := Tryz.isAgg214
 z77 := Tryz.sizeOf214
 v77 := Tryz.zeroValue214 }
end Go.Proofs
namespace Go.Proofs.YtanhnllkccldhaaGreat
set_option linter.unusedVariables false
set_option linter.unusedSimpArgs false
set_option maxRecDepth 100000
section
open Go.RowKit Go.Proofs.YtanhnllkccldhaaGreat.Eng Enc Go.Shelf Go.Sort
namespace Zo
instance inhZn : Inhabited Zn := ⟨⟨0, 0, 0, 0, 0, 0⟩⟩
def Lt (x y : Zn) : Prop := x.a < y.a \/ x.a = y.a /\ (x.b < y.b \/ x.b = y.b /\ (x.c < y.c \/ x.c = y.c /\ (x.d < y.d \/ x.d = y.d /\ (x.e < y.e \/ x.e = y.e /\ (x.f < y.f \/ x.f = y.f /\ False)))))
theorem cmpI_lt (x y : Int) : cmpI x y < 0 ↔ x < y := by unfold cmpI; split <;> (try split) <;> omega
theorem cmpI_eq (x y : Int) : cmpI x y = 0 ↔ x = y := by unfold cmpI; split <;> (try split) <;> omega
theorem step_lt {x y c : Int} {P : Prop} (h : c < 0 ↔ P) : (if cmpI x y ≠ 0 then cmpI x y else c) < 0 ↔ (x < y \/ x = y /\ P) := by
 have h1 := cmpI_lt x y;have h2 := cmpI_eq x y
 by_cases hc : cmpI x y = 0
 ·rw [if_neg (by simp [hc]), h]
  have := h2.1 hc;constructor
  ·intro hp; exact .inr ⟨this, hp⟩
  ·rintro (hl | ⟨_, hp⟩)
   ·omega
   ·exact hp
 ·rw [if_pos hc, h1]
  constructor
  ·exact .inl
  ·rintro (hl | ⟨he, _⟩)
   ·exact hl
   ·exact absurd (h2.2 he) hc
theorem cmp_lt (x y : Zn) : cmp x y < 0 ↔ Lt x y := by
 unfold cmp Lt;exact step_lt (step_lt (step_lt (step_lt (step_lt (step_lt (by simp))))))
theorem lex_trans {x y z : Int} {P Q R : Prop} (h : P -> Q -> R) : (x < y \/ x = y /\ P) -> (y < z \/ y = z /\ Q) -> (x < z \/ x = z /\ R) := by
 rintro (h1 | ⟨h1, hp⟩) (h2 | ⟨h2, hq⟩)
 ·left; omega
 ·left; omega
 ·left; omega
 ·right; exact ⟨by omega, h hp hq⟩
theorem lex_ntrans {x y z : Int} {P Q R : Prop} (h : ¬ P -> ¬ Q -> ¬ R) : ¬ (x < y \/ x = y /\ P) -> ¬ (y < z \/ y = z /\ Q) -> ¬ (x < z \/ x = z /\ R) := by
 intro h1 h2;have a1 : ¬ x < y := fun h => h1 (.inl h);have a2 : ¬ y < z := fun h => h2 (.inl h);rintro (h3 | ⟨h3, hr⟩)
 ·omega
 ·have e1 : x = y := by omega
  have e2 : y = z := by omega
  exact h (fun hp => h1 (.inr ⟨e1, hp⟩)) (fun hq => h2 (.inr ⟨e2, hq⟩)) hr
theorem lex_tot {x y : Int} {P Q E : Prop} (h : ¬ P -> ¬ Q -> E) : ¬ (x < y \/ x = y /\ P) -> ¬ (y < x \/ y = x /\ Q) -> x = y /\ E := by
 intro h1 h2;have a1 : ¬ x < y := fun h => h1 (.inl h);have a2 : ¬ y < x := fun h => h2 (.inl h);have e1 : x = y := by omega
 exact ⟨e1, h (fun hp => h1 (.inr ⟨e1, hp⟩)) (fun hq => h2 (.inr ⟨e1.symm, hq⟩))⟩
theorem Lt.irrefl (x : Zn) : ¬ Lt x x := by unfold Lt; simp
theorem Lt.trans {x y z : Zn} : Lt x y -> Lt y z -> Lt x z := by
 unfold Lt;exact lex_trans (lex_trans (lex_trans (lex_trans (lex_trans (lex_trans fun h _ => h)))))
theorem Lt.ntrans {x y z : Zn} : ¬ Lt x y -> ¬ Lt y z -> ¬ Lt x z := by
 unfold Lt;exact lex_ntrans (lex_ntrans (lex_ntrans (lex_ntrans (lex_ntrans (lex_ntrans fun h _ => h)))))
theorem Lt.tot {x y : Zn} (h1 : ¬ Lt x y) (h2 : ¬ Lt y x) : x = y := by
 unfold Lt at h1 h2;obtain ⟨e1, e2, e3, e4, e5, e6, _⟩ := lex_tot (lex_tot (lex_tot (lex_tot (lex_tot (lex_tot (E := True) fun _ _ => trivial))))) h1 h2;cases x; cases y; simp_all
theorem lt_iff (x y : Zn) : ltOf cmp x y = true ↔ Lt x y := by unfold ltOf; simp [cmp_lt]
theorem lt_niff (x y : Zn) : ltOf cmp x y = false ↔ ¬ Lt x y := by unfold ltOf; simp [<- cmp_lt]
theorem swo : SWO (ltOf cmp) where
 irrefl x := (lt_niff x x).2 (Lt.irrefl x)
 trans x y z h1 h2 := (lt_iff x z).2 (((lt_iff x y).1 h1).trans ((lt_iff y z).1 h2))
 ntrans x y z h1 h2 := (lt_niff x z).2 (Lt.ntrans ((lt_niff x y).1 h1) ((lt_niff y z).1 h2))
theorem tot (x y : Zn) (h1 : ltOf cmp x y = false) (h2 : ltOf cmp y x = false) : x = y := Lt.tot ((lt_niff x y).1 h1) ((lt_niff y x).1 h2)
def sort (l : List Zn) : List Zn := l.mergeSort fun x y => !(ltOf cmp) y x
theorem sort_len (l : List Zn) : (sort l).length = l.length := List.length_mergeSort _
theorem sort_perm (l : List Zn) : (sort l).Perm l := List.mergeSort_perm l _
theorem sort_sorted (l : List Zn) : (sort l).Pairwise fun x y => ¬ Lt y x := by
 have h := List.pairwise_mergeSort (le := fun x y => !(ltOf cmp) y x) (fun x y z h1 h2 => by
  simp only [Bool.not_eq_eq_eq_not, Bool.not_true] at *;exact (lt_niff z x).2 (Lt.ntrans ((lt_niff z y).1 h2) ((lt_niff y x).1 h1))) (fun x y => by
  simp only [Bool.or_eq_true, Bool.not_eq_eq_eq_not, Bool.not_true]
  by_cases h : Lt y x
  ·exact .inr ((lt_niff x y).2 fun k => Lt.irrefl _ (h.trans k))
  ·exact .inl ((lt_niff y x).2 h)) l
 refine h.imp fun {x y} hxy => ?_;simp only [Bool.not_eq_eq_eq_not, Bool.not_true] at hxy;exact (lt_niff y x).1 hxy
end Zo
theorem zcmpLays (blk off size : Nat) (w : World) : CmpLays Tryz.prog 140 #[] (Enc.enc (α := Zn)) 6 Zo.cmp blk off size w := fun m os dk _ x y => by
 refine (zcmp_at x y (sortWorldK Enc.enc 6 w blk off m dk os)).mono ?_;rintro e w' ⟨rfl, q, os', rfl⟩;exact ⟨rfl, q, os', rfl⟩
theorem flat_list {α : Type} [Enc α] [Inhabited α] (l : List α) : (flatK Enc.enc (size α) l.toArray).toList = cellsL l := by
 have h1 : (flatK (Enc.enc (α := α)) (size α) l.toArray).size = l.length * size α := by simp
 apply List.ext_getElem?;intro t
 by_cases ht : t < l.length * size α
 ·have hp : 0 < size α := Enc.pos
  have hd : t / size α < l.length := (Nat.div_lt_iff_lt_mul hp).2 ht;have hm : t % size α < size α := Nat.mod_lt _ hp;have h2 := get_flatK (Enc.enc (α := α)) (size α) l.toArray t (by simpa using ht);rw [getElem!_pos _ t (by rw [h1]; exact ht)] at h2;rw [Array.getElem?_toList, Array.getElem?_eq_getElem (by rw [h1]; exact ht), h2];have e1 : l.toArray[t / size α]! = l[t / size α] := by rw [getElem!_pos _ _ (by simpa using hd)]; simp
  rw [e1];have hc := cellsL_get l (List.getElem?_eq_getElem hd) (i := t % size α) (c := (Enc.enc l[t / size α])[t % size α]!) (by rw [getElem!_pos _ _ (by rw [Enc.len]; exact hm)]; exact List.getElem?_eq_getElem _);rw [<- hc]
  congr 1
  rw [Nat.mul_comm]; exact Nat.div_add_mod t (size α)
 ·rw [List.getElem?_eq_none (by rw [Array.length_toList, h1]; omega), List.getElem?_eq_none (by rw [cellsL_len]; omega)]
theorem heap_sortedA {w : World} {g n : Nat} {os : Array Obj} {cur : Array Value} {e : TypeId} {fr : Nat × Nat} (d : Array Value) (hb : w.heap[g]? = some (.cells cur e fr)) :
 (grow (putRow id (Sort.ahead w n) g 0 d) os).heap[g]? = some (.cells (putCells id 0 d cur) e fr) := by
 have hg : g < w.heap.size := (Array.getElem?_eq_some_iff.1 hb).1;rw [heap_grow_old _ _ (by simpa using hg)];simp [putRow, mapBlock, Sort.ahead, Array.getElem?_modify, hb, onCells]
theorem grownBy_sortedA {w : World} {g n : Nat} {os : Array Obj} (d : Array Value) : w.grownBy (grow (putRow id (Sort.ahead w n) g 0 d) os) (some g) := by
 refine ⟨rfl, rfl, rfl, by simp, fun k hk hne => ?_⟩;rw [heap_grow_old _ _ (by simpa using hk)];have : g ≠ k := fun e => hne (by rw [e]);simp [putRow, mapBlock, Sort.ahead, Array.getElem?_modify, this]
theorem take_putCellsA (cur d : Array Value) (h : d.size <= cur.size) : (putCells id 0 d cur).toList.take d.size = d.toList := by
 apply List.ext_getElem?;intro j
 by_cases hj : j < d.size
 ·rw [List.getElem?_take_of_lt hj, Array.getElem?_toList]
  simp [putCells, hj, show j < cur.size by omega]
 ·rw [List.getElem?_take_eq_none (by omega), List.getElem?_eq_none (by simp; omega)]
theorem holds_flat {w : World} {g : Nat} {cur d : Array Value} {e : TypeId} (hb : w.heap[g]? = some (.cells cur e (0, 0))) (ht : cur.toList.take d.size = d.toList) : Holds id w g 0 d := by
 intro j hj;refine ⟨?_, by simp [World.frozen?, hb]⟩;have h1 : (cur.toList.take d.size)[j]? = d.toList[j]? := by rw [ht]
 rw [List.getElem?_take_of_lt hj] at h1;simp only [World.cell?, hb, Nat.zero_add];simp only [Option.isSome_none, Bool.false_eq_true, if_false];rw [<- Array.getElem?_toList, h1];simp [hj]
theorem sortZ_own (base : Nat) (v : Value) (l : List Zn) (hl : l.length <= 1000000) (w : World) (hO : Own 86 base w v l) :
 Calls Tryz.prog 181 #[v, .func (.func 140) #[] #[]] w fun e w' => e = .returned (.tuple #[]) /\ Own 86 base w' v (Zo.sort l) /\ w.grownBy w' v.ownBlock := by
 obtain ⟨hc, ⟨rfl, h0⟩ | ⟨g, cap, cur, rfl, hb, hg, hn, hm, hs, ht⟩⟩ := id hO
 ·obtain rfl := List.eq_nil_of_length_eq_zero h0
  refine (AnyF.slices_SortFunc_none Tryz.sortZ none 0 _ w).mono ?_;rintro e w' ⟨rfl, rfl⟩;exact ⟨rfl, by rw [show Zo.sort [] = [] by simp [Zo.sort]]; exact hO, rfl, rfl, rfl, Nat.le_refl _, fun _ _ _ => rfl⟩
 ·have hf := flat_list l
  have hfs : (flatK (Enc.enc (α := Zn)) 6 l.toArray).size = l.length * 6 := by simp
  have hH : HoldsK (Enc.enc (α := Zn)) 6 w g 0 l.toArray := holds_flat hg (by rw [hfs]; exact ht.trans hf.symm);refine (AnyQ.slices_SortFunc_total Tryz.sortZ 6 Tryz.isAgg86 Tryz.sizeOf86 (Enc.enc (α := Zn)) (fun x => rfl) (fun x v hv => Enc.one x v hv) Zo.cmp Zo.swo 140 #[] g 0 cap l.toArray w Tryz.call140 (zcmpLays g 0 _ w) hH (Array.getElem?_eq_some_iff.1 hg).1 (by simp; omega) Zo.tot).mono ?_;rintro e w' ⟨rfl, n, os, rfl⟩;have hlen : (Zo.sort l).length = l.length := Zo.sort_len l;refine ⟨rfl, ?_, grownBy_sortedA _⟩;have hf2 := flat_list (Zo.sort l);have hfs2 : (flatK (Enc.enc (α := Zn)) 6 (Zo.sort l).toArray).size = l.length * 6 := by simp [hlen]
  have hsz : cur.size = cap * 6 := hs;refine ⟨by rw [cellsL_len, hlen], .inr ⟨g, cap, _, by rw [hlen], hb, heap_sortedA _ hg, by rw [hlen]; exact hn, hm, ?_, ?_⟩⟩
  ·rw [show size Zn = 6 from rfl, <- hsz]; simp [putCells]
  ·rw [hlen, <- hf2]
   have h6 := take_putCellsA cur (flatK (Enc.enc (α := Zn)) 6 (Zo.sort l).toArray) (by rw [hfs2, hsz]; omega);rw [hfs2] at h6;exact h6
theorem sortedZ_any (Bs : Nat) (a : Option Addr) (cap : Nat) (zs : List Zn) (hlen : zs.length <= 1000000) (w : World) (hc : w.cell? ⟨Bs, 0, none⟩ = some (.slice a zs.length cap)) (hS : Sl w.heap.size w (.slice a zs.length cap) zs) :
 Calls Tryz.prog 138 #[.func (.func 182) #[] #[.pointer (some ⟨Bs, 0, none⟩)], .func (.func 140) #[] #[]] w fun e w' => ∃ v, e = .returned v /\ Below Bs w w' /\ Own 86 w.heap.size w' v (Zo.sort zs) := by
 have hBs : Bs < w.heap.size := World.block_lt_of_cell? _ _ hc;refine fun_at 0 Bs w (Nat.le_of_lt hBs) Tryz.func138 (args := [.val (.func (.func 182) #[] #[.pointer (some ⟨Bs, 0, none⟩)]), .val (.func (.func 140) #[] #[])]) rfl rfl ?_;refine CallI.mk fun w1 h1 => ?_;have hg1 : Below w.heap.size w w1 := h1.go;refine (collectZ_any Bs a cap zs hlen w1 ((hg1.cell (p := ⟨Bs, 0, none⟩) hBs).trans hc) (hS.go hg1 hg1.size)).mono ?_;rintro e w2 ⟨v, rfl, hB2, hO⟩;refine ⟨⟨hB2, by simp⟩, _, rfl, ?_⟩;obtain ⟨a', c', rfl⟩ := hO.form;refine CallI.mk fun w3 h3 => (sortZ_own w1.heap.size _ zs hlen w3 (hO.at h3 (by simp))).mono ?_;rintro e w4 ⟨rfl, hO4, hg⟩;have hlen2 : (Zo.sort zs).length = zs.length := Zo.sort_len zs;refine ⟨keep_grown h3 hg fun k hk => ⟨by have h5 := (hO.lt k hk).1; have := hg1.size; show Bs <= k; omega, by simp⟩, _, rfl, ?_⟩;exact EndI.mk fun w5 h5 => (hO4.at h5 (by simp)).lower hg1.size
end
section
namespace Cv
def cpt : List Zn -> List Zn
 | [] => []
 | x :: l => if l.head? = some x then cpt l else x :: cpt l
theorem cpt_cons (x : Zn) (l : List Zn) : cpt (x :: l) = if l.head? = some x then cpt l else x :: cpt l := rfl
theorem cpt_mem (l : List Zn) (x : Zn) : x ∈ cpt l ↔ x ∈ l := by
 induction l with
 | nil => simp [cpt]
 | cons y l ih =>
   rw [cpt_cons, List.mem_cons, <- ih];split
   ·rename_i h
    have hy : y ∈ l := List.mem_of_mem_head? (by rw [h]; rfl);constructor
    ·exact .inr
    ·rintro (rfl | h2)
     ·exact ih.2 hy
     ·exact h2
   ·rw [List.mem_cons]
theorem cpt_len (l : List Zn) : (cpt l).length <= l.length := by
 induction l with
 | nil => simp [cpt]
 | cons x l ih => rw [cpt_cons]; split <;> simp only [List.length_cons] <;> omega
theorem cpt_snoc (p : List Zn) (y x : Zn) : cpt (p ++ [y] ++ [x]) = if x = y then cpt (p ++ [y]) else cpt (p ++ [y]) ++ [x] := by
 induction p with
 | nil =>
   simp only [List.nil_append, List.cons_append, cpt_cons, List.head?_cons, List.head?_nil, Option.some.injEq]
   by_cases h : x = y
   ·subst h; simp [cpt]
   ·simp [h, cpt]
 | cons a p ih =>
   simp only [List.cons_append, cpt_cons];have hh : (p ++ [y] ++ [x]).head? = (p ++ [y]).head? := by cases p <;> rfl
   rw [hh, ih];split <;> split <;> simp_all
theorem cpt_step {l : List Zn} {k : Nat} {x y : Zn} (hy : l[k]? = some y) (hx : l[k + 1]? = some x) : cpt (l.take (k + 2)) = if x = y then cpt (l.take (k + 1)) else cpt (l.take (k + 1)) ++ [x] := by
 have e1 : l.take (k + 1) = l.take k ++ [y] := by rw [List.take_add_one, hy]; rfl
 have e2 : l.take (k + 2) = l.take k ++ [y] ++ [x] := by rw [show k + 2 = k + 1 + 1 from rfl, List.take_add_one, hx, e1]; rfl
 rw [e1, e2, cpt_snoc]
theorem cpt_all {l : List Zn} (h : ∀ k x y, l[k]? = some y -> l[k + 1]? = some x -> x ≠ y) : cpt l = l := by
 induction l with
 | nil => rfl
 | cons a l ih =>
   rw [cpt_cons, ih fun k x y hy hx => h (k + 1) x y hy hx];split
   ·rename_i hh
    cases l with
    | nil => cases hh
    | cons b l => simp at hh; exact absurd hh (h 0 b a rfl rfl)
   ·rfl
end Cv
end
section
open Go.RowKit Go.Proofs.YtanhnllkccldhaaGreat.Eng Enc
namespace Cv
open Mi Zo
theorem cpt_strict {l : List Zn} (h : l.Pairwise fun x y => ¬ Lt y x) : (cpt l).Pairwise Lt := by
 induction l with
 | nil => simp [cpt]
 | cons x l ih =>
   rw [List.pairwise_cons] at h;have h2 := ih h.2;rw [cpt_cons];split
   ·exact h2
   ·rename_i hne
    rw [List.pairwise_cons];refine ⟨fun z hz => ?_, h2⟩;have hz' := (cpt_mem l z).1 hz;cases l with
    | nil => simp at hz'
    | cons y m =>
      have hyx : y ≠ x := fun e => hne (by simp [e]);have hxy : Lt x y := by
       have h3 := h.1 y (by simp);apply Classical.byContradiction;intro h4;exact hyx (Lt.tot h3 h4)
      rcases List.mem_cons.1 hz' with rfl | hz'
      ·exact hxy
      ·have h5 := (List.pairwise_cons.1 h.2).1 z hz'
       apply Classical.byContradiction;intro h6;exact Lt.ntrans h6 h5 hxy
theorem strict_eq : ∀ {l m : List Zn}, l.Pairwise Lt -> m.Pairwise Lt -> (∀ x, x ∈ l ↔ x ∈ m) -> l = m
 | [], [], _, _, _ => rfl
 | [], y :: m, _, _, h => by have := (h y).2 (by simp); simp at this
 | x :: l, [], _, _, h => by have := (h x).1 (by simp); simp at this
 | x :: l, y :: m, hl, hm, h => by
   rw [List.pairwise_cons] at hl hm;have e : x = y := by
    rcases List.mem_cons.1 ((h x).1 (by simp)) with e | hx
    ·exact e
    ·rcases List.mem_cons.1 ((h y).2 (by simp)) with e | hy
     ·exact e.symm
     ·exact absurd ((hl.1 y hy).trans (hm.1 x hx)) (Lt.irrefl x)
   subst e
   congr 1
   refine strict_eq hl.2 hm.2 fun z => ?_;constructor
   ·intro hz
    rcases List.mem_cons.1 ((h z).1 (by simp [hz])) with rfl | hz'
    ·exact absurd (hl.1 z hz) (Lt.irrefl z)
    ·exact hz'
   ·intro hz
    rcases List.mem_cons.1 ((h z).2 (by simp [hz])) with rfl | hz'
    ·exact absurd (hm.1 z hz) (Lt.irrefl z)
    ·exact hz'
def sorted (l : List Zn) : List Zn := cpt (sort l)
theorem sorted_strict (l : List Zn) : (sorted l).Pairwise Lt := cpt_strict (sort_sorted l)
theorem sorted_mem (l : List Zn) (x : Zn) : x ∈ sorted l ↔ x ∈ l := (cpt_mem _ x).trans (sort_perm l).mem_iff
theorem sorted_self {l : List Zn} (h : l.Pairwise Lt) : sorted l = l := strict_eq (sorted_strict l) h (sorted_mem l)
theorem sorted_len (l : List Zn) : (sorted l).length <= l.length := by
 have := cpt_len (sort l); rw [sort_len] at this; exact this
def pgo : Nat -> List Zn -> List Zn × Int
 | 0, out => (out, 0)
 | i + 1, out => match out[i]? with
   | none => (out, 0)
   | some z => if (in_ z (out.eraseIdx i)).2 ≠ 0 then ([], (in_ z (out.eraseIdx i)).2) else if (in_ z (out.eraseIdx i)).1 = true then pgo i (out.eraseIdx i) else pgo i out
theorem pgo_succ {i : Nat} {out : List Zn} {z : Zn} (h : out[i]? = some z) : pgo (i + 1) out = if (in_ z (out.eraseIdx i)).2 ≠ 0 then ([], (in_ z (out.eraseIdx i)).2) else if (in_ z (out.eraseIdx i)).1 = true then pgo i (out.eraseIdx i) else pgo i out := by
 rw [pgo, h]
def prune (l : List Zn) : List Zn × Int := if checked [l] ≠ 0 then ([], checked [l]) else pgo (sorted l).length (sorted l)
def Bare (n : Nat) (out : List Zn) : Prop := ∀ j z, n <= j -> out[j]? = some z -> ¬ Cov z (out.eraseIdx j)
theorem mem_erase {l : List Zn} {i : Nat} {x : Zn} : x ∈ l.eraseIdx i ↔ ∃ j, j ≠ i /\ l[j]? = some x := by
 rw [List.mem_eraseIdx_iff_getElem?]
theorem pgo_ok {n : Nat} : ∀ {out : List Zn}, n <= out.length -> (pgo n out).2 = 0 -> Bare n out -> (∀ z, z ∈ out -> Zo.chk z = 0) -> (pgo n out).1.Sublist out /\ Bare 0 (pgo n out).1 /\ ∀ t, (∃ b, b ∈ out /\ Fz b t) -> ∃ b, b ∈ (pgo n out).1 /\ Fz b t := by
 induction n with
 | zero => intro out _ _ hb _; exact ⟨List.Sublist.refl _, hb, fun t h => h⟩
 | succ i ih =>
   intro out hn h hb hc;have ho := List.getElem?_eq_getElem (l := out) (i := i) (by omega);generalize out[i] = z at ho;rw [pgo_succ ho] at h ⊢
   by_cases h1 : (in_ z (out.eraseIdx i)).2 ≠ 0
   ·rw [if_pos h1] at h; exact absurd h h1
   rw [if_neg h1] at h ⊢;obtain ⟨_, _, hcov⟩ := in_ok (z := z) (l := out.eraseIdx i) (by simpa using h1)
   by_cases h2 : (in_ z (out.eraseIdx i)).1 = true
   ·rw [if_pos h2] at h ⊢
    have hsub := List.eraseIdx_sublist out i;have hbare : Bare i (out.eraseIdx i) := fun j x hj hx hcv => by
     have hx' : out[j + 1]? = some x := by
      rw [List.getElem?_eraseIdx] at hx
      rwa [if_neg (by omega)] at hx
     refine hb (j + 1) x (by omega) hx' (hcv.mono fun y hy => ?_);obtain ⟨q, hq, hqy⟩ := mem_erase.1 hy;rw [List.getElem?_eraseIdx] at hqy;split at hqy
     ·exact mem_erase.2 ⟨q, by omega, hqy⟩
     ·exact mem_erase.2 ⟨q + 1, by omega, hqy⟩
    obtain ⟨k1, k2, k3⟩ := ih (out := out.eraseIdx i) (by rw [List.length_eraseIdx]; split <;> omega) h hbare (fun x hx => hc x (hsub.mem hx));refine ⟨k1.trans hsub, k2, fun t ht => k3 t ?_⟩;obtain ⟨b, hb1, hb2⟩ := ht;obtain ⟨j, hj⟩ := List.mem_iff_getElem?.1 hb1
    by_cases hji : j = i
    ·subst hji
     rw [ho] at hj; injection hj with hj; subst hj;exact hcov.1 h2 t hb2
    ·exact ⟨b, mem_erase.2 ⟨j, hji, hj⟩, hb2⟩
   ·rw [if_neg h2] at h ⊢
    refine ih (by omega) h (fun j x hj hx => ?_) hc
    by_cases hji : j = i
    ·subst hji
     rw [ho] at hx; injection hx with hx; subst hx;exact fun hcv => h2 (hcov.2 hcv)
    ·exact hb j x (by omega) hx
theorem pgo_self {n : Nat} : ∀ {out : List Zn}, n <= out.length -> (pgo n out).2 = 0 -> Bare 0 out -> pgo n out = (out, 0) := by
 induction n with
 | zero => intro out _ _ _; rfl
 | succ i ih =>
   intro out hn h hb;have ho := List.getElem?_eq_getElem (l := out) (i := i) (by omega);generalize out[i] = z at ho;rw [pgo_succ ho] at h ⊢
   by_cases h1 : (in_ z (out.eraseIdx i)).2 ≠ 0
   ·rw [if_pos h1] at h; exact absurd h h1
   rw [if_neg h1] at h ⊢;obtain ⟨_, _, hcov⟩ := in_ok (z := z) (l := out.eraseIdx i) (by simpa using h1);have h2 : ¬ (in_ z (out.eraseIdx i)).1 = true := fun h2 => hb i z (Nat.zero_le _) ho (hcov.1 h2);rw [if_neg h2] at h ⊢;exact ih (by omega) h hb
theorem checked_one {l : List Zn} : checked [l] = 0 ↔ l.length <= 4096 /\ ∀ z, z ∈ l -> Zo.chk z = 0 := by
 unfold checked;simp only [List.any_cons, List.any_nil, Bool.or_false, decide_eq_true_eq]
 by_cases h1 : 4096 < l.length
 ·rw [if_pos h1]; constructor
  ·intro h; cases h
  ·intro h; omega
 ·rw [if_neg h1]
  by_cases h2 : l.any odd = true
  ·rw [if_pos h2]
   constructor
   ·intro h; cases h
   ·intro h
    obtain ⟨z, hz, ho⟩ := List.any_eq_true.1 h2;simp [odd, h.2 z hz] at ho
  ·rw [if_neg h2]
   refine ⟨fun _ => ⟨by omega, fun z hz => ?_⟩, fun _ => rfl⟩;apply Classical.byContradiction;intro h3;exact h2 (List.any_eq_true.2 ⟨z, hz, by simpa [odd] using h3⟩)
structure Wanted (l m : List Zn) : Prop where
 chk : ∀ z, z ∈ l -> Zo.chk z = 0
 len : l.length <= 4096
 mem : ∀ z, z ∈ m -> z ∈ l
 strict : m.Pairwise Lt
 bare : Bare 0 m
 pts : ∀ t, (∃ b, b ∈ l /\ Fz b t) ↔ ∃ b, b ∈ m /\ Fz b t
 mlen : m.length <= l.length
theorem prune_ok {l : List Zn} (h : (prune l).2 = 0) : Wanted l (prune l).1 := by
 unfold prune at h ⊢
 by_cases h1 : checked [l] ≠ 0
 ·rw [if_pos h1] at h; exact absurd h h1
 rw [if_neg h1] at h ⊢;obtain ⟨hl, hc⟩ := checked_one.1 (by simpa using h1);obtain ⟨k1, k2, k3⟩ := pgo_ok (Nat.le_refl _) h (fun j z hj hz => by have := (List.getElem?_eq_some_iff.1 hz).1; omega) (fun z hz => hc z ((sorted_mem l z).1 hz));have hmem : ∀ z, z ∈ (pgo (sorted l).length (sorted l)).1 -> z ∈ l := fun z hz => (sorted_mem l z).1 (k1.mem hz);refine ⟨hc, hl, hmem, (sorted_strict l).sublist k1, k2, fun t => ⟨fun ⟨b, hb, hbt⟩ => k3 t ⟨b, (sorted_mem l b).2 hb, hbt⟩, fun ⟨b, hb, hbt⟩ => ⟨b, hmem b hb, hbt⟩⟩, Nat.le_trans k1.length_le (sorted_len l)⟩
theorem Wanted.again {l m : List Zn} (h : Wanted l m) (h2 : (prune m).2 = 0) : (prune m).1 = m := by
 unfold prune at h2 ⊢
 by_cases h1 : checked [m] ≠ 0
 ·rw [if_pos h1] at h2; exact absurd h2 h1
 rw [if_neg h1] at h2 ⊢;rw [sorted_self h.strict] at h2 ⊢;rw [pgo_self (Nat.le_refl _) h2 h.bare]
end Cv
theorem equalZ (d : Nat) (x y : Zn) (w : World) : (Op.equalIn (d + 1 + 1) 86 (.agg #[.int .i64 x.a, .int .i64 x.b, .int .i64 x.c, .int .i64 x.d, .int .i64 x.e, .int .i64 x.f]) (.agg #[.int .i64 y.a, .int .i64 y.b, .int .i64 y.c, .int .i64 y.d, .int .i64 y.e, .int .i64 y.f])).run Tryz.prog w = .ok (decide (x = y)) w := by
 have hu := Tryz.underlying86;have hb := Tryz.underlying84;have hs := Tryz.sizeOf84;have ha := Tryz.isAgg84;rw [Op.equalIn];simp only [Sem.run_bind, run_underlying hu, Result.andThen_ok, hs];have hpart : ∀ (vs : Array Value) (k : Nat) (v : Value), vs[k]? = some v -> (part 84 vs k).run Tryz.prog w = .ok v w := fun vs k v h => by
  simp [part, Sem.run_bind, ha, hs, Result.andThen_ok, h]
 have he : ∀ a b : Int, (Op.equalIn (d + 1) 84 (.int .i64 a) (.int .i64 b)).run Tryz.prog w = .ok (a == b) w := fun a b => run_equalIn_int w d _ _ _ a b hb;rw [Std.Legacy.Range.forIn_eq_forIn_range'];simp [Std.Legacy.Range.size, List.range', Sem.run_bind, hpart, he, Result.andThen_ok];have hxy : x = y ↔ (x.a = y.a /\ x.b = y.b /\ x.c = y.c /\ x.d = y.d /\ x.e = y.e /\ x.f = y.f) := by
  cases x; cases y; simp
 simp only [hxy]
 repeat' split
 all_goals simp_all
theorem run_eql_zn (x y : Zn) (w : World) : (binOp .eql 86 (.agg #[.int .i64 x.a, .int .i64 x.b, .int .i64 x.c, .int .i64 x.d, .int .i64 x.e, .int .i64 x.f]) (.agg #[.int .i64 y.a, .int .i64 y.b, .int .i64 y.c, .int .i64 y.d, .int .i64 y.e, .int .i64 y.f])).run Tryz.prog w = .ok (.bool (decide (x = y))) w := by
 rw [run_eql_struct, show (10000 : Nat) = 9998 + 1 + 1 from rfl, equalZ]; rfl
theorem run_neq_zn (x y : Zn) (w : World) : (binOp .neq 86 (.agg #[.int .i64 x.a, .int .i64 x.b, .int .i64 x.c, .int .i64 x.d, .int .i64 x.e, .int .i64 x.f]) (.agg #[.int .i64 y.a, .int .i64 y.b, .int .i64 y.c, .int .i64 y.d, .int .i64 y.e, .int .i64 y.f])).run Tryz.prog w = .ok (.bool (decide (x ≠ y))) w := by
 rw [run_neq_struct, show (10000 : Nat) = 9998 + 1 + 1 from rfl, equalZ];simp [Result.andThen]
theorem run_eql_znG (p q : Operand) (x y : Zn) (w : World) : (do eqGuard .eql 86 p q (.agg #[.int .i64 x.a, .int .i64 x.b, .int .i64 x.c, .int .i64 x.d, .int .i64 x.e, .int .i64 x.f]) (.agg #[.int .i64 y.a, .int .i64 y.b, .int .i64 y.c, .int .i64 y.d, .int .i64 y.e, .int .i64 y.f]); binOp .eql 86 (.agg #[.int .i64 x.a, .int .i64 x.b, .int .i64 x.c, .int .i64 x.d, .int .i64 x.e, .int .i64 x.f]) (.agg #[.int .i64 y.a, .int .i64 y.b, .int .i64 y.c, .int .i64 y.d, .int .i64 y.e, .int .i64 y.f]) : Sem Value).run Tryz.prog w = .ok (.bool (decide (x = y))) w := by
 have hg : (eqGuard .eql 86 p q (.agg #[.int .i64 x.a, .int .i64 x.b, .int .i64 x.c, .int .i64 x.d, .int .i64 x.e, .int .i64 x.f]) (.agg #[.int .i64 y.a, .int .i64 y.b, .int .i64 y.c, .int .i64 y.d, .int .i64 y.e, .int .i64 y.f])).run Tryz.prog w = .ok () w := run_eqGuard_agg _ _ _ _ _ _ _ (by kernel_rfl);rw [Sem.run_bind, hg];exact run_eql_zn x y w
theorem run_neq_znG (p q : Operand) (x y : Zn) (w : World) : (do eqGuard .neq 86 p q (.agg #[.int .i64 x.a, .int .i64 x.b, .int .i64 x.c, .int .i64 x.d, .int .i64 x.e, .int .i64 x.f]) (.agg #[.int .i64 y.a, .int .i64 y.b, .int .i64 y.c, .int .i64 y.d, .int .i64 y.e, .int .i64 y.f]); binOp .neq 86 (.agg #[.int .i64 x.a, .int .i64 x.b, .int .i64 x.c, .int .i64 x.d, .int .i64 x.e, .int .i64 x.f]) (.agg #[.int .i64 y.a, .int .i64 y.b, .int .i64 y.c, .int .i64 y.d, .int .i64 y.e, .int .i64 y.f]) : Sem Value).run Tryz.prog w = .ok (.bool (decide (x ≠ y))) w := by
 have hg : (eqGuard .neq 86 p q (.agg #[.int .i64 x.a, .int .i64 x.b, .int .i64 x.c, .int .i64 x.d, .int .i64 x.e, .int .i64 x.f]) (.agg #[.int .i64 y.a, .int .i64 y.b, .int .i64 y.c, .int .i64 y.d, .int .i64 y.e, .int .i64 y.f])).run Tryz.prog w = .ok () w := run_eqGuard_agg _ _ _ _ _ _ _ (by kernel_rfl);rw [Sem.run_bind, hg];exact run_neq_zn x y w
theorem elDZ : ElOk Tryz.prog 22 86 6 48 := elOk (z := .agg #[.int .i64 0, .int .i64 0, .int .i64 0, .int .i64 0, .int .i64 0, .int .i64 0]) Tryz.underlying22 (by kernel_rfl) rfl (by decide)
theorem tyDZ : TyOk Tryz.prog 86 ⟨[.int .i64 0, .int .i64 0, .int .i64 0, .int .i64 0, .int .i64 0, .int .i64 0], true⟩ := tyOk_agg Tryz.zeroValue86 Tryz.sizeOf86 Tryz.isAgg86 rfl
theorem deleteZ_any (l : List Zn) (g cap base i j : Nat) (e0 : TypeId) (he : e0 = 86) (hij : i < j) (hj : j <= l.length) (B : Nat) (w : World) (hB : B <= w.heap.size) (hg : B <= g) (hO : Own e0 base w (.slice (some ⟨g, 0, none⟩) l.length cap) l) (hlen : l.length <= 1000000) :
 Calls Tryz.prog 141 #[.slice (some ⟨g, 0, none⟩) l.length cap, .int .i64 i, .int .i64 j] w fun e w' => ∃ v, e = .returned v /\ Below B w w' /\ v = .slice (some ⟨g, 0, none⟩) (i + (l.length - j)) cap /\ Own e0 base w' (.slice (some ⟨g, 0, none⟩) (i + (l.length - j)) cap) (l.take i ++ l.drop j) /\ w.grownBy w' (some g) := by
 subst he;obtain ⟨_, hbg, hgl, cur0, _, hcap, hmax, _, _⟩ := hO.at0;have hm : cap <= 9223372036854775807 := by unfold maxLen at hmax; omega
 refine fun_at 0 B w hB Tryz.func141 (args := [.val (.slice (some ⟨g, 0, none⟩) l.length cap), .val (.int .i64 i), .val (.int .i64 j)]) rfl rfl ?_;refine Need.mk ⟨by omega, by omega, by omega, by omega⟩ ?_;refine Branch.no (by simp; omega) ?_;refine DrawI.wr (.tk 0 (.tk 1 (.tk 2 (.tk 3 (.tk 4 (.tk 5 (.ev 6 (.tk 7 .done)))))))) [] [g] (by kernel_rfl) rfl (fun _ h => by cases h) fun w1 h1 => ?_;refine Need.mk ⟨by omega, by omega, by omega⟩ ?_;refine Need.mk ⟨by omega, by omega, by omega⟩ ?_;have hdl : (l.drop j).length = l.length - j := by simp
 have hil : (l.take i).length = i := by simp; omega
 refine GenN.mk fun w2 h2 => ?_;have k2 := h1.go.trans (h2.go.mono h1.size);have hO2 : Own 86 base w2 (.slice (some ⟨g, 0, none⟩) l.length cap) l := hO.below k2;have hT := hO2.take i (by omega);have hs0 := (hO2.sl).sub j l.length hj (Nat.le_refl _);rw [List.take_of_length_le (by simp)] at hs0;obtain ⟨hl, hs⟩ := hs0.src
 have happ : ∃ w', (Builtin.append_ #[22, 22] 22 #[.slice (some ⟨g, 0, none⟩) i cap, .slice (if cap = j then some ⟨g, 0, none⟩ else (some (⟨g, 0, none⟩ : Addr)).map (·.add (j * size Zn))) (l.length - j) (cap - j)]).run Tryz.prog w2 = .ok (.slice (some ⟨g, 0, none⟩) (i + (l.length - j)) cap) w' /\
  Own 86 base w' (.slice (some ⟨g, 0, none⟩) (i + (l.length - j)) cap) (l.take i ++ l.drop j) /\ w2.grownBy w' (some g) := by
  obtain ⟨ht, ⟨inf, z, hi, hz, hss, hb, hzs⟩, hp⟩ := elDZ;have hown : w2.ownsRow base 86 (size Zn) (.slice (some ⟨g, 0, none⟩) i cap) i (cellsL (l.take i)) := by have := hT; unfold Own at this; rwa [hil] at this
  rcases hs with ⟨e0, hm0⟩ | ⟨ad, c, e0, hc⟩
  ·split at e0 <;> simp at e0
  ·rw [e0]
   rw [hdl] at hl ⊢;obtain ⟨w', a1, a2, a3⟩ := run_append_fits (P := Tryz.prog) w2 base 22 22 86 inf (size Zn) ht hi hss g i cap (cellsL (l.take i)) hown ad (l.length - j) c (cellsL (l.drop j)) hl hc (cellsL_one _) (by omega);refine ⟨w', a1, ?_, a3⟩;unfold Own;rw [cellsL_append, List.length_append, hil, hdl]; exact a2
 obtain ⟨w3, hr3, hO3, hg3⟩ := happ;refine ⟨.slice (some ⟨g, 0, none⟩) (i + (l.length - j)) cap, w3, ?_, kpD_grown h2 hg3 (fun k hk => by injection hk with hk; subst hk; exact ⟨hg, by simp, .inl (by simp [locs])⟩), ?_⟩
 ·exact run_value hr3
 have hnl : (l.take i ++ l.drop j).length = i + (l.length - j) := by rw [List.length_append, hil, hdl]
 refine Need.mk ⟨by omega, by omega, by omega⟩ ?_;refine GenN.mk fun w4 h4 => ?_;have hO4 := hO3.below h4.go;have g4 : w.grownBy w4 (some g) := grown_below (grown_trans (grown_below (grown_refl w (some g)) k2) hg3) h4.go;obtain ⟨_, _, hgl4, cur, hc4, _, _, hs4, _⟩ := hO4.at0;have hlo : i + (l.length - j) < l.length := by omega
 have hroom : (i + (l.length - j)) * size Zn + (j - i) * size Zn <= cur.size := by
  rw [hs4, <- Nat.add_mul]; exact Nat.mul_le_mul_right _ (by omega)
 obtain ⟨vs, hvl, hrun⟩ := run_clear (P := Tryz.prog) (c := cap - (i + (l.length - j))) elDZ.ht tyDZ (by decide) (o := (i + (l.length - j)) * size Zn) (n := j - i) hc4 hroom (by omega);have hvl' : vs.length = (j - i) * size Zn := hvl;refine ⟨_, _, hrun _ _ _ ?_, ⟨below_setRow (Below.refl _ _) hg _, fun b hb => by cases hb⟩, ?_⟩
 ·show Value.slice (if cap = _ then _ else _) _ _ = _
  rw [if_neg (by simp only [Int.toNat_natCast]; omega)];simp only [Int.toNat_natCast, Option.map_some, addr_addL, Nat.zero_add, Value.slice.injEq, true_and];exact ⟨rfl, by omega, trivial⟩
 refine EndI.mk fun w5 h5 => ?_;refine ⟨rfl, (hO4.setRow hc4 _ vs (by rw [hnl]; exact Nat.le_refl _) (by rw [hvl']; exact hroom)).below h5.go, ?_⟩;exact grown_below (grown_trans g4 (grown_setRow w4 g _)) h5.go
theorem compactZ_few (v : Value) (l : List Zn) (a : Option Addr) (cap : Nat) (hl : l.length < 2) (w : World) :
 Calls Tryz.prog 137 #[.slice a l.length cap] w fun e w' => e = .returned (.slice a l.length cap) /\ Below w.heap.size w w' := by
 refine fun_eq 0 w Tryz.func137 (args := [.val (.slice a l.length cap)]) rfl rfl ?_;refine Branch.yes (by simp; omega) ?_;exact EndI.mk fun w9 h9 => rfl
theorem compactZ_any (l : List Zn) (g cap base : Nat) (h2 : 2 <= l.length) (B : Nat) (w : World) (hB : B <= w.heap.size) (hg : B <= g) (hO : Own 86 base w (.slice (some ⟨g, 0, none⟩) l.length cap) l) (hlen : l.length <= 1000000) :
 Calls Tryz.prog 137 #[.slice (some ⟨g, 0, none⟩) l.length cap] w fun e w' => ∃ v, e = .returned v /\ Below B w w' /\ v = .slice (some ⟨g, 0, none⟩) (Cv.cpt l).length cap /\ Own 86 base w' (.slice (some ⟨g, 0, none⟩) (Cv.cpt l).length cap) (Cv.cpt l) /\ w.grownBy w' (some g) := by
 obtain ⟨_, hbg, hgl, cur0, _, hcap, hmax, _, _⟩ := hO.at0;have hm : cap <= 9223372036854775807 := by unfold maxLen at hmax; omega
 refine fun_at 0 B w hB Tryz.func137 (args := [.val (.slice (some ⟨g, 0, none⟩) l.length cap)]) rfl rfl ?_;refine Branch.no (by simp; omega) ?_;refine LoopI.invC (α := Nat × World) (fun y => [(3, .val (.int .i64 (y.1 + 1 : Nat)))]) (fun y => y.2) (fun y => y.1 + 1 <= l.length /\ Below w.heap.size w y.2 /\ ∀ j x y0, j < y.1 -> l[j]? = some y0 -> l[j + 1]? = some x -> x ≠ y0) (fun y => l.length - y.1) ?_ ?_
 ·intro w1 h1
  exact ⟨(0, w1), Cov.au rfl rfl rfl rfl rfl, rfl, by omega, h1.go, fun j x y hj => by omega⟩
 rintro ⟨k, V⟩ ⟨hk, hV, hall⟩;simp only at hk hV hall;refine Branch.mk (fun hc => ?_) (fun hc => ?_)
 ·have hlt : k + 1 < l.length := by simp only at hc; have := of_decide_eq_true hc; omega
  refine DrawI.go (.tk 0 (.tk 1 (.tk 2 (.tk 3 (.tk 4 (.tk 5 (.tk 6 (.tk 7 (.tk 8 (.ev 9 .done)))))))))) (by kernel_rfl) fun w2 h2 => ?_;have hV2 : Below w.heap.size w w2 := hV.trans (h2.go.mono hV.size);have hO2 := hO.below hV2;have hS2 := hO2.sl;have hx := List.getElem?_eq_getElem (l := l) (i := k + 1) hlt;have hy := List.getElem?_eq_getElem (l := l) (i := k) (by omega);generalize l[k + 1] = x at hx;generalize l[k]'(by omega) = y at hy;refine hS2.idx hx fun ad had => ?_;refine hS2.ld hx had (Below.refl _ _) (by simp) ?_;refine Need.ok ?_
  conv => whnf
  rw [show (((k + 1 : Nat) : Int) - 1) = ((k : Nat) : Int) by omega];refine hS2.idx hy fun ad2 had2 => ?_;refine hS2.ld hy had2 (Below.refl _ _) (by simp) ?_;refine GenV.to (x := .bool (decide (x = y))) (fun w => run_eql_znG _ _ x y w) fun w3 h3 => ?_;have hV3 : Below w.heap.size w w3 := hV2.trans (h3.go.mono hV2.size);refine Branch.mk (fun hc2 => ?_) (fun hc2 => ?_)
  ·have hxy : x = y := by simpa using hc2
   have hnd : Cv.cpt (l.take (k + 2)) = l.take (k + 1) := by
    rw [Cv.cpt_step hy hx, if_pos hxy];refine Cv.cpt_all fun j x y hy hx => ?_;rw [List.getElem?_take] at hy hx;split at hx
    ·rename_i hj
     rw [if_pos (by omega)] at hy;exact hall j x y (by omega) hy hx
    ·cases hx
   refine Need.mk ⟨by omega, by omega, by omega⟩ ?_
   refine LoopI.invC (α := (Nat × Nat × List Zn) × World) (fun y => [(3, .val (.int .i64 (y.1.1 : Nat))), (5, .val (.int .i64 (y.1.2.1 + 1 : Nat)))]) (fun y => y.2)
    (fun y => k + 1 + y.1.2.1 + 1 <= l.length /\ y.1.1 <= k + 1 + y.1.2.1 /\ 1 <= y.1.1 /\ y.1.2.2.length = l.length /\ (∀ j, k + 1 + y.1.2.1 <= j -> y.1.2.2[j]? = l[j]?) /\ y.1.2.2.take y.1.1 = Cv.cpt (l.take (k + 1 + y.1.2.1 + 1)) /\ Own 86 base y.2 (.slice (some ⟨g, 0, none⟩) l.length cap) y.1.2.2 /\ Below B w y.2 /\ w.grownBy y.2 (some g)) (fun y => l.length - y.1.2.1) ?_ ?_
   ·intro w4 h4
    have h4' : Below w.heap.size w w4 := hV3.trans (h4.go.mono hV3.size);exact ⟨((k + 1, 0, l), w4), Cov.au rfl rfl rfl rfl rfl, rfl, ⟨by show k + 1 + 0 + 1 <= l.length; omega, by show k + 1 <= k + 1 + 0; omega, by show 1 <= k + 1; omega, rfl, fun _ _ => rfl, hnd.symm, hO.below h4', h4'.mono hB, below_grown h4' _⟩⟩
   rintro ⟨⟨kw, q, m⟩, U⟩ ⟨i1, i2, i3, i4, i5, i6, i7, i8, i9⟩;simp only at i1 i2 i3 i4 i5 i6 i7 i8 i9;refine Branch.mk (fun hc3 => ?_) (fun hc3 => ?_)
   ·have hlt2 : k + 1 + q + 1 < l.length := by simp only at hc3; have := of_decide_eq_true hc3; omega
    refine DrawI.go (.tk 0 (.tk 1 (.tk 2 (.tk 3 (.tk 4 (.tk 5 (.tk 6 (.tk 7 (.tk 8 (.ev 9 .done)))))))))) (by kernel_rfl) fun w5 h5 => ?_;have hg5 : Below U.heap.size U w5 := h5.go;have j7 := i7.below hg5;have hT := fun (X : World) (hX : Own 86 base X (.slice (some ⟨g, 0, none⟩) l.length cap) m) => (hX.sl).sub (k + 1) l.length (by omega) (by omega);have eT : ∀ j z, m[k + 1 + j]? = some z -> ((m.drop (k + 1)).take (l.length - (k + 1)))[j]? = some z := fun j z hz => by
     have := (List.getElem?_eq_some_iff.1 hz).1;rw [List.getElem?_take, if_pos (by omega), List.getElem?_drop]; exact hz
    have hx1 := List.getElem?_eq_getElem (l := l) (i := k + 1 + (q + 1)) (by omega);have hy1 := List.getElem?_eq_getElem (l := l) (i := k + 1 + q) (by omega);generalize l[k + 1 + (q + 1)]'(by omega) = x1 at hx1;generalize l[k + 1 + q]'(by omega) = y1 at hy1;have hS5 := hT w5 j7;refine hS5.idx (eT (q + 1) x1 ((i5 _ (by omega)).trans hx1)) fun ad3 had3 => ?_;refine hS5.ld (eT (q + 1) x1 ((i5 _ (by omega)).trans hx1)) had3 (Below.refl _ _) (by simp) ?_;refine Need.ok ?_
    conv => whnf
    rw [show (((q + 1 : Nat) : Int) - 1) = ((q : Nat) : Int) by omega];refine hS5.idx (eT q y1 ((i5 _ (by omega)).trans hy1)) fun ad4 had4 => ?_;refine hS5.ld (eT q y1 ((i5 _ (by omega)).trans hy1)) had4 (Below.refl _ _) (by simp) ?_;refine GenV.to (x := .bool (decide (x1 ≠ y1))) (fun w => run_neq_znG _ _ x1 y1 w) fun w6 h6 => ?_;have hg6 : Below w5.heap.size w5 w6 := h6.go;have j8 := j7.below hg6;have hcp := Cv.cpt_step (l := l) (k := k + 1 + q) hy1 (by rw [Nat.add_assoc]; exact hx1);have hU6 : Below U.heap.size U w6 := hg5.trans (hg6.mono hg5.size);have hUs : B <= U.heap.size := Nat.le_trans hB i8.size;refine Branch.mk (fun hc4 => ?_) (fun hc4 => ?_)
    ·have hne : x1 ≠ y1 := by simpa using hc4
     rw [if_neg hne] at hcp;have hS6 := hT w6 j8;refine hS6.idx (eT (q + 1) x1 ((i5 _ (by omega)).trans hx1)) fun ad5 had5 => ?_;refine hS6.ld (eT (q + 1) x1 ((i5 _ (by omega)).trans hx1)) had5 (Below.refl _ _) (by simp) ?_;have hmk := List.getElem?_eq_getElem (l := m) (i := kw) (by omega);refine (j8.sl).idx hmk fun ad6 had6 => ?_;injection had6 with had6; subst had6;refine Need.mk rfl ?_;refine ⟨fun w7 h7 => ?_⟩;have hg7 : Below w6.heap.size w6 w7 := h7.go;have j9 := j8.below hg7;obtain ⟨_, _, _, cur, hcur, _, _, hcs, _⟩ := j9.at0;have eo : (⟨g, 0, none⟩ : Addr).add ((kw : Int).toNat * 6) = ⟨g, kw * 6, none⟩ := by rw [addr_addL, Nat.zero_add, Int.toNat_natCast]
     have hset := j9.set hcur kw (by omega) x1;have hU7 : Below U.heap.size U w7 := hU6.trans (hg7.mono hU6.size);refine ⟨g, kw * 6, cur, _, eo, hcur, ?_, ⟨below_setRow (Below.refl _ _) hg _, fun b hb => by cases hb⟩, ?_⟩
     ·have := Nat.mul_le_mul_right 6 (show kw + 1 <= cap by omega)
      have hcs' : cur.size = cap * 6 := hcs;show kw * 6 + 6 <= cur.size;omega
     have hg8 : w.grownBy (w7.setRow g (cur.toList.take (kw * size Zn) ++ enc x1 ++ cur.toList.drop (kw * size Zn + (enc x1).length)).toArray) (some g) := grown_trans (grown_below i9 hU7) (grown_setRow _ _ _);have hb8 : Below B w (w7.setRow g (cur.toList.take (kw * size Zn) ++ enc x1 ++ cur.toList.drop (kw * size Zn + (enc x1).length)).toArray) := below_setRow (i8.trans (hU7.mono hUs)) hg _;refine Need.ok ?_;refine Need.ok (EndI.mk fun w9 h9 => ⟨((kw + 1, q + 1, m.set kw x1), w9), Cov.au rfl rfl rfl rfl rfl, rfl, ?_, by simp only; omega⟩);have h9g := h9.go;refine ⟨by simp only; omega, by simp only; omega, by simp only; omega, by simp only [List.length_set]; exact i4, fun j hj => ?_, ?_, hset.below h9g, hb8.trans (h9g.mono (Nat.le_trans hB hb8.size)), grown_below hg8 h9g⟩
     ·simp only at hj ⊢
      rw [List.getElem?_set_ne (by omega)]; exact i5 j (by omega)
     ·simp only
      rw [<- Nat.add_assoc, hcp, <- i6, List.take_add_one, List.getElem?_set_self (by omega), List.take_set_of_le (by omega)]; rfl
    ·have heq : x1 = y1 := by simpa using hc4
     rw [if_pos heq] at hcp;refine Need.ok (EndI.mk fun w9 h9 => ⟨((kw, q + 1, m), w9), Cov.au rfl rfl rfl rfl rfl, rfl, ?_, by simp only; omega⟩);have hU9 : Below U.heap.size U w9 := hU6.trans (h9.go.mono hU6.size);exact ⟨by simp only; omega, by simp only; omega, i3, i4, fun j hj => i5 j (by simp only at hj; omega), by simp only; rw [i6, <- Nat.add_assoc, hcp], i7.below hU9, i8.trans (hU9.mono hUs), grown_below i9 hU9⟩
   ·have hge : k + 1 + q + 1 = l.length := by simp only at hc3; have := of_decide_eq_false hc3; omega
    rw [hge, List.take_length] at i6;have hlk : (Cv.cpt l).length = kw := by rw [<- i6, List.length_take]; omega
    have hkw : kw < l.length := by omega
    rw [hlk];refine Need.mk (by refine ⟨?_, ?_, ?_⟩ <;> (try simp only) <;> omega) ?_;refine GenN.mk fun w4 h4 => ?_;have hO4 := i7.below h4.go;have g4 : w.grownBy w4 (some g) := grown_below i9 h4.go;have b4 : Below B w w4 := i8.trans (h4.go.mono (Nat.le_trans hB i8.size));obtain ⟨_, _, hgl4, cur, hc4, _, _, hs4, _⟩ := hO4.at0;have hroom : kw * size Zn + (l.length - kw) * size Zn <= cur.size := by
     rw [hs4, <- Nat.add_mul]; exact Nat.mul_le_mul_right _ (by omega)
    obtain ⟨vs, hvl, hrun⟩ := run_clear (P := Tryz.prog) (c := cap - kw) elDZ.ht tyDZ (by decide) (o := kw * size Zn) (n := l.length - kw) hc4 hroom (by omega);have hvl' : vs.length = (l.length - kw) * size Zn := hvl;refine ⟨_, _, hrun _ _ _ ?_, ⟨below_setRow (Below.refl _ _) hg _, fun b hb => by cases hb⟩, ?_⟩
    ·show Value.slice (if cap = _ then _ else _) _ _ = _
     rw [if_neg (by simp only [Int.toNat_natCast]; omega)];simp only [Int.toNat_natCast, Option.map_some, addr_addL, Nat.zero_add, Value.slice.injEq, true_and];exact ⟨rfl, trivial⟩
    have hml : (m.take kw).length = kw := by rw [List.length_take]; omega
    have hO4' := hO4;rw [<- i4] at hO4';have hOt := hO4'.take kw (by omega);rw [i6] at hOt;refine Need.mk (by refine ⟨?_, ?_, ?_⟩ <;> (try simp only) <;> omega) ?_;refine EndI.mk fun w5 h5 => ?_;refine ⟨rfl, (hOt.setRow hc4 _ vs (by rw [hlk]; exact Nat.le_refl _) (by rw [hvl']; exact hroom)).below h5.go, ?_⟩;exact grown_below (grown_trans g4 (grown_setRow w4 g _)) h5.go
  ·have hxy : x ≠ y := by simpa using hc2
   refine Need.ok (EndI.mk fun w9 h9 => ⟨(k + 1, w9), Cov.au rfl rfl rfl rfl rfl, rfl, ⟨hlt, hV3.trans (h9.go.mono hV3.size), fun j x' y' hj hy' hx' => ?_⟩, by simp only; omega⟩)
   by_cases hjk : j = k
   ·subst hjk; rw [hy] at hy'; rw [hx] at hx'; injection hy' with e1; injection hx' with e2; subst e1; subst e2; exact hxy
   ·exact hall j x' y' (by omega) hy' hx'
 ·have hge : k + 1 = l.length := by simp only at hc; have := of_decide_eq_false hc; omega
  have hall' : Cv.cpt l = l := Cv.cpt_all fun j x y hy hx => hall j x y (by have := (List.getElem?_eq_some_iff.1 hx).1; omega) hy hx;rw [hall'];refine EndI.mk fun w9 h9 => ?_;have h9' : Below w.heap.size w w9 := hV.trans (h9.go.mono hV.size);exact ⟨rfl, hO.below h9', below_grown h9' _⟩
theorem compactZ_own (l : List Zn) (v : Value) (base B : Nat) (w : World) (hB : B <= w.heap.size) (hBb : B <= base) (hO : Own 86 base w v l) (hlen : l.length <= 1000000) :
 Calls Tryz.prog 137 #[v] w fun e w' => ∃ v', e = .returned v' /\ Below B w w' /\ Own 86 base w' v' (Cv.cpt l) /\ w.grownBy w' v.ownBlock := by
 have hl1 : l.length < 2 -> Cv.cpt l = l := fun h => Cv.cpt_all fun j x y hy hx => by have := (List.getElem?_eq_some_iff.1 hx).1; omega
 obtain ⟨a, c, rfl⟩ := hO.form
 by_cases h2 : l.length < 2
 ·refine (compactZ_few (.slice a l.length c) l a c h2 w).mono ?_
  rintro e w' ⟨rfl, hB'⟩;exact ⟨_, rfl, hB'.mono hB, by rw [hl1 h2]; exact hO.below hB', below_grown hB' _⟩
 ·obtain ⟨_, ⟨e, h0⟩ | ⟨g, cap, cur, e, hbg, _⟩⟩ := id hO
  ·omega
  injection e with e1 e2 e3;subst e1; subst e3;refine (compactZ_any l g c base (by omega) B w hB (by omega) hO hlen).mono ?_;rintro e w' ⟨v, rfl, hB', rfl, hO', hg⟩;exact ⟨_, rfl, hB', hO', hg⟩
theorem prune_any (l : List Zn) (a : Option Addr) (cap : Nat) (w : World) (hS : Sl w.heap.size w (.slice a l.length cap) l) :
 Calls Tryz.prog 94 #[.slice a l.length cap] w (Ret w fun v w' => ∃ a' c', v = .tuple #[.slice a' (Cv.prune l).1.length c', .int .i64 (Cv.prune l).2] /\ Own 86 w.heap.size w' (.slice a' (Cv.prune l).1.length c') (Cv.prune l).1) := by
 refine fun_ret 9 w Tryz.func94 (args := [.val (.slice a l.length cap)]) rfl rfl ?_;refine NewI.mk fun b2 hb2 => ?_;apply CallI.use1
 ·exact fun w1 h1 => checked_any [⟨a, l.length, cap⟩] [l] _ _ w1 (shown_one (hS.go h1.below h1.below.size) rfl) (Sl.own (l := [(⟨a, l.length, cap⟩ : Svl)]) h1 0 rfl rfl rfl (Nat.le_refl _) (by simp [maxLen]))
 intro w1 v1 h1 hB1;have hv1 : Below w.heap.size w v1 := h1.below.trans (hB1.mono h1.below.size);unfold Cv.prune;refine Branch.mk (fun hc => ?_) (fun hc => ?_)
 ·have h0 : Cv.checked [l] ≠ 0 := by simpa using hc
  rw [if_pos h0];exact EndI.mk fun w3 h3 => ⟨_, _, rfl, Own.nil⟩
 have h0 : Cv.checked [l] = 0 := by simpa using hc
 rw [if_neg (by simp [h0])];obtain ⟨hl4, _⟩ := Cv.checked_one.1 h0;apply CallI.mk;intro w3 h3;refine (callsIn_wide.1 (valuesZ_in 9 a l.length cap w3)).mono ?_;rintro e w4 ⟨rfl, rfl⟩;have hB4 : Below w3.heap.size w3 (w3.alloc (.cells #[.slice a l.length cap] 22)) := below_al (Below.refl _ _);refine ⟨h3.keep hB4, _, rfl, ?_⟩;have hBs : (w3.alloc (.cells #[.slice a l.length cap] 22)).cell? ⟨w3.heap.size, 0, none⟩ = some (.slice a l.length cap) := by simp
 have hsz : w3.heap.size < (w3.alloc (.cells #[.slice a l.length cap] 22)).heap.size := by simp
 have hw3 : Below w.heap.size w w3 := h3.below;have hw4 := hw3.trans (hB4.mono hw3.size);have hb3 := h3.lt b2 (by simp);have hw3s := hw3.size;generalize w3.alloc (.cells #[.slice a l.length cap] 22) = w4 at hBs hsz hw4 hB4;generalize hgs : w3.heap.size = Bs at hBs hsz hb3 hw3s;refine CallI.mk fun w5 h5 => ?_;have hg5 : Below w4.heap.size w4 w5 := at_below h5 (by simp);have hw5 := hw4.trans (hg5.mono hw4.size);refine (sortedZ_any Bs a cap l (by omega) w5 ((hg5.cell (p := ⟨Bs, 0, none⟩) hsz).trans hBs) (hS.go hw5 hw5.size)).mono ?_;rintro e w6 ⟨v6, rfl, hB6, hO6⟩;refine ⟨⟨hB6.mono hw3s, fun b hb => hB6.block b (by simp at hb; subst hb; exact hb3)⟩, _, rfl, ?_⟩;have hw6 := hw5.trans (hB6.mono hw3s);have hg5s := hg5.size;have hl6 : (Zo.sort l).length = l.length := Zo.sort_len l;obtain ⟨a6, c6, rfl⟩ := hO6.form;refine CallI.mk fun w7 h7 => ?_;have hg7 : Below w6.heap.size w6 w7 := at_below h7 (by simp);refine (compactZ_own (Zo.sort l) _ w5.heap.size w5.heap.size w7 (Nat.le_trans hB6.size hg7.size) (Nat.le_refl _) (hO6.below hg7) (by omega)).mono ?_;rintro e w8 ⟨v8, rfl, hB8, hO8, hg8⟩;refine ⟨⟨hB8.mono hw5.size, fun b hb => hB8.block b (by simp at hb; subst hb; omega)⟩, _, rfl, ?_⟩;have hw7 := hw6.trans (hg7.mono hw6.size);have hw8 := hw7.trans (hB8.mono hw5.size);change Own 86 w5.heap.size w8 v8 (Cv.sorted l) at hO8;have hls : (Cv.sorted l).length <= l.length := Cv.sorted_len l;obtain ⟨a8, c8, rfl⟩ := hO8.form;generalize hso : Cv.sorted l = so at hO8 hls ⊢;refine Need.ok ?_
 refine LoopI.invC (α := Int × Value × List Zn × World) (fun y => [(6, .val (.int .i64 y.1)), (5, .val y.2.1)]) (fun y => y.2.2.2)
  (fun y => -1 <= y.1 /\ y.1 < y.2.2.1.length /\ y.2.2.1.length <= 4096 /\ Own 86 w.heap.size y.2.2.2 y.2.1 y.2.2.1 /\ Below w.heap.size w y.2.2.2 /\ Cv.pgo so.length so = Cv.pgo (y.1 + 1).toNat y.2.2.1) (fun y => (y.1 + 1).toNat) ?_ ?_
 ·intro w9 h9
  have hg9 : Below w8.heap.size w8 w9 := at_below h9 (by simp);exact ⟨((so.length : Int) - 1, .slice a8 so.length c8, so, w9), Cov.au rfl rfl rfl rfl rfl, rfl, by show -1 <= (so.length : Int) - 1; omega, by show (so.length : Int) - 1 < so.length; omega, by show so.length <= 4096; omega, (hO8.below hg9).lower hw5.size, hw8.trans (hg9.mono hw8.size), by show _ = Cv.pgo ((so.length : Int) - 1 + 1).toNat so; rw [show ((so.length : Int) - 1 + 1).toNat = so.length by omega]⟩
 rintro ⟨t, ov, out, U⟩ ⟨i1, i2, i3, i4, i5, i6⟩;simp only at i1 i2 i3 i4 i5 i6;obtain ⟨ao, co, rfl⟩ := i4.form;refine Branch.mk (fun hc2 => ?_) (fun hc2 => ?_)
 ·have ht0 : 0 <= t := by simp only at hc2; exact of_decide_eq_true hc2
  obtain ⟨m, rfl⟩ : ∃ m : Nat, t = m := ⟨t.toNat, by omega⟩;have hm : m < out.length := by omega
  have hgm := List.getElem?_eq_getElem (l := out) (i := m) hm;generalize out[m] = z at hgm;rw [show ((m : Int) + 1).toNat = m + 1 by omega, Cv.pgo_succ hgm] at i6;apply CallI.use
  focus (exact fun w10 h10 => cloneZ_any out ao co w10 ((i4.sl).go h10.go h10.size) (by omega))
  rintro v w10 v10 h10 hB10 hO10;have hg10 : Below U.heap.size U w10 := at_below h10 (by simp);have hU10 := i5.trans (hg10.mono i5.size);obtain ⟨ag, cg, rfl⟩ := hO10.form;obtain ⟨g, rfl⟩ : ∃ g, ag = some ⟨g, 0, none⟩ := by
   obtain ⟨_, ⟨e, h0⟩ | ⟨g, cap, cur, e, _⟩⟩ := id hO10
   ·omega
   ·injection e with e1 e2 e3; exact ⟨g, e1⟩
  have hgb := (hO10.lt g rfl).1;refine Need.ok ?_;refine CallI.mk fun w11 h11 => ?_;have hg11 : Below v10.heap.size v10 w11 := at_below h11 (by simp);refine (deleteZ_any out g cg w10.heap.size m (m + 1) _ rfl (by omega) (by omega) w10.heap.size w11 (Nat.le_trans hB10.size hg11.size) hgb (hO10.below hg11) (by omega)).mono ?_;rintro e w12 ⟨v, rfl, hB12, rfl, hO12, _⟩;refine ⟨⟨hB12.mono hU10.size, fun b hb => hB12.block b (by have := h10.lt b hb; exact this)⟩, _, rfl, ?_⟩;have hU12 := (hU10.trans (hB10.mono hU10.size)).trans (hg11.mono (Nat.le_trans hU10.size hB10.size)) |>.trans (hB12.mono hU10.size);have hel : (out.take m ++ out.drop (m + 1)) = out.eraseIdx m := (List.eraseIdx_eq_take_drop_succ out m).symm;have hell : m + (out.length - (m + 1)) = (out.eraseIdx m).length := by rw [List.length_eraseIdx, if_pos hm]; omega
  rw [hel, hell] at hO12;rw [hell];have hUU : Below U.heap.size U w12 := ((hg10.trans (hB10.mono hg10.size)).trans (hg11.mono (Nat.le_trans hg10.size hB10.size))).trans (hB12.mono hg10.size);have j4 := i4.below hUU;refine (j4.sl).idx hgm fun ad had => ?_;refine (j4.sl).ld hgm had (Below.refl _ _) (by simp) ?_;apply CallI.use1
  focus (exact fun w13 h13 => cin_any z (out.eraseIdx m) (some ⟨g, 0, none⟩) cg w13 ((hO12.below (at_below h13 (by simp))).sl))
  intro w13 v13 h13 hB13;have hg13 : Below w12.heap.size w12 w13 := at_below h13 (by simp);have hU13 : Below w12.heap.size w12 v13 := hg13.trans (hB13.mono hg13.size);generalize hI : Cv.in_ z (out.eraseIdx m) = I at *;obtain ⟨is, e⟩ := I;simp only at i6;refine Branch.mk (fun hc3 => ?_) (fun hc3 => ?_)
  ·have he : e ≠ 0 := by simpa using hc3
   rw [if_pos he] at i6;rw [i6];exact EndI.mk fun w9 h9 => ⟨_, _, rfl, Own.nil⟩
  have he : e = 0 := by simpa using hc3
  subst he;rw [if_neg (by simp)] at i6;refine Branch.mk (fun hc4 => ?_) (fun hc4 => ?_)
  ·have his : is = true := by simpa using hc4
   subst his;rw [if_pos rfl] at i6;refine Need.ok (EndI.mk fun w9 h9 => ⟨((m : Int) - 1, .slice (some ⟨g, 0, none⟩) (out.eraseIdx m).length cg, out.eraseIdx m, w9), Cov.au rfl rfl rfl rfl rfl, rfl, ?_, ?_⟩)
   ·have hg9 : Below v13.heap.size v13 w9 := at_below h9 (by simp)
    have hle : (out.eraseIdx m).length = out.length - 1 := by rw [List.length_eraseIdx, if_pos hm]
    refine ⟨by simp only; omega, by simp only; omega, by simp only; omega, ?_, ?_, ?_⟩
    ·exact ((hO12.below hU13).below hg9).lower hU10.size
    ·exact (hU12.trans (hU13.mono hU12.size)).trans (hg9.mono (Nat.le_trans hU12.size hU13.size))
    ·simp only; rw [i6, show ((m : Int) - 1 + 1).toNat = m by omega]
   ·simp only; omega
  ·have his : is = false := by simpa using hc4
   subst his;rw [if_neg (by simp)] at i6;refine Need.ok (EndI.mk fun w9 h9 => ⟨((m : Int) - 1, .slice ao out.length co, out, w9), Cov.au rfl rfl rfl rfl rfl, rfl, ?_, ?_⟩)
   ·have hg9 : Below v13.heap.size v13 w9 := at_below h9 (by simp)
    refine ⟨by simp only; omega, by simp only; omega, by simp only; omega, ?_, ?_, ?_⟩
    ·exact (j4.below hU13).below hg9
    ·exact (hU12.trans (hU13.mono hU12.size)).trans (hg9.mono (Nat.le_trans hU12.size hU13.size))
    ·simp only; rw [i6, show ((m : Int) - 1 + 1).toNat = m by omega]
   ·simp only; omega
 ·have htm : t = -1 := by simp only at hc2; have := of_decide_eq_false hc2; omega
  subst htm;have hp : Cv.pgo so.length so = (out, 0) := i6;rw [hp];exact EndI.mk fun w9 h9 => ⟨_, _, rfl, i4.below (at_below h9 (by simp))⟩
end
section
open Go.RowKit Go.Proofs.YtanhnllkccldhaaGreat.Eng Enc Builtin
theorem run_append_at {P : Program} {w : World} {t ty e : TypeId} {sz bytes : Nat} (hE : ElOk P t e sz bytes) (base : Nat) (v : Value) (n : Nat) (xs : List Value) (hown : w.ownsRow base e sz v n xs)
 (sv : Value) (m : Nat) (news : List Value) (hsrc : SrcC w sv sz m news) (h1 : ∀ u ∈ news, u.oneCell' = true) (h63 : n + m <= maxLen) (hbytes : (n + m) * bytes <= 140737488355328) (hbase : base <= w.heap.size) :
 ∃ v' w', (Builtin.append_ #[t, t] ty #[v, sv]).run P w = .ok v' w' /\ w'.ownsRow base e sz v' (n + m) (xs ++ news) /\ w.grownBy w' v.ownBlock /\ (v'.ownBlock = v.ownBlock \/ v'.ownBlock = some w.heap.size) := by
 obtain ⟨ht, ⟨i, z, hi, hz, hs, hb, hzs⟩, hp⟩ := hE;obtain ⟨hl, ⟨rfl, rfl⟩ | ⟨ad, c, rfl, hc⟩⟩ := hsrc
 ·have hn : news = [] := List.eq_nil_of_length_eq_zero (by simpa using hl)
  subst hn;exact ⟨v, w, run_append_owned_none w base t ty e i sz ht hi v n xs hown, by simpa using hown, ⟨rfl, rfl, rfl, Nat.le_refl _, fun _ _ _ => rfl⟩, .inl rfl⟩
 ·obtain ⟨v', w', a1, a2, a3, _, a4⟩ := run_append_own_at w base t ty e i z sz bytes ht hi hz hs hb hzs hp v n xs hown ad m c news hl hc h1 h63 hbytes hbase
  exact ⟨v', w', a1, a2, a3, a4⟩
theorem GenN.appAt {α : Type} [Enc α] {P : Program} {w0 : Base} {kp : List Nat -> World -> World -> Prop} {hp : List LB} {r L : List Nat} {w : World} {K : Value -> World -> Prop} {t ty e : TypeId} {bytes : Nat} {consts : Array Bool} {v sv : Value}
 (hE : ElOk P t e (size α) bytes) (l m : List α) (base : Nat) (hown : ∀ w1, At w0 hp r L w w1 -> Own e base w1 v l) (hsrc : ∀ w1, At w0 hp r L w w1 -> SrcC w1 sv (size α) m.length (cellsL m))
 (h63 : l.length + m.length <= maxLen) (hbytes : (l.length + m.length) * bytes <= 140737488355328) (hbase : ∀ w1, At w0 hp r L w w1 -> base <= w1.heap.size)
 (hkp : ∀ w1 w2, At w0 hp r L w w1 -> w1.grownBy w2 v.ownBlock -> kp r w1 w2) (hk : ∀ v' w1 w2, At w0 hp r L w w1 -> w1.grownBy w2 v.ownBlock -> Own e base w2 v' (l ++ m) -> (v'.ownBlock = v.ownBlock \/ v'.ownBlock = some w1.heap.size) -> K v' w2) :
 GenN P w0 kp (builtin .append #[t, t] ty consts #[v, sv]) hp r L w K := ⟨fun w1 h1 => by
 obtain ⟨v', w2, hrun, ho, hg, hat⟩ := run_append_at (ty := ty) hE base v _ _ (hown w1 h1) sv _ _ (hsrc w1 h1) (cellsL_one m) h63 hbytes (hbase w1 h1);refine ⟨v', w2, ?_, hkp w1 w2 h1 hg, hk v' w1 w2 h1 hg ?_ hat⟩
 ·simp only [builtin, Sem.run_bind, hrun, Result.andThen, Sem.run_pure]
 ·unfold Own; rw [cellsL_append, List.length_append]; exact ho⟩
end
section
open Go.RowKit Go.Proofs.YtanhnllkccldhaaGreat.Eng Enc
theorem any_flat (p : Zn -> Bool) (ls : List (List Zn)) : ls.any (fun l => l.any p) = ls.flatten.any p := by
 induction ls with
 | nil => rfl
 | cons x m ih => rw [List.any_cons, List.flatten_cons, List.any_append, ih]
theorem zschecked_any (ss : List Svl) (ls : List (List Zn)) (h8 : ls.length <= 8) (a : Option Addr) (cap : Nat) (w : World) (hA : Shown w.heap.size w ss ls) (hS : Sl w.heap.size w (.slice a ss.length cap) ss) :
 Calls Tryz.prog 35 #[.slice a ss.length cap] w fun e w' => e = .returned (.int .i64 (Cv.checked ls)) /\ Below w.heap.size w w' := by
 refine fun_eq 0 w Tryz.func35 (args := [.val (.slice a ss.length cap)]) rfl rfl ?_;have hA' := hA;obtain ⟨hlen, hA⟩ := hA;have hform := hS.form;obtain ⟨_, _, hfe, hcap1, hcap2, _⟩ := hform;injection hfe with _ _ hfe;subst hfe;unfold maxLen at hcap2;unfold Cv.checked;refine LoopI.invC (α := Nat × World) (fun y => [(10, .val (.int .i64 y.1))]) (fun y => y.2) (fun y => y.1 <= ss.length /\ Below w.heap.size w y.2 /\ ∀ l, l ∈ ls.take y.1 -> l.length <= 4096) (fun y => ss.length - y.1) ?_ ?_
 ·intro w1 h1
  exact ⟨(0, w1), Cov.au rfl rfl rfl rfl rfl, rfl, Nat.zero_le _, h1.below, by simp⟩
 rintro ⟨k, W⟩ ⟨hk, hW, hall⟩;refine Branch.mk (fun hc => ?_) (fun hc => ?_)
 ·have hlt : k < ss.length := by simpa using hc
  have hg := List.getElem?_eq_getElem (l := ss) (i := k) hlt;have hl := List.getElem?_eq_getElem (l := ls) (i := k) (by omega);obtain ⟨hs1, hs2⟩ := hA k _ _ hg hl;generalize ls[k]'(by omega) = l at hl hs1 hs2;have hSW := hS.go hW hW.size;refine hSW.idx hg fun ad had => ?_;refine hSW.ldv hg rfl had (Below.refl _ _) (by simp) ?_;refine Branch.mk (fun hc2 => ?_) (fun hc2 => ?_)
  ·have h4 : 4096 < l.length := by (have : (4096 : Int) < (ss[k]'hlt).len := by simpa using hc2); omega
   rw [if_pos (by rw [List.any_eq_true]; exact ⟨l, List.mem_of_getElem? hl, by simpa using h4⟩)];exact EndI.mk fun w3 h3 => rfl
  ·have hle : l.length <= 4096 := by (have : ¬ (4096 : Int) < (ss[k]'hlt).len := by simpa using hc2); omega
   refine Need.ok (EndI.mk fun w7 h7 => ⟨(k + 1, w7), Cov.au rfl rfl rfl rfl rfl, rfl, ⟨hlt, h7.below, fun y hy => ?_⟩, by simp only; omega⟩);have e : ls.take (k + 1) = ls.take k ++ [l] := by rw [List.take_add_one, hl]; rfl
   rw [e] at hy;rcases List.mem_append.1 hy with hy | hy
   ·exact hall y hy
   ·rw [List.mem_singleton.1 hy]; exact hle
 have hge : k = ls.length := by (have : ¬ k < ss.length := by simpa using hc); omega
 subst hge;rw [List.take_length] at hall;rw [if_neg (by rw [List.any_eq_true]; rintro ⟨x, hx, h⟩; have := hall x hx; simp at h; omega)];have hfl : ls.flatten.length <= 100000 := by
  have : ∀ (m : List (List Zn)), (∀ l, l ∈ m -> l.length <= 4096) -> m.flatten.length <= m.length * 4096 := fun m => by
   induction m with
   | nil => intro _; simp
   | cons x m ih =>
     intro h;have h1 := ih fun l hl => h l (List.mem_cons_of_mem _ hl);have h2 := h x (by simp);rw [List.flatten_cons, List.length_append, List.length_cons, Nat.succ_mul];omega
  have h1 := this ls hall;have h2 : ls.length * 4096 <= 8 * 4096 := Nat.mul_le_mul_right _ h8;omega
 clear hc hk;have hW : Below w.heap.size w W := hW;apply CallI.use
 focus (exact fun w2 h2 => concat_any ss ls hfl a cap w2 ⟨hlen, fun k s l hs hl => ⟨(hA k s l hs hl).1.go h2.below h2.below.size, (hA k s l hs hl).2⟩⟩ (hS.go h2.below h2.below.size))
 rintro v w2 v2 h2 hB2 ⟨a2, c2, rfl, hO2⟩;have hv2 : Below w.heap.size w v2 := h2.below.trans (hB2.mono h2.below.size);rw [any_flat];generalize ls.flatten = m at *;refine LoopI.invC (α := Nat × World) (fun y => [(21, .val (.int .i64 y.1))]) (fun y => y.2) (fun y => y.1 <= m.length /\ Below w.heap.size w y.2 /\ Below v2.heap.size v2 y.2 /\ (m.take y.1).any Cv.odd = false) (fun y => m.length - y.1) ?_ ?_
 ·intro w1 h1
  exact ⟨(0, w1), Cov.au rfl rfl rfl rfl rfl, rfl, Nat.zero_le _, h1.below, at_belowM h1 (by simp), by simp⟩
 rintro ⟨k, V⟩ ⟨hk, hV, hV2, hall2⟩;simp only at hk hV hV2 hall2;refine Branch.mk (fun hc => ?_) (fun hc => ?_)
 ·have hlt : k < m.length := by simpa using hc
  have hg := List.getElem?_eq_getElem (l := m) (i := k) hlt;generalize m[k] = x at hg;have hSV := (hO2.below hV2).sl;refine hSV.idx hg fun ad had => ?_;refine hSV.ld hg had (Below.refl _ _) (by simp) ?_;refine NewI.mk fun b1 hb1 => ?_;apply CallI.use1
  focus (exact fun w4 h4 => zcheck_any x w4)
  intro w4 v4 h4 hB4;refine Branch.mk (fun hc2 => ?_) (fun hc2 => ?_)
  ·have h1 : Zo.chk x ≠ 0 := by simpa using hc2
   have h8 : Zo.chk x = 8 := by unfold Zo.chk at h1 ⊢; split at h1 <;> simp_all
   rw [if_pos (by rw [List.any_eq_true]; exact ⟨x, List.mem_of_getElem? hg, by unfold Cv.odd; simpa using h1⟩), h8];exact EndI.mk fun w9 h9 => rfl
  ·have h1 : Zo.chk x = 0 := by simpa using hc2
   refine Need.ok (EndI.mk fun w9 h9 => ⟨(k + 1, w9), Cov.au rfl rfl rfl rfl rfl, rfl, ⟨hlt, h9.below, (hV2.trans ((at_belowM h4 (by simp <;> omega)).mono hV2.size)).trans ((hB4.mono (Nat.le_trans hV2.size h4.size)).trans ((at_belowM h9 (by simp <;> omega)).mono (Nat.le_trans hV2.size (Nat.le_trans h4.size hB4.size)))), ?_⟩, by simp only; omega⟩);simp only;rw [List.take_add_one, hg, List.any_append, hall2];simp [Cv.odd, h1]
 ·have hge : k = m.length := by (have : ¬ k < m.length := by simpa using hc); omega
  subst hge;rw [List.take_length] at hall2;rw [if_neg (by rw [hall2]; decide)];exact EndI.mk fun w9 h9 => rfl
theorem zsof_any (l : List Zn) (a : Option Addr) (cap : Nat) (w : World) (hS : Sl w.heap.size w (.slice a l.length cap) l) :
 Calls Tryz.prog 54 #[.slice a l.length cap] w (Ret w fun v w' => ∃ a' c', v = .tuple #[.slice a' (Cv.prune l).1.length c', .int .i64 (Cv.prune l).2] /\ Own TZ w.heap.size w' (.slice a' (Cv.prune l).1.length c') (Cv.prune l).1) := by
 refine fun_ret 0 w Tryz.func54 (args := [.val (.slice a l.length cap)]) rfl rfl ?_;apply CallI.use
 focus (exact fun w2 h2 => prune_any l a cap w2 (hS.go h2.below h2.below.size))
 rintro v w2 v2 h2 hB2 ⟨a2, c2, rfl, hO2⟩;exact EndI.mk fun w9 h9 => ⟨a2, c2, rfl, (hO2.lower h2.below.size).below (at_belowM h9 (by simp))⟩
namespace Zs
def come (f : Zn -> Zn × Int) : List Zn -> List Zn -> List Zn × Int
 | out, [] => Cv.prune out
 | out, x :: l => if (f x).2 = 0 then come f (out ++ [(f x).1]) l else if (f x).2 = 6 then come f out l else ([], (f x).2)
theorem come_cons (f : Zn -> Zn × Int) (out l : List Zn) (x : Zn) : come f out (x :: l) = if (f x).2 = 0 then come f (out ++ [(f x).1]) l else if (f x).2 = 6 then come f out l else ([], (f x).2) := rfl
end Zs
def KeptBut (row : Option Nat) (w W : World) : Prop := w.heap.size <= W.heap.size /\ ∀ k, k < w.heap.size -> some k ≠ row -> W.heap[k]? = w.heap[k]?
theorem KeptBut.refl (row : Option Nat) (w : World) : KeptBut row w w := ⟨Nat.le_refl _, fun _ _ _ => rfl⟩
theorem KeptBut.go {row : Option Nat} {w W X : World} (h : KeptBut row w W) (hB : Below W.heap.size W X) : KeptBut row w X :=
 ⟨Nat.le_trans h.1 hB.size, fun k hk hr => (hB.block k (Nat.lt_of_lt_of_le hk h.1)).trans (h.2 k hk hr)⟩
theorem KeptBut.grown {row r2 : Option Nat} {w W X : World} (h : KeptBut row w W) (hg : W.grownBy X r2) (hr : ∀ k, r2 = some k -> some k = row \/ w.heap.size <= k) : KeptBut row w X :=
 ⟨Nat.le_trans h.1 hg.size, fun k hk hn => (hg.block k (Nat.lt_of_lt_of_le hk h.1) (fun e => by rcases hr k e.symm with e2 | e2; exact hn e2; omega)).trans (h.2 k hk hn)⟩
theorem KeptBut.at {w0 : Base} {hp : List LB} {r L : List Nat} {row : Option Nat} {w W X : World} (h : KeptBut row w W) (h1 : At w0 hp r L W X) (hL : ∀ b, b ∈ L -> w.heap.size <= b) : KeptBut row w X :=
 ⟨Nat.le_trans h.1 h1.size, fun k hk hr => (h1.step k (Nat.lt_of_lt_of_le hk h.1) (fun hm => by have := hL k hm; omega)).trans (h.2 k hk hr)⟩
theorem Own.atNe {α : Type} [Enc α] {w0 : Base} {hp : List LB} {r L : List Nat} {e : TypeId} {base : Nat} {w w1 : World} {v : Value} {l : List α} (h : Own e base w v l) (h1 : At w0 hp r L w w1) (hL : ∀ g, v.ownBlock = some g -> g ∉ L) : Own e base w1 v l := by
 obtain ⟨hl, h0 | ⟨g, cap, cur, e1, e2, e3, e4⟩⟩ := id h
 ·exact ⟨hl, .inl h0⟩
 ·have hg := (Array.getElem?_eq_some_iff.1 e3).1
  exact ⟨hl, .inr ⟨g, cap, cur, e1, e2, (h1.step g hg (hL g (by rw [e1]; rfl))).trans e3, e4⟩⟩
theorem come_any (f : Zn -> Zn × Int) (fid : FuncId) (caps : Array Value) (en : Enters Tryz.prog fid) (out l : List Zn) (ov : Value) (a : Option Addr) (cap : Nat) (base : Nat) (ho : out.length <= 4096) (hl : l.length <= 4096) (w : World) (hb : base <= w.heap.size) (hO : Own TZ base w ov out)
 (hS : Sl base w (.slice a l.length cap) l)
 (hcall : ∀ x W, x ∈ l -> KeptBut ov.ownBlock w W -> Calls Tryz.prog fid (val x :: caps.toList).toArray W fun e W' => e = .returned (.tuple #[.agg #[.int .i64 (f x).1.a, .int .i64 (f x).1.b, .int .i64 (f x).1.c, .int .i64 (f x).1.d, .int .i64 (f x).1.e, .int .i64 (f x).1.f], .int .i64 (f x).2]) /\ Below W.heap.size W W') :
 Calls Tryz.prog 154 #[ov, .slice a l.length cap, .func (.func fid) #[] caps] w fun e w' => ∃ v, e = .returned v /\ Below base w w' /\ (KeptBut ov.ownBlock w w' /\ ∃ a' c', v = .tuple #[.slice a' (Zs.come f out l).1.length c', .int .i64 (Zs.come f out l).2] /\ Own TZ w.heap.size w' (.slice a' (Zs.come f out l).1.length c') (Zs.come f out l).1) := by
 obtain ⟨ao, co, rfl⟩ := hO.form;refine fun_at 0 base w hb Tryz.func154 (args := [.val (.slice ao out.length co), .val (.slice a l.length cap), .val (.func (.func fid) #[] caps)]) rfl rfl ?_;obtain ⟨_, _, hfe, hcap1, hcap2, _⟩ := hS.form;injection hfe with _ _ hfe;subst hfe;unfold maxLen at hcap2;generalize hrow : (Value.slice ao out.length co).ownBlock = row at *
 refine LoopI.invC (α := Nat × World × Value × List Zn) (fun y => [(14, .val (.int .i64 y.1)), (0, .val y.2.2.1)]) (fun y => y.2.1)
  (fun y => y.1 <= l.length /\ Below base w y.2.1 /\ KeptBut row w y.2.1 /\ Own TZ base y.2.1 y.2.2.1 y.2.2.2 /\ (∀ k, y.2.2.1.ownBlock = some k -> some k = row \/ w.heap.size <= k) /\ y.2.2.2.length <= 4096 + y.1 /\ Zs.come f out l = Zs.come f y.2.2.2 (l.drop y.1)) (fun y => l.length - y.1) ?_ ?_
 ·intro w1 h1
  have g1 := at_belowM h1 (by simp);exact ⟨(0, w1, .slice ao out.length co, out), Cov.au rfl rfl rfl rfl rfl, rfl, Nat.zero_le _, h1.below, (KeptBut.refl row w).go g1, hO.below g1, fun k hk => .inl (by rw [<- hrow]; exact hk.symm), by simp only; omega, rfl⟩
 rintro ⟨k, U, tv, ou⟩ ⟨hk, hU, hK, hOU, hrw, hlen, heq⟩;simp only at hk hU hK hOU hrw hlen heq;refine Branch.mk (fun hc => ?_) (fun hc => ?_)
 ·have hlt : k < l.length := by simpa using hc
  have hg := List.getElem?_eq_getElem (l := l) (i := k) hlt;have hdr : l.drop k = l[k]'hlt :: l.drop (k + 1) := List.drop_eq_getElem_cons hlt;have hmem := List.getElem_mem hlt;generalize l[k]'hlt = x at hg hdr hmem;rw [hdr] at heq;have hSU := hS.below hU;refine hSU.idx hg fun ad had => ?_;refine hSU.ld hg had (Below.refl _ _) (by simp) ?_;refine NewI.mk fun b1 hb1 => ?_;refine Need.mk en ?_;apply CallI.use1
  focus (exact fun w2 h2 => hcall x w2 hmem (hK.go (at_belowM h2 (by simp <;> omega))))
  intro w2 v2 h2 hB2;have g2 := at_belowM h2 (by simp <;> omega);refine NewI.mk fun b2 hb2 => ?_;have hKv := (hK.go g2).go hB2;have hOv := (hOU.below g2).below hB2;have hUv : Below base w v2 := h2.below.trans (hB2.mono (Nat.le_trans hb h2.below.size));have hub : U.heap.size <= v2.heap.size := Nat.le_trans g2.size hB2.size;have hb1' : U.heap.size <= b1 := hb1;have hb2' : v2.heap.size <= b2 := hb2;rw [Zs.come_cons] at heq;refine Branch.mk (fun hc2 => ?_) (fun hc2 => ?_)
  ·have h0 : (f x).2 = 0 := of_decide_eq_true hc2
   rw [if_pos h0] at heq;refine NewI.mk fun b3 hb3 => ?_;have hb3' : v2.heap.size <= b3 := hb3;have hnr : ∀ g, tv.ownBlock = some g -> base <= g /\ g ∉ [b1, b2, b3] := fun g hg => by
    have h5 := hOU.lt g hg;refine ⟨h5.1, fun hm => ?_⟩;simp only [List.mem_cons, List.not_mem_nil, or_false] at hm;omega
   have hbv : base <= v2.heap.size := Nat.le_trans hb (Nat.le_trans hK.1 hub);refine GenN.appAt (α := Zn) elZ ou [(f x).1] base (fun w5 h5 => hOv.atNe h5 (fun g hg hm => (hnr g hg).2 (by simp at hm ⊢ <;> omega))) (fun w5 h5 => src_own h5 2 rfl rfl rfl rfl) (by unfold maxLen; simp; omega) (by simp; omega) (fun w5 h5 => Nat.le_trans hbv h5.size) (fun w5 w6 h5 hg => keep_grown h5 hg hnr) fun v1 w5 w6 h5 hg hO1 hat => ?_;have hwU : w.heap.size <= U.heap.size := hK.1;have hK5 := hKv.at h5 (fun b hb => by simp at hb <;> omega);have hK6 := hK5.grown hg hrw;have hs5 := h5.size;have hs6 := hg.size;refine Need.ok (EndI.mk fun w7 h7 => ?_);have hr1 : ∀ g, v1.ownBlock = some g -> (some g = row \/ w.heap.size <= g) /\ g ∉ [b1, b2, b3] := fun g hgg => by
    rcases hat with e | e
    ·rw [e] at hgg; exact ⟨hrw g hgg, (hnr g hgg).2⟩
    ·rw [e] at hgg
     injection hgg with hgg;subst hgg;exact ⟨.inr (by omega), fun hm => by have := h5.lt _ hm; omega⟩
   exact ⟨(k + 1, w7, v1, ou ++ [(f x).1]), Cov.au rfl rfl rfl rfl rfl, rfl, ⟨hlt, h7.below, hK6.at h7 (fun b hb => by simp at hb <;> omega), hO1.atNe h7 (fun g hgg hm => (hr1 g hgg).2 (by simp at hm ⊢ <;> omega)), fun g hgg => (hr1 g hgg).1, by simp; omega, heq⟩, by simp only; omega⟩
  have h0 : ¬ (f x).2 = 0 := of_decide_eq_false hc2;rw [if_neg h0] at heq;refine Branch.mk (fun hc3 => ?_) (fun hc3 => ?_)
  ·have h6 : (f x).2 = 6 := of_decide_eq_true hc3
   rw [if_pos h6] at heq;refine Need.ok (EndI.mk fun w7 h7 => ?_);have hwU : w.heap.size <= U.heap.size := hK.1;exact ⟨(k + 1, w7, tv, ou), Cov.au rfl rfl rfl rfl rfl, rfl, ⟨hlt, h7.below, hKv.at h7 (fun b hb => by simp at hb <;> omega), hOv.atNe h7 (fun g hgg hm => by have := (hOU.lt g hgg).2; simp at hm; omega), hrw, by simp only; omega, heq⟩, by simp only; omega⟩
  ·have h6 : ¬ (f x).2 = 6 := of_decide_eq_false hc3
   rw [if_neg h6] at heq;rw [heq];have hwU : w.heap.size <= U.heap.size := hK.1;exact EndI.mk fun w7 h7 => ⟨hKv.at h7 (fun b hb => by simp at hb <;> omega), _, _, rfl, Own.nil⟩
 ·have hge : k = l.length := by (have : ¬ k < l.length := by simpa using hc); omega
  subst hge;rw [List.drop_length] at heq;change Zs.come f out l = Cv.prune ou at heq;rw [heq];obtain ⟨at_, ct, rfl⟩ := hOU.form;apply CallI.use
  focus (exact fun w2 h2 => zsof_any ou at_ ct w2 (hOU.below (at_belowM h2 (by simp))).sl)
  rintro v w2 v2 h2 hB2 ⟨a2, c2, rfl, hO2⟩;have hK2 := (hK.go (at_belowM h2 (by simp))).go hB2;exact EndI.mk fun w9 h9 => ⟨hK2.go (at_belowM h9 (by simp)), a2, c2, rfl, (hO2.lower (Nat.le_trans hK.1 h2.size)).below (at_belowM h9 (by simp))⟩
end
section
namespace Dbm
def lessr (L M : List Int) : List Int := (List.range L.length).map fun q => min (L[q]?.getD 0) (M[q]?.getD 0)
theorem lessr_len (L M : List Int) : (lessr L M).length = L.length := by simp [lessr]
def lessTo (L M : List Int) (k : Nat) : List Int := (List.range L.length).map fun q => if q < k then min (L[q]?.getD 0) (M[q]?.getD 0) else L[q]?.getD 0
theorem lessTo_len (L M : List Int) (k : Nat) : (lessTo L M k).length = L.length := by simp [lessTo]
theorem lessTo_zero (L M : List Int) : lessTo L M 0 = L := by
 apply List.ext_getElem
 ·simp [lessTo]
 ·intro i h1 h2; simp [lessTo, h2]
theorem lessTo_all (L M : List Int) : lessTo L M L.length = lessr L M := by
 unfold lessTo lessr;exact List.map_congr_left fun q hq => by rw [if_pos (List.mem_range.1 hq)]
theorem lessTo_get (L M : List Int) {k : Nat} (hk : k < L.length) : (lessTo L M k)[k]?.getD 0 = L[k]?.getD 0 := by
 unfold lessTo;rw [List.getElem?_map, List.getElem?_range hk];simp
theorem lessTo_succ (L M : List Int) {k : Nat} (hk : k < L.length) : lessTo L M (k + 1) = (lessTo L M k).set k (min (L[k]?.getD 0) (M[k]?.getD 0)) := by
 apply List.ext_getElem
 ·simp [lessTo]
 ·intro i h1 h2
  have hi : i < L.length := by simpa [lessTo] using h1
  rw [List.getElem_set];simp only [lessTo, List.getElem_map, List.getElem_range]
  by_cases e : k = i
  ·subst e; rw [if_pos rfl, if_pos (by omega)]
  ·rw [if_neg e]
   by_cases h : i < k
   ·rw [if_pos h, if_pos (by omega)]
   ·rw [if_neg h, if_neg (by omega)]
end Dbm
namespace Tg
def enumF (M : List Int) : Nat -> List Rt
 | 0 => []
 | k + 1 => enumF M k ++ [⟨(k : Nat), M[k]?.getD 0⟩]
theorem enumF_len (M : List Int) (k : Nat) : (enumF M k).length = k := by
 induction k with
 | zero => rfl
 | succ k ih => simp [enumF, ih]
theorem enumF_mem {M : List Int} {k : Nat} {x : Rt} (h : x ∈ enumF M k) : 0 <= x.num /\ x.num < k := by
 induction k with
 | zero => cases h
 | succ k ih =>
   rcases List.mem_append.1 h with h | h
   ·have := ih h; omega
   ·rw [List.mem_singleton.1 h]; simp only; omega
theorem more_enum (L M : List Int) (k : Nat) (hk : k <= L.length) : more L (enumF M k) = Dbm.lessTo L M k := by
 induction k with
 | zero => rw [Dbm.lessTo_zero]; rfl
 | succ k ih =>
   rw [Dbm.lessTo_succ L M (by omega), <- ih (by omega)];show (enumF M k ++ [_]).foldl _ L = _;rw [List.foldl_append];show (more L (enumF M k)).set _ (min ((more L (enumF M k))[_]?.getD 0) _) = _;rw [Int.toNat_natCast, ih (by omega), Dbm.lessTo_get L M (by omega)]
def meet (n : Int) (L : List Int) (m : Int) (M : List Int) : Int × List Int × Int :=
 if Dbm.chk n L ≠ 0 \/ Dbm.chk m M ≠ 0 then (0, [], 8) else if n ≠ m then (0, [], 40) else Dbm.close n (Dbm.lessr L M)
end Tg
end
section
open Go.RowKit Go.Proofs.YtanhnllkccldhaaGreat.Eng Enc
namespace Cmp
def pl (c0 c1 c2 : Nat) (k : Nat) : Nat := 4 * (if k / 3 = 0 then c0 else if k / 3 = 1 then c1 else c2) + (if k % 3 = 0 then c0 else if k % 3 = 1 then c1 else c2)
def put (c0 c1 c2 : Nat) (M L : List Int) : Nat -> List Int
 | 0 => L
 | k + 1 => (put c0 c1 c2 M L k).set (pl c0 c1 c2 k) (min ((put c0 c1 c2 M L k)[pl c0 c1 c2 k]?.getD 0) (M[k]?.getD 0))
theorem put_len (c0 c1 c2 : Nat) (M L : List Int) (k : Nat) : (put c0 c1 c2 M L k).length = L.length := by
 induction k with
 | zero => rfl
 | succ k ih => simp [put, ih]
end Cmp
theorem Zo.chk_mat {z : Zn} (h : Zo.chk z = 0) : Zo.mat z = (3, Zo.matL z, 0) := by
 have hk := Zo.chk_eq.1 h;unfold Zo.mat;unfold Dbm.close at hk;split at hk
 ·rename_i h0; rw [if_pos h0]
 ·simp at hk
theorem three_at (x y v : Int) (i : Nat) (w : World) (h : i < 3) : (Instr.index 200 (.agg #[.int .i64 x, .int .i64 y, .int .i64 v]) (.int .i64 i)).run Tryz.prog w = .ok (.int .i64 (if i = 0 then x else if i = 1 then y else v)) w := by
 have : i = 0 \/ i = 1 \/ i = 2 := by omega
 rcases this with rfl | rfl | rfl <;> rfl
theorem zMatrixF_any (z : Zn) (w : World) :
 Calls Tryz.prog 159 #[.agg #[.int .i64 z.a, .int .i64 z.b, .int .i64 z.c, .int .i64 z.d, .int .i64 z.e, .int .i64 z.f]] w (Ret w fun v w' => ∃ a' c', v = .tuple #[.agg #[.int .i64 (Zo.mat z).1, .slice a' (Zo.mat z).2.1.length c'], .int .i64 (Zo.mat z).2.2] /\ Fresh TB w.heap.size w' (.slice a' (Zo.mat z).2.1.length c') (Zo.mat z).2.1) := by
 refine fun_ret 0 w Tryz.func159 (args := [.agg [.val (.int .i64 z.a), .val (.int .i64 z.b), .val (.int .i64 z.c), .val (.int .i64 z.d), .val (.int .i64 z.e), .val (.int .i64 z.f)]]) rfl rfl ?_;have st := Stay.first (w := w)
 refine NewI.mk fun b1 hb1 => ?_;refine NewI.mk fun b2 hb2 => ?_;apply CallI.use
 focus (exact fun w1 h1 => zmatrix_any z w1)
 rintro v w1 v1 h1 hB1 ⟨a1, c1, rfl, hF1⟩;have st := st.nx h1 hB1;refine NewI.mk fun b3 hb3 => ?_;unfold Zo.mat;apply CallI.use1
 focus (exact fun w2 h2 => dcheck_any 3 a1 c1 (Zo.matL z) w2 (hF1.sl.st (st.at h2)))
 intro w2 v2 h2 hB2;have st := st.nx h2 hB2;refine Branch.mk (fun hc => ?_) (fun hc => ?_)
 ·have h0 : ¬ Dbm.chk 3 (Zo.matL z) = 0 := by simpa using hc
  have h8 := (Dbm.chk_cases 3 (Zo.matL z)).resolve_left h0;rw [if_neg h0, h8];exact EndI.mk fun w9 h9 => ⟨_, _, rfl, .inl ⟨rfl, rfl⟩⟩
 have h0 : Dbm.chk 3 (Zo.matL z) = 0 := by simpa using hc
 rw [if_pos h0];exact EndI.mk fun w9 h9 => ⟨_, _, rfl, ((hF1.st st).at h9 (fun b hb => by have := h1.lt b1 (by simp); have := h1.lt b2 (by simp); simp at hb; omega)).lower h1.below.size⟩
structure Cmp.At (B g g1 cap : Nat) (M0 : List Int) (X : World) (row : List Int) : Prop where
 box : X.heap[B]? = some (.cells #[.int .i64 4, .slice (some ⟨g, 0, none⟩) 16 cap] 81 (0, 0))
 row : RowAt TB X g row
 mat : RowAt TB X g1 M0
section
variable {B g g1 cap : Nat} {M0 : List Int} {X Y : World} {row : List Int}
theorem Cmp.At.to (h : Cmp.At B g g1 cap M0 X row) (k : ∀ j, j = B \/ j = g \/ j = g1 -> Y.heap[j]? = X.heap[j]?) : Cmp.At B g g1 cap M0 Y row :=
 ⟨(k B (.inl rfl)).trans h.box, h.row.kept (k g (.inr (.inl rfl))), h.mat.kept (k g1 (.inr (.inr rfl)))⟩
theorem Cmp.At.at {w0 : Base} {hp : List LB} {r L : List Nat} (h : Cmp.At B g g1 cap M0 X row) (h1 : Eng.At w0 hp r L X Y) (hL : ∀ b, b ∈ L -> b ≠ B /\ b ≠ g /\ b ≠ g1) : Cmp.At B g g1 cap M0 Y row :=
 h.to fun j hj => h1.step j (by rcases hj with rfl | rfl | rfl; exact lt_cellsM h.box; exact h.row.lt; exact h.mat.lt) (fun hm => by have := hL j hm; rcases hj with rfl | rfl | rfl <;> omega)
theorem Cmp.At.set (h : Cmp.At B g g1 cap M0 X row) {j : Nat} (hj : j < row.length) (x : Int) (h1 : g ≠ B) (h2 : g1 ≠ g) : Cmp.At B g g1 cap M0 (X.setCell ⟨g, j, none⟩ (.int .i64 x)) (row.set j x) :=
 ⟨(setCell_neM (fun e => h1 e.symm)).trans h.box, h.row.set hj x, h.mat.kept (setCell_neM h2)⟩
theorem Cmp.At.cell (h : Cmp.At B g g1 cap M0 X row) : X.cell? ⟨B, 1, none⟩ = some (.slice (some ⟨g, 0, none⟩) 16 cap) := by simp [World.cell?, h.box]
end
set_option maxHeartbeats 4000000 in
theorem cput_any (z : Zn) (hz : Zo.chk z = 0) (c0 c1 c2 : Nat) (h0 : c0 < 4) (h1 : c1 < 4) (h2 : c2 < 4) (n₀ B g cap : Nat) (hgB : g ≠ B) (hng : n₀ <= g) (L : List Int) (hL : L.length = 16) (w : World) (hn : n₀ <= w.heap.size)
 (hbox : w.heap[B]? = some (.cells #[.int .i64 4, .slice (some ⟨g, 0, none⟩) 16 cap] 81 (0, 0))) (hrow : RowAt TB w g L) :
 Calls Tryz.prog 158 #[.agg #[.int .i64 z.a, .int .i64 z.b, .int .i64 z.c, .int .i64 z.d, .int .i64 z.e, .int .i64 z.f], .agg #[.int .i64 c0, .int .i64 c1, .int .i64 c2], .pointer (some ⟨B, 0, none⟩)] w fun e w' => ∃ u, e = .returned u /\ Below n₀ w w' /\ (u = .tuple #[] /\ w'.heap[B]? = some (.cells #[.int .i64 4, .slice (some ⟨g, 0, none⟩) 16 cap] 81 (0, 0)) /\ RowAt TB w' g (Cmp.put c0 c1 c2 (Zo.matL z) L 9)) := by
 refine fun_at 0 n₀ w hn Tryz.func158 (args := [.agg [.val (.int .i64 z.a), .val (.int .i64 z.b), .val (.int .i64 z.c), .val (.int .i64 z.d), .val (.int .i64 z.e), .val (.int .i64 z.f)], .agg [.val (.int .i64 c0), .val (.int .i64 c1), .val (.int .i64 c2)], .val (.pointer (some ⟨B, 0, none⟩))]) rfl rfl ?_;have hzm := fun w => zMatrixF_any z w;rw [Zo.chk_mat hz] at hzm;have adk : ∀ j : Nat, (⟨g, 0, none⟩ : Addr).add ((j : Int).toNat * 1) = ⟨g, j, none⟩ := fun j => by simp [addr_addL]
 refine NewI.mk fun b1 hb1 => ?_;refine NewI.mk fun b2 hb2 => ?_;apply CallI.use
 focus (exact fun w2 h2 => hzm w2)
 rintro v w2 v2 h2 hB2 ⟨a1, q1, rfl, hF1⟩;refine NewI.mk fun b3 hb3 => ?_;have hg := hrow.lt;have hBl := lt_cellsM hbox;obtain ⟨g1, rfl, hq1, hq2, hg1b, hR1⟩ : ∃ g1, a1 = some ⟨g1, 0, none⟩ /\ 9 <= q1 /\ q1 <= maxLen /\ w2.heap.size <= g1 /\ RowAt TB v2 g1 (Zo.matL z) := by
  rcases hF1 with ⟨_, e⟩ | ⟨g1, cap, e, x1, x2, x3, x4⟩
  ·cases e
  ·injection e with e1 e2 e3
   subst e1; subst e3;exact ⟨g1, rfl, x1, x2, x3, x4⟩
 have hg1l := hR1.lt;have hw2 : w.heap.size <= w2.heap.size := h2.size;have hb1' : w.heap.size <= b1 := hb1;have hb2' : w.heap.size <= b2 := hb2;have hb3' : v2.heap.size <= b3 := hb3;have hb1w : b1 < w2.heap.size := h2.lt b1 (by simp);have hb2w : b2 < w2.heap.size := h2.lt b2 (by simp);have hg1g : g1 ≠ g := by omega
 have hgr : ∀ b, b ∈ [b1, b2, b3] -> b ∉ [g] := fun b hb hm => by simp at hb hm; omega
 have hL' : (Cmp.put c0 c1 c2 (Zo.matL z) L 0) = L := rfl;have g2 := at_belowM h2 (by simp);have ct : Cmp.At B g g1 cap (Zo.matL z) v2 (Cmp.put c0 c1 c2 (Zo.matL z) L 0) := ⟨(hB2.block B (by omega)).trans ((g2.block B hBl).trans hbox), (hrow.kept (g2.block g hg)).kept (hB2.block g (by omega)), hR1⟩;clear hL' hrow hbox hF1 hR1;refine LoopI.rounds 4 ?_;refine Branch.yes rfl ?_;refine GenV.to (x := .int .i64 c0) (fun w => three_at c0 c1 c2 0 w (by decide)) fun r0 p0 => ?_;have ct := ct.at p0 (by intro b hb; simp at hb <;> omega);refine LoopI.rounds 4 ?_;refine Branch.yes rfl ?_;refine GenV.to (x := .int .i64 c0) (fun w => three_at c0 c1 c2 0 w (by decide)) fun u0 k0 => ?_;have ct := ct.at k0 (by intro b hb; simp at hb <;> omega);refine Need.ok ?_;refine Need.ok ?_;refine DrawI.wr (.tk 0 (.tk 1 (.tk 2 (.tk 3 (.tk 4 (.tk 5 (.tk 6 (.tk 8 (.tk 9 (.tk 10 (.tk 11 (.tk 12 (.tk 13 (.tk 14 (.tk 15 (.ev 7 (.tk 16 (.tk 17 (.ev 18 .done))))))))))))))))))) [] [g] (by kernel_rfl) rfl hgr fun x0 j0 => ?_;have ct := ct.at j0 (by intro b hb; simp at hb <;> omega);have hpl : Cmp.pl c0 c1 c2 0 = 4 * c0 + c0 := rfl;have hpk : Cmp.put c0 c1 c2 (Zo.matL z) L 1 = (Cmp.put c0 c1 c2 (Zo.matL z) L 0).set (4 * c0 + c0) (min ((Cmp.put c0 c1 c2 (Zo.matL z) L 0)[4 * c0 + c0]?.getD 0) ((Zo.matL z)[0]?.getD 0)) := rfl;have hln := Cmp.put_len c0 c1 c2 (Zo.matL z) L 0;generalize Cmp.put c0 c1 c2 (Zo.matL z) L 0 = R at ct hpk hln;refine LoadI.mk ⟨_, ⟨ct.cell, by simp; exact fun e => hgB e.symm⟩, ?_⟩;refine LoadI.mk ⟨_, ⟨ct.cell, by simp; exact fun e => hgB e.symm⟩, ?_⟩
 conv => whnf
 rw [show (4 : Int) * c0 + c0 = ((4 * c0 + c0 : Nat) : Int) by omega];refine IdxI.mk ⟨_, ⟨rfl, by omega, by omega⟩, ?_⟩;refine Need.ok ?_;refine Need.ok ?_;refine IdxI.mk ⟨_, ⟨rfl, by omega, by show _ < (9 : Int); omega⟩, ?_⟩;refine LoadI.mk ⟨_, ⟨ct.mat.cell (j := 0) (by rw [Zo.matL_len]; omega), by simp; exact hg1g⟩, ?_⟩;rw [adk];refine LoadI.mk ⟨_, ⟨ct.row.cell (j := 4 * c0 + c0) (by omega), by simp⟩, ?_⟩;refine IdxI.mk ⟨_, ⟨rfl, by omega, by omega⟩, ?_⟩;refine StoreI.mk fun y0 i0 => ?_;have ct := ct.at i0 (by intro b hb; simp at hb <;> omega);rw [adk];refine ⟨⟨⟨_, ct.row.cell (j := 4 * c0 + c0) (by omega)⟩, ct.row.frozen _⟩, Zo.kpD_set hng (fun b hb e => hgr b hb (by simp [e])) (by simp [locs]), ?_⟩
 conv => whnf
 have em : minL (R[4 * c0 + c0]?.getD 0) [(Zo.matL z)[0]?.getD 0] = min (R[4 * c0 + c0]?.getD 0) ((Zo.matL z)[0]?.getD 0) := by simp [minL]; omega
 rw [em];have ct := ct.set (j := 4 * c0 + c0) (by omega) (min (R[4 * c0 + c0]?.getD 0) ((Zo.matL z)[0]?.getD 0)) hgB hg1g;rw [<- hpk] at ct;clear em hpk hln hpl;generalize y0.setCell _ _ = z0 at ct ⊢;refine Need.ok ?_;refine Branch.yes rfl ?_;refine GenV.to (x := .int .i64 c1) (fun w => three_at c0 c1 c2 1 w (by decide)) fun u1 k1 => ?_;have ct := ct.at k1 (by intro b hb; simp at hb <;> omega);refine Need.ok ?_;refine Need.ok ?_;refine DrawI.wr (.tk 0 (.tk 1 (.tk 2 (.tk 3 (.tk 4 (.tk 5 (.tk 6 (.tk 8 (.tk 9 (.tk 10 (.tk 11 (.tk 12 (.tk 13 (.tk 14 (.tk 15 (.ev 7 (.tk 16 (.tk 17 (.ev 18 .done))))))))))))))))))) [] [g] (by kernel_rfl) rfl hgr fun x1 j1 => ?_;have ct := ct.at j1 (by intro b hb; simp at hb <;> omega);have hpl : Cmp.pl c0 c1 c2 1 = 4 * c0 + c1 := rfl;have hpk : Cmp.put c0 c1 c2 (Zo.matL z) L 2 = (Cmp.put c0 c1 c2 (Zo.matL z) L 1).set (4 * c0 + c1) (min ((Cmp.put c0 c1 c2 (Zo.matL z) L 1)[4 * c0 + c1]?.getD 0) ((Zo.matL z)[1]?.getD 0)) := rfl;have hln := Cmp.put_len c0 c1 c2 (Zo.matL z) L 1;generalize Cmp.put c0 c1 c2 (Zo.matL z) L 1 = R at ct hpk hln;refine LoadI.mk ⟨_, ⟨ct.cell, by simp; exact fun e => hgB e.symm⟩, ?_⟩;refine LoadI.mk ⟨_, ⟨ct.cell, by simp; exact fun e => hgB e.symm⟩, ?_⟩
 conv => whnf
 rw [show (4 : Int) * c0 + c1 = ((4 * c0 + c1 : Nat) : Int) by omega];refine IdxI.mk ⟨_, ⟨rfl, by omega, by omega⟩, ?_⟩;refine Need.ok ?_;refine Need.ok ?_;refine IdxI.mk ⟨_, ⟨rfl, by omega, by show _ < (9 : Int); omega⟩, ?_⟩;refine LoadI.mk ⟨_, ⟨ct.mat.cell (j := 1) (by rw [Zo.matL_len]; omega), by simp; exact hg1g⟩, ?_⟩;rw [adk];refine LoadI.mk ⟨_, ⟨ct.row.cell (j := 4 * c0 + c1) (by omega), by simp⟩, ?_⟩;refine IdxI.mk ⟨_, ⟨rfl, by omega, by omega⟩, ?_⟩;refine StoreI.mk fun y1 i1 => ?_;have ct := ct.at i1 (by intro b hb; simp at hb <;> omega);rw [adk];refine ⟨⟨⟨_, ct.row.cell (j := 4 * c0 + c1) (by omega)⟩, ct.row.frozen _⟩, Zo.kpD_set hng (fun b hb e => hgr b hb (by simp [e])) (by simp [locs]), ?_⟩
 conv => whnf
 have em : minL (R[4 * c0 + c1]?.getD 0) [(Zo.matL z)[1]?.getD 0] = min (R[4 * c0 + c1]?.getD 0) ((Zo.matL z)[1]?.getD 0) := by simp [minL]; omega
 rw [em];have ct := ct.set (j := 4 * c0 + c1) (by omega) (min (R[4 * c0 + c1]?.getD 0) ((Zo.matL z)[1]?.getD 0)) hgB hg1g;rw [<- hpk] at ct;clear em hpk hln hpl;generalize y1.setCell _ _ = z1 at ct ⊢;refine Need.ok ?_;refine Branch.yes rfl ?_;refine GenV.to (x := .int .i64 c2) (fun w => three_at c0 c1 c2 2 w (by decide)) fun u2 k2 => ?_;have ct := ct.at k2 (by intro b hb; simp at hb <;> omega);refine Need.ok ?_;refine Need.ok ?_;refine DrawI.wr (.tk 0 (.tk 1 (.tk 2 (.tk 3 (.tk 4 (.tk 5 (.tk 6 (.tk 8 (.tk 9 (.tk 10 (.tk 11 (.tk 12 (.tk 13 (.tk 14 (.tk 15 (.ev 7 (.tk 16 (.tk 17 (.ev 18 .done))))))))))))))))))) [] [g] (by kernel_rfl) rfl hgr fun x2 j2 => ?_;have ct := ct.at j2 (by intro b hb; simp at hb <;> omega);have hpl : Cmp.pl c0 c1 c2 2 = 4 * c0 + c2 := rfl;have hpk : Cmp.put c0 c1 c2 (Zo.matL z) L 3 = (Cmp.put c0 c1 c2 (Zo.matL z) L 2).set (4 * c0 + c2) (min ((Cmp.put c0 c1 c2 (Zo.matL z) L 2)[4 * c0 + c2]?.getD 0) ((Zo.matL z)[2]?.getD 0)) := rfl;have hln := Cmp.put_len c0 c1 c2 (Zo.matL z) L 2;generalize Cmp.put c0 c1 c2 (Zo.matL z) L 2 = R at ct hpk hln;refine LoadI.mk ⟨_, ⟨ct.cell, by simp; exact fun e => hgB e.symm⟩, ?_⟩;refine LoadI.mk ⟨_, ⟨ct.cell, by simp; exact fun e => hgB e.symm⟩, ?_⟩
 conv => whnf
 rw [show (4 : Int) * c0 + c2 = ((4 * c0 + c2 : Nat) : Int) by omega];refine IdxI.mk ⟨_, ⟨rfl, by omega, by omega⟩, ?_⟩;refine Need.ok ?_;refine Need.ok ?_;refine IdxI.mk ⟨_, ⟨rfl, by omega, by show _ < (9 : Int); omega⟩, ?_⟩;refine LoadI.mk ⟨_, ⟨ct.mat.cell (j := 2) (by rw [Zo.matL_len]; omega), by simp; exact hg1g⟩, ?_⟩;rw [adk];refine LoadI.mk ⟨_, ⟨ct.row.cell (j := 4 * c0 + c2) (by omega), by simp⟩, ?_⟩;refine IdxI.mk ⟨_, ⟨rfl, by omega, by omega⟩, ?_⟩;refine StoreI.mk fun y2 i2 => ?_;have ct := ct.at i2 (by intro b hb; simp at hb <;> omega);rw [adk];refine ⟨⟨⟨_, ct.row.cell (j := 4 * c0 + c2) (by omega)⟩, ct.row.frozen _⟩, Zo.kpD_set hng (fun b hb e => hgr b hb (by simp [e])) (by simp [locs]), ?_⟩
 conv => whnf
 have em : minL (R[4 * c0 + c2]?.getD 0) [(Zo.matL z)[2]?.getD 0] = min (R[4 * c0 + c2]?.getD 0) ((Zo.matL z)[2]?.getD 0) := by simp [minL]; omega
 rw [em];have ct := ct.set (j := 4 * c0 + c2) (by omega) (min (R[4 * c0 + c2]?.getD 0) ((Zo.matL z)[2]?.getD 0)) hgB hg1g;rw [<- hpk] at ct;clear em hpk hln hpl;generalize y2.setCell _ _ = z2 at ct ⊢;refine Need.ok ?_;refine Branch.no rfl ?_;refine Need.ok ?_;refine Branch.yes rfl ?_;refine GenV.to (x := .int .i64 c1) (fun w => three_at c0 c1 c2 1 w (by decide)) fun r1 p1 => ?_;have ct := ct.at p1 (by intro b hb; simp at hb <;> omega);refine LoopI.rounds 4 ?_;refine Branch.yes rfl ?_;refine GenV.to (x := .int .i64 c0) (fun w => three_at c0 c1 c2 0 w (by decide)) fun u3 k3 => ?_;have ct := ct.at k3 (by intro b hb; simp at hb <;> omega);refine Need.ok ?_;refine Need.ok ?_;refine DrawI.wr (.tk 0 (.tk 1 (.tk 2 (.tk 3 (.tk 4 (.tk 5 (.tk 6 (.tk 8 (.tk 9 (.tk 10 (.tk 11 (.tk 12 (.tk 13 (.tk 14 (.tk 15 (.ev 7 (.tk 16 (.tk 17 (.ev 18 .done))))))))))))))))))) [] [g] (by kernel_rfl) rfl hgr fun x3 j3 => ?_;have ct := ct.at j3 (by intro b hb; simp at hb <;> omega);have hpl : Cmp.pl c0 c1 c2 3 = 4 * c1 + c0 := rfl;have hpk : Cmp.put c0 c1 c2 (Zo.matL z) L 4 = (Cmp.put c0 c1 c2 (Zo.matL z) L 3).set (4 * c1 + c0) (min ((Cmp.put c0 c1 c2 (Zo.matL z) L 3)[4 * c1 + c0]?.getD 0) ((Zo.matL z)[3]?.getD 0)) := rfl;have hln := Cmp.put_len c0 c1 c2 (Zo.matL z) L 3;generalize Cmp.put c0 c1 c2 (Zo.matL z) L 3 = R at ct hpk hln;refine LoadI.mk ⟨_, ⟨ct.cell, by simp; exact fun e => hgB e.symm⟩, ?_⟩;refine LoadI.mk ⟨_, ⟨ct.cell, by simp; exact fun e => hgB e.symm⟩, ?_⟩
 conv => whnf
 rw [show (4 : Int) * c1 + c0 = ((4 * c1 + c0 : Nat) : Int) by omega];refine IdxI.mk ⟨_, ⟨rfl, by omega, by omega⟩, ?_⟩;refine Need.ok ?_;refine Need.ok ?_;refine IdxI.mk ⟨_, ⟨rfl, by omega, by show _ < (9 : Int); omega⟩, ?_⟩;refine LoadI.mk ⟨_, ⟨ct.mat.cell (j := 3) (by rw [Zo.matL_len]; omega), by simp; exact hg1g⟩, ?_⟩;rw [adk];refine LoadI.mk ⟨_, ⟨ct.row.cell (j := 4 * c1 + c0) (by omega), by simp⟩, ?_⟩;refine IdxI.mk ⟨_, ⟨rfl, by omega, by omega⟩, ?_⟩;refine StoreI.mk fun y3 i3 => ?_;have ct := ct.at i3 (by intro b hb; simp at hb <;> omega);rw [adk];refine ⟨⟨⟨_, ct.row.cell (j := 4 * c1 + c0) (by omega)⟩, ct.row.frozen _⟩, Zo.kpD_set hng (fun b hb e => hgr b hb (by simp [e])) (by simp [locs]), ?_⟩
 conv => whnf
 have em : minL (R[4 * c1 + c0]?.getD 0) [(Zo.matL z)[3]?.getD 0] = min (R[4 * c1 + c0]?.getD 0) ((Zo.matL z)[3]?.getD 0) := by simp [minL]; omega
 rw [em];have ct := ct.set (j := 4 * c1 + c0) (by omega) (min (R[4 * c1 + c0]?.getD 0) ((Zo.matL z)[3]?.getD 0)) hgB hg1g;rw [<- hpk] at ct;clear em hpk hln hpl;generalize y3.setCell _ _ = z3 at ct ⊢;refine Need.ok ?_;refine Branch.yes rfl ?_;refine GenV.to (x := .int .i64 c1) (fun w => three_at c0 c1 c2 1 w (by decide)) fun u4 k4 => ?_;have ct := ct.at k4 (by intro b hb; simp at hb <;> omega);refine Need.ok ?_;refine Need.ok ?_;refine DrawI.wr (.tk 0 (.tk 1 (.tk 2 (.tk 3 (.tk 4 (.tk 5 (.tk 6 (.tk 8 (.tk 9 (.tk 10 (.tk 11 (.tk 12 (.tk 13 (.tk 14 (.tk 15 (.ev 7 (.tk 16 (.tk 17 (.ev 18 .done))))))))))))))))))) [] [g] (by kernel_rfl) rfl hgr fun x4 j4 => ?_;have ct := ct.at j4 (by intro b hb; simp at hb <;> omega);have hpl : Cmp.pl c0 c1 c2 4 = 4 * c1 + c1 := rfl;have hpk : Cmp.put c0 c1 c2 (Zo.matL z) L 5 = (Cmp.put c0 c1 c2 (Zo.matL z) L 4).set (4 * c1 + c1) (min ((Cmp.put c0 c1 c2 (Zo.matL z) L 4)[4 * c1 + c1]?.getD 0) ((Zo.matL z)[4]?.getD 0)) := rfl;have hln := Cmp.put_len c0 c1 c2 (Zo.matL z) L 4;generalize Cmp.put c0 c1 c2 (Zo.matL z) L 4 = R at ct hpk hln;refine LoadI.mk ⟨_, ⟨ct.cell, by simp; exact fun e => hgB e.symm⟩, ?_⟩;refine LoadI.mk ⟨_, ⟨ct.cell, by simp; exact fun e => hgB e.symm⟩, ?_⟩
 conv => whnf
 rw [show (4 : Int) * c1 + c1 = ((4 * c1 + c1 : Nat) : Int) by omega];refine IdxI.mk ⟨_, ⟨rfl, by omega, by omega⟩, ?_⟩;refine Need.ok ?_;refine Need.ok ?_;refine IdxI.mk ⟨_, ⟨rfl, by omega, by show _ < (9 : Int); omega⟩, ?_⟩;refine LoadI.mk ⟨_, ⟨ct.mat.cell (j := 4) (by rw [Zo.matL_len]; omega), by simp; exact hg1g⟩, ?_⟩;rw [adk];refine LoadI.mk ⟨_, ⟨ct.row.cell (j := 4 * c1 + c1) (by omega), by simp⟩, ?_⟩;refine IdxI.mk ⟨_, ⟨rfl, by omega, by omega⟩, ?_⟩;refine StoreI.mk fun y4 i4 => ?_;have ct := ct.at i4 (by intro b hb; simp at hb <;> omega);rw [adk];refine ⟨⟨⟨_, ct.row.cell (j := 4 * c1 + c1) (by omega)⟩, ct.row.frozen _⟩, Zo.kpD_set hng (fun b hb e => hgr b hb (by simp [e])) (by simp [locs]), ?_⟩
 conv => whnf
 have em : minL (R[4 * c1 + c1]?.getD 0) [(Zo.matL z)[4]?.getD 0] = min (R[4 * c1 + c1]?.getD 0) ((Zo.matL z)[4]?.getD 0) := by simp [minL]; omega
 rw [em];have ct := ct.set (j := 4 * c1 + c1) (by omega) (min (R[4 * c1 + c1]?.getD 0) ((Zo.matL z)[4]?.getD 0)) hgB hg1g;rw [<- hpk] at ct;clear em hpk hln hpl;generalize y4.setCell _ _ = z4 at ct ⊢;refine Need.ok ?_;refine Branch.yes rfl ?_;refine GenV.to (x := .int .i64 c2) (fun w => three_at c0 c1 c2 2 w (by decide)) fun u5 k5 => ?_;have ct := ct.at k5 (by intro b hb; simp at hb <;> omega);refine Need.ok ?_;refine Need.ok ?_;refine DrawI.wr (.tk 0 (.tk 1 (.tk 2 (.tk 3 (.tk 4 (.tk 5 (.tk 6 (.tk 8 (.tk 9 (.tk 10 (.tk 11 (.tk 12 (.tk 13 (.tk 14 (.tk 15 (.ev 7 (.tk 16 (.tk 17 (.ev 18 .done))))))))))))))))))) [] [g] (by kernel_rfl) rfl hgr fun x5 j5 => ?_;have ct := ct.at j5 (by intro b hb; simp at hb <;> omega);have hpl : Cmp.pl c0 c1 c2 5 = 4 * c1 + c2 := rfl;have hpk : Cmp.put c0 c1 c2 (Zo.matL z) L 6 = (Cmp.put c0 c1 c2 (Zo.matL z) L 5).set (4 * c1 + c2) (min ((Cmp.put c0 c1 c2 (Zo.matL z) L 5)[4 * c1 + c2]?.getD 0) ((Zo.matL z)[5]?.getD 0)) := rfl;have hln := Cmp.put_len c0 c1 c2 (Zo.matL z) L 5;generalize Cmp.put c0 c1 c2 (Zo.matL z) L 5 = R at ct hpk hln;refine LoadI.mk ⟨_, ⟨ct.cell, by simp; exact fun e => hgB e.symm⟩, ?_⟩;refine LoadI.mk ⟨_, ⟨ct.cell, by simp; exact fun e => hgB e.symm⟩, ?_⟩
 conv => whnf
 rw [show (4 : Int) * c1 + c2 = ((4 * c1 + c2 : Nat) : Int) by omega];refine IdxI.mk ⟨_, ⟨rfl, by omega, by omega⟩, ?_⟩;refine Need.ok ?_;refine Need.ok ?_;refine IdxI.mk ⟨_, ⟨rfl, by omega, by show _ < (9 : Int); omega⟩, ?_⟩;refine LoadI.mk ⟨_, ⟨ct.mat.cell (j := 5) (by rw [Zo.matL_len]; omega), by simp; exact hg1g⟩, ?_⟩;rw [adk];refine LoadI.mk ⟨_, ⟨ct.row.cell (j := 4 * c1 + c2) (by omega), by simp⟩, ?_⟩;refine IdxI.mk ⟨_, ⟨rfl, by omega, by omega⟩, ?_⟩;refine StoreI.mk fun y5 i5 => ?_;have ct := ct.at i5 (by intro b hb; simp at hb <;> omega);rw [adk];refine ⟨⟨⟨_, ct.row.cell (j := 4 * c1 + c2) (by omega)⟩, ct.row.frozen _⟩, Zo.kpD_set hng (fun b hb e => hgr b hb (by simp [e])) (by simp [locs]), ?_⟩
 conv => whnf
 have em : minL (R[4 * c1 + c2]?.getD 0) [(Zo.matL z)[5]?.getD 0] = min (R[4 * c1 + c2]?.getD 0) ((Zo.matL z)[5]?.getD 0) := by simp [minL]; omega
 rw [em];have ct := ct.set (j := 4 * c1 + c2) (by omega) (min (R[4 * c1 + c2]?.getD 0) ((Zo.matL z)[5]?.getD 0)) hgB hg1g;rw [<- hpk] at ct;clear em hpk hln hpl;generalize y5.setCell _ _ = z5 at ct ⊢;refine Need.ok ?_;refine Branch.no rfl ?_;refine Need.ok ?_;refine Branch.yes rfl ?_;refine GenV.to (x := .int .i64 c2) (fun w => three_at c0 c1 c2 2 w (by decide)) fun r2 p2 => ?_;have ct := ct.at p2 (by intro b hb; simp at hb <;> omega);refine LoopI.rounds 4 ?_;refine Branch.yes rfl ?_;refine GenV.to (x := .int .i64 c0) (fun w => three_at c0 c1 c2 0 w (by decide)) fun u6 k6 => ?_;have ct := ct.at k6 (by intro b hb; simp at hb <;> omega);refine Need.ok ?_;refine Need.ok ?_;refine DrawI.wr (.tk 0 (.tk 1 (.tk 2 (.tk 3 (.tk 4 (.tk 5 (.tk 6 (.tk 8 (.tk 9 (.tk 10 (.tk 11 (.tk 12 (.tk 13 (.tk 14 (.tk 15 (.ev 7 (.tk 16 (.tk 17 (.ev 18 .done))))))))))))))))))) [] [g] (by kernel_rfl) rfl hgr fun x6 j6 => ?_;have ct := ct.at j6 (by intro b hb; simp at hb <;> omega);have hpl : Cmp.pl c0 c1 c2 6 = 4 * c2 + c0 := rfl;have hpk : Cmp.put c0 c1 c2 (Zo.matL z) L 7 = (Cmp.put c0 c1 c2 (Zo.matL z) L 6).set (4 * c2 + c0) (min ((Cmp.put c0 c1 c2 (Zo.matL z) L 6)[4 * c2 + c0]?.getD 0) ((Zo.matL z)[6]?.getD 0)) := rfl;have hln := Cmp.put_len c0 c1 c2 (Zo.matL z) L 6;generalize Cmp.put c0 c1 c2 (Zo.matL z) L 6 = R at ct hpk hln;refine LoadI.mk ⟨_, ⟨ct.cell, by simp; exact fun e => hgB e.symm⟩, ?_⟩;refine LoadI.mk ⟨_, ⟨ct.cell, by simp; exact fun e => hgB e.symm⟩, ?_⟩
 conv => whnf
 rw [show (4 : Int) * c2 + c0 = ((4 * c2 + c0 : Nat) : Int) by omega];refine IdxI.mk ⟨_, ⟨rfl, by omega, by omega⟩, ?_⟩;refine Need.ok ?_;refine Need.ok ?_;refine IdxI.mk ⟨_, ⟨rfl, by omega, by show _ < (9 : Int); omega⟩, ?_⟩;refine LoadI.mk ⟨_, ⟨ct.mat.cell (j := 6) (by rw [Zo.matL_len]; omega), by simp; exact hg1g⟩, ?_⟩;rw [adk];refine LoadI.mk ⟨_, ⟨ct.row.cell (j := 4 * c2 + c0) (by omega), by simp⟩, ?_⟩;refine IdxI.mk ⟨_, ⟨rfl, by omega, by omega⟩, ?_⟩;refine StoreI.mk fun y6 i6 => ?_;have ct := ct.at i6 (by intro b hb; simp at hb <;> omega);rw [adk];refine ⟨⟨⟨_, ct.row.cell (j := 4 * c2 + c0) (by omega)⟩, ct.row.frozen _⟩, Zo.kpD_set hng (fun b hb e => hgr b hb (by simp [e])) (by simp [locs]), ?_⟩
 conv => whnf
 have em : minL (R[4 * c2 + c0]?.getD 0) [(Zo.matL z)[6]?.getD 0] = min (R[4 * c2 + c0]?.getD 0) ((Zo.matL z)[6]?.getD 0) := by simp [minL]; omega
 rw [em];have ct := ct.set (j := 4 * c2 + c0) (by omega) (min (R[4 * c2 + c0]?.getD 0) ((Zo.matL z)[6]?.getD 0)) hgB hg1g;rw [<- hpk] at ct;clear em hpk hln hpl;generalize y6.setCell _ _ = z6 at ct ⊢;refine Need.ok ?_;refine Branch.yes rfl ?_;refine GenV.to (x := .int .i64 c1) (fun w => three_at c0 c1 c2 1 w (by decide)) fun u7 k7 => ?_;have ct := ct.at k7 (by intro b hb; simp at hb <;> omega);refine Need.ok ?_;refine Need.ok ?_;refine DrawI.wr (.tk 0 (.tk 1 (.tk 2 (.tk 3 (.tk 4 (.tk 5 (.tk 6 (.tk 8 (.tk 9 (.tk 10 (.tk 11 (.tk 12 (.tk 13 (.tk 14 (.tk 15 (.ev 7 (.tk 16 (.tk 17 (.ev 18 .done))))))))))))))))))) [] [g] (by kernel_rfl) rfl hgr fun x7 j7 => ?_;have ct := ct.at j7 (by intro b hb; simp at hb <;> omega);have hpl : Cmp.pl c0 c1 c2 7 = 4 * c2 + c1 := rfl;have hpk : Cmp.put c0 c1 c2 (Zo.matL z) L 8 = (Cmp.put c0 c1 c2 (Zo.matL z) L 7).set (4 * c2 + c1) (min ((Cmp.put c0 c1 c2 (Zo.matL z) L 7)[4 * c2 + c1]?.getD 0) ((Zo.matL z)[7]?.getD 0)) := rfl;have hln := Cmp.put_len c0 c1 c2 (Zo.matL z) L 7;generalize Cmp.put c0 c1 c2 (Zo.matL z) L 7 = R at ct hpk hln;refine LoadI.mk ⟨_, ⟨ct.cell, by simp; exact fun e => hgB e.symm⟩, ?_⟩;refine LoadI.mk ⟨_, ⟨ct.cell, by simp; exact fun e => hgB e.symm⟩, ?_⟩
 conv => whnf
 rw [show (4 : Int) * c2 + c1 = ((4 * c2 + c1 : Nat) : Int) by omega];refine IdxI.mk ⟨_, ⟨rfl, by omega, by omega⟩, ?_⟩;refine Need.ok ?_;refine Need.ok ?_;refine IdxI.mk ⟨_, ⟨rfl, by omega, by show _ < (9 : Int); omega⟩, ?_⟩;refine LoadI.mk ⟨_, ⟨ct.mat.cell (j := 7) (by rw [Zo.matL_len]; omega), by simp; exact hg1g⟩, ?_⟩;rw [adk];refine LoadI.mk ⟨_, ⟨ct.row.cell (j := 4 * c2 + c1) (by omega), by simp⟩, ?_⟩;refine IdxI.mk ⟨_, ⟨rfl, by omega, by omega⟩, ?_⟩;refine StoreI.mk fun y7 i7 => ?_;have ct := ct.at i7 (by intro b hb; simp at hb <;> omega);rw [adk];refine ⟨⟨⟨_, ct.row.cell (j := 4 * c2 + c1) (by omega)⟩, ct.row.frozen _⟩, Zo.kpD_set hng (fun b hb e => hgr b hb (by simp [e])) (by simp [locs]), ?_⟩
 conv => whnf
 have em : minL (R[4 * c2 + c1]?.getD 0) [(Zo.matL z)[7]?.getD 0] = min (R[4 * c2 + c1]?.getD 0) ((Zo.matL z)[7]?.getD 0) := by simp [minL]; omega
 rw [em];have ct := ct.set (j := 4 * c2 + c1) (by omega) (min (R[4 * c2 + c1]?.getD 0) ((Zo.matL z)[7]?.getD 0)) hgB hg1g;rw [<- hpk] at ct;clear em hpk hln hpl;generalize y7.setCell _ _ = z7 at ct ⊢;refine Need.ok ?_;refine Branch.yes rfl ?_;refine GenV.to (x := .int .i64 c2) (fun w => three_at c0 c1 c2 2 w (by decide)) fun u8 k8 => ?_;have ct := ct.at k8 (by intro b hb; simp at hb <;> omega);refine Need.ok ?_;refine Need.ok ?_;refine DrawI.wr (.tk 0 (.tk 1 (.tk 2 (.tk 3 (.tk 4 (.tk 5 (.tk 6 (.tk 8 (.tk 9 (.tk 10 (.tk 11 (.tk 12 (.tk 13 (.tk 14 (.tk 15 (.ev 7 (.tk 16 (.tk 17 (.ev 18 .done))))))))))))))))))) [] [g] (by kernel_rfl) rfl hgr fun x8 j8 => ?_;have ct := ct.at j8 (by intro b hb; simp at hb <;> omega);have hpl : Cmp.pl c0 c1 c2 8 = 4 * c2 + c2 := rfl;have hpk : Cmp.put c0 c1 c2 (Zo.matL z) L 9 = (Cmp.put c0 c1 c2 (Zo.matL z) L 8).set (4 * c2 + c2) (min ((Cmp.put c0 c1 c2 (Zo.matL z) L 8)[4 * c2 + c2]?.getD 0) ((Zo.matL z)[8]?.getD 0)) := rfl;have hln := Cmp.put_len c0 c1 c2 (Zo.matL z) L 8;generalize Cmp.put c0 c1 c2 (Zo.matL z) L 8 = R at ct hpk hln;refine LoadI.mk ⟨_, ⟨ct.cell, by simp; exact fun e => hgB e.symm⟩, ?_⟩;refine LoadI.mk ⟨_, ⟨ct.cell, by simp; exact fun e => hgB e.symm⟩, ?_⟩
 conv => whnf
 rw [show (4 : Int) * c2 + c2 = ((4 * c2 + c2 : Nat) : Int) by omega];refine IdxI.mk ⟨_, ⟨rfl, by omega, by omega⟩, ?_⟩;refine Need.ok ?_;refine Need.ok ?_;refine IdxI.mk ⟨_, ⟨rfl, by omega, by show _ < (9 : Int); omega⟩, ?_⟩;refine LoadI.mk ⟨_, ⟨ct.mat.cell (j := 8) (by rw [Zo.matL_len]; omega), by simp; exact hg1g⟩, ?_⟩;rw [adk];refine LoadI.mk ⟨_, ⟨ct.row.cell (j := 4 * c2 + c2) (by omega), by simp⟩, ?_⟩;refine IdxI.mk ⟨_, ⟨rfl, by omega, by omega⟩, ?_⟩;refine StoreI.mk fun y8 i8 => ?_;have ct := ct.at i8 (by intro b hb; simp at hb <;> omega);rw [adk];refine ⟨⟨⟨_, ct.row.cell (j := 4 * c2 + c2) (by omega)⟩, ct.row.frozen _⟩, Zo.kpD_set hng (fun b hb e => hgr b hb (by simp [e])) (by simp [locs]), ?_⟩
 conv => whnf
 have em : minL (R[4 * c2 + c2]?.getD 0) [(Zo.matL z)[8]?.getD 0] = min (R[4 * c2 + c2]?.getD 0) ((Zo.matL z)[8]?.getD 0) := by simp [minL]; omega
 rw [em];have ct := ct.set (j := 4 * c2 + c2) (by omega) (min (R[4 * c2 + c2]?.getD 0) ((Zo.matL z)[8]?.getD 0)) hgB hg1g;rw [<- hpk] at ct;clear em hpk hln hpl;generalize y8.setCell _ _ = z8 at ct ⊢;refine Need.ok ?_;refine Branch.no rfl ?_;refine Need.ok ?_;refine Branch.no rfl ?_;refine EndI.mk fun w9 h9 => ?_;have ct := ct.at h9 (by intro b hb; simp at hb <;> omega);exact ⟨rfl, ct.box, ct.row⟩
abbrev TM : TypeId := 195
theorem infoM : (Tryz.prog.info? 195).map (fun i => (i.zero, i.size, i.bytes)) = some (some (.agg #[.int .i64 0, .int .i64 0]), 2, 16) := by kernel_rfl
theorem elM : ElOk Tryz.prog 227 195 2 16 := elOk (by kernel_rfl) infoM rfl (by decide)
theorem put_any (B base : Nat) (v : Value) (l : List Rt) (x : Rt) (hl : l.length <= 1000) (w : World) (hB : B < base) (hb : base <= w.heap.size) (hbox : w.heap[B]? = some (.cells #[v] 227 (0, 0))) (hO : Own TM base w v l) :
 Calls Tryz.prog 189 #[.int .i64 x.num, .int .i64 x.den, .pointer (some ⟨B, 0, none⟩)] w fun e w' => ∃ u, e = .returned u /\ Below B w w' /\ (u = .tuple #[] /\ ∃ v', w'.heap[B]? = some (.cells #[v'] 227 (0, 0)) /\ Own TM base w' v' (l ++ [x])) := by
 refine fun_at 0 B w (Nat.le_of_lt (lt_cellsM hbox)) Tryz.func189 (args := [.val (.int .i64 x.num), .val (.int .i64 x.den), .val (.pointer (some ⟨B, 0, none⟩))]) rfl rfl ?_;refine LoadI.mk ⟨_, ⟨cell_oneM hbox, by simp⟩, ?_⟩;refine NewI.mk fun b1 hb1 => ?_;have hb1' : w.heap.size <= b1 := hb1
 refine GenN.app (α := Rt) elM l [x] base (fun w5 h5 => hO.below (at_belowM h5 (by simp))) (fun w5 h5 => src_own h5 0 rfl rfl rfl rfl) (by unfold maxLen; simp; omega) (by simp; omega) (fun w5 h5 => Nat.le_trans hb h5.size)
  (fun w5 w6 h5 hg => keep_grown h5 hg (fun k hk => by have := hO.lt k hk; exact ⟨by show B <= k; omega, by simp; omega⟩)) fun v' w5 w6 h5 hg hO' => ?_
 obtain ⟨a', c', rfl⟩ := hO'.form;have g5 := at_belowM h5 (by simp);have hbox5 := (g5.block B (lt_cellsM hbox)).trans hbox;have hbox6 := (hg.block B (lt_cellsM hbox5) (fun e => by have := hO.lt B e.symm; omega)).trans hbox5;have hb6 : base <= w6.heap.size := Nat.le_trans hb (Nat.le_trans h5.size hg.size);refine StoreI.mk fun w7 h7 => ?_;have g7 := at_belowM h7 (by simp);have hbox7 := (g7.block B (lt_cellsM hbox6)).trans hbox6;have hO7 := hO'.below g7;have hBb1 : B ≠ b1 := by have := lt_cellsM hbox; omega
 refine ⟨⟨⟨_, cell_oneM hbox7⟩, frozen_oneM hbox7⟩, ⟨below_setCellM (Below.refl _ _) (Nat.le_refl _), fun b hb => setCell_neM (by simp at hb; subst hb; exact fun e => hBb1 e.symm)⟩, ?_⟩;have hbox8 := setCell_oneM (u := Value.slice a' (l ++ [x]).length c') hbox7;have hO8 := hO7.setCellM (B := B) (o := 0) (u := Value.slice a' (l ++ [x]).length c') (fun g hgg => by have := hO7.lt g hgg; omega);generalize w7.setCell ⟨B, 0, none⟩ (Value.slice a' (l ++ [x]).length c') = w8 at *;refine EndI.mk fun w9 h9 => ⟨rfl, _, ((at_belowM h9 (by simp)).block B (lt_cellsM hbox8)).trans hbox8, hO8.below (at_belowM h9 (by simp))⟩
theorem tmeet_any (n m : Int) (L M : List Int) (a b : Option Addr) (ca cb : Nat) (w : World) (hS : Sl w.heap.size w (.slice a L.length ca) L) (hT : Sl w.heap.size w (.slice b M.length cb) M) :
 Calls Tryz.prog 157 #[.agg #[.int .i64 n, .slice a L.length ca], .agg #[.int .i64 m, .slice b M.length cb]] w (Ret w fun v w' => ∃ a' c', v = .tuple #[.agg #[.int .i64 (Tg.meet n L m M).1, .slice a' (Tg.meet n L m M).2.1.length c'], .int .i64 (Tg.meet n L m M).2.2] /\ Fresh TB w.heap.size w' (.slice a' (Tg.meet n L m M).2.1.length c') (Tg.meet n L m M).2.1) := by
 refine fun_ret 0 w Tryz.func157 (args := [.agg [.val (.int .i64 n), .val (.slice a L.length ca)], .agg [.val (.int .i64 m), .val (.slice b M.length cb)]]) rfl rfl ?_;have st := Stay.first (w := w)
 refine NewI.mk fun b1 hb1 => ?_;refine NewI.mk fun b2 hb2 => ?_;refine NewI.mk fun b3 hb3 => ?_;unfold Tg.meet;apply CallI.use1
 focus (exact fun w1 h1 => dcheck_any n a ca L w1 (hS.st (st.at h1)))
 intro w1 v1 h1 hB1;have st := st.nx h1 hB1;refine Branch.mk (fun hc => ?_) (fun hc => ?_)
 ·have h0 : Dbm.chk n L ≠ 0 := by simpa using hc
  rw [if_pos (.inl h0)];exact EndI.mk fun w9 h9 => ⟨_, _, rfl, .inl ⟨rfl, rfl⟩⟩
 have h0 : Dbm.chk n L = 0 := by simpa using hc
 apply CallI.use1
 focus (exact fun w2 h2 => dcheck_any m b cb M w2 (hT.st (st.at h2)))
 intro w2 v2 h2 hB2;have st := st.nx h2 hB2;refine Branch.mk (fun hc2 => ?_) (fun hc2 => ?_)
 ·have h1 : Dbm.chk m M ≠ 0 := by simpa using hc2
  rw [if_pos (.inr h1)];exact EndI.mk fun w9 h9 => ⟨_, _, rfl, .inl ⟨rfl, rfl⟩⟩
 have h1 : Dbm.chk m M = 0 := by simpa using hc2
 rw [if_neg (by rintro (h | h); exact h h0; exact h h1)];refine Branch.mk (fun hc3 => ?_) (fun hc3 => ?_)
 ·have h2 : n ≠ m := by simpa using hc3
  rw [if_pos h2];exact EndI.mk fun w9 h9 => ⟨_, _, rfl, .inl ⟨rfl, rfl⟩⟩
 have h2 : n = m := by simpa using hc3
 rw [if_neg (by simp [h2])];subst h2;obtain ⟨c1, c2, c3, c4⟩ := Dbm.chk_iff.1 h0;obtain ⟨d1, d2, d3, d4⟩ := Dbm.chk_iff.1 h1;have hLM : L.length = M.length := by omega
 have hL16 : L.length <= 16 := by
  have : n = 1 \/ n = 2 \/ n = 3 \/ n = 4 := by omega
  rcases this with rfl | rfl | rfl | rfl <;> omega
 refine NewI.frn fun w3 h3 => ?_;have hw3 := h3.below;have hlb : ∀ x, x ∈ [b1, b2, b3] -> x < w3.heap.size := fun x hx => h3.lt x hx;have hbox0 : (w3.alloc (.cells #[.slice none 0 0] 227)).heap[w3.heap.size]? = some (.cells #[.slice none 0 0] 227 (0, 0)) := World.alloc_heap_new w3 _;have hw4 : Below w.heap.size w (w3.alloc (.cells #[.slice none 0 0] 227)) := hw3.alloc hw3.size _;have hwB : w.heap.size <= w3.heap.size := hw3.size;generalize hgB : w3.heap.size = B at hbox0 hwB hlb;generalize w3.alloc (.cells #[.slice none 0 0] 227) = w4 at hbox0 hw4;have hBb : B < w4.heap.size := lt_cellsM hbox0;generalize hbs : w4.heap.size = base at hBb
 refine LoopI.invC (α := Nat × World × Value) (fun y => [(31, .val (.int .i64 y.1))]) (fun y => y.2.1)
  (fun y => y.1 <= M.length /\ Below w.heap.size w y.2.1 /\ base <= y.2.1.heap.size /\ y.2.1.heap[B]? = some (.cells #[y.2.2] 227 (0, 0)) /\ Own TM base y.2.1 y.2.2 (Tg.enumF M y.1)) (fun y => M.length - y.1) ?_ ?_
 ·intro w5 h5
  have g5 := at_belowM h5 (by simp);exact ⟨(0, w5, .slice none 0 0), Cov.au rfl rfl rfl rfl rfl, rfl, Nat.zero_le _, h5.below, by rw [<- hbs]; exact h5.size, (g5.block B (lt_cellsM hbox0)).trans hbox0, Own.nil⟩
 rintro ⟨k, U, v⟩ ⟨hk, hU, hbU, hbox, hO⟩;simp only at hk hU hbU hbox hO;refine Branch.mk (fun z3 => ?_) (fun z3 => ?_)
 ·have hlt : k < M.length := by have := of_decide_eq_true z3; simp only at this; omega
  have hg := List.getElem?_eq_getElem (l := M) (i := k) hlt;have hen : Tg.enumF M (k + 1) = Tg.enumF M k ++ [⟨(k : Nat), M[k]'hlt⟩] := by
   show Tg.enumF M k ++ [⟨(k : Nat), M[k]?.getD 0⟩] = _;rw [hg]; rfl
  generalize M[k]'hlt = x at hg hen;have hTU := hT.go hU hU.size;refine hTU.idx hg fun ad had => ?_;refine hTU.ld1 hg had (Below.refl _ _) (by simp) ?_;refine CallI.mk fun w6 h6 => ?_;have g6 := at_belowM h6 (by simp);refine (put_any B base v (Tg.enumF M k) ⟨(k : Nat), x⟩ (by rw [Tg.enumF_len]; omega) w6 hBb (Nat.le_trans hbU g6.size) ((g6.block B (lt_cellsM hbox)).trans hbox) (hO.below g6)).mono ?_;rintro e w7 ⟨u, rfl, hB7, rfl, v', hbox7, hO7⟩;refine ⟨⟨hB7.mono hwB, fun k hk => hB7.block k (hlb k hk)⟩, _, rfl, ?_⟩;have hU7 : Below w.heap.size w w7 := (hU.trans (g6.mono hU.size)).trans (hB7.mono hwB);rw [<- hen] at hO7;refine Need.ok (EndI.mk fun w8 h8 => ?_);have g8 := at_belowM h8 (by simp);exact ⟨(k + 1, w8, v'), Cov.au rfl rfl rfl rfl rfl, rfl, ⟨hlt, h8.below, Nat.le_trans hbU (Nat.le_trans g6.size (Nat.le_trans hB7.size g8.size)), (g8.block B (lt_cellsM hbox7)).trans hbox7, hO7.below g8⟩, by simp only; omega⟩
 ·have hge : k = M.length := by have := of_decide_eq_false z3; simp only at this; omega
  subst hge;obtain ⟨av, cv, rfl⟩ := hO.form;have hml : Tg.more L (Tg.enumF M M.length) = Dbm.lessr L M := by rw [Tg.more_enum L M M.length (by omega), <- hLM, Dbm.lessTo_all]
  have hpos : 0 < L.length := by
   have : n = 1 \/ n = 2 \/ n = 3 \/ n = 4 := by omega
   rcases this with rfl | rfl | rfl | rfl <;> omega
  have hwc := fun (w : World) h1 h2 => with_any n a ca L (Tg.enumF M M.length) av cv hpos (by omega) (fun x hx => by have := Tg.enumF_mem hx; omega) w h1 h2;rw [hml] at hwc;refine LoadI.mk ⟨_, ⟨cell_oneM hbox, by simp⟩, ?_⟩;apply CallI.use
  focus (exact fun w6 h6 => hwc w6 (hS.go h6.below h6.below.size) (hO.below (at_belowM h6 (by simp))).sl)
  rintro v w6 v6 h6 hB6 ⟨a6, c6, rfl, hF6⟩;exact EndI.mk fun w9 h9 => ⟨a6, c6, rfl, (hF6.at h9 (fun b hb => by rw [List.mem_singleton.1 hb]; exact h6.lt b3 (by simp))).lower h6.below.size⟩
namespace Zo
def odd (z : Zn) : Bool := decide (chk z ≠ 0)
def checks (l : List Zn) : Int := if l.any odd = true then 8 else 0
theorem chk_cases (z : Zn) : chk z = 0 \/ chk z = 8 := by unfold chk; split <;> simp
def meet (a b : Zn) : Zn × Int :=
 if checks [a, b] = 0 then (if (Tg.meet 3 (matL a) 3 (matL b)).2.2 = 0 then told (Tg.meet 3 (matL a) 3 (matL b)).2.1 else (nought, (Tg.meet 3 (matL a) 3 (matL b)).2.2)) else (nought, checks [a, b])
theorem checks_two {a b : Zn} : checks [a, b] = 0 ↔ chk a = 0 /\ chk b = 0 := by
 unfold checks odd;rcases chk_cases a with h | h <;> rcases chk_cases b with k | k <;> simp [h, k]
end Zo
theorem zchecked_any (l : List Zn) (a : Option Addr) (cap : Nat) (w : World) (hS : Sl w.heap.size w (.slice a l.length cap) l) :
 Calls Tryz.prog 156 #[.slice a l.length cap] w fun e w' => e = .returned (.int .i64 (Zo.checks l)) /\ Below w.heap.size w w' := by
 refine fun_eq 0 w Tryz.func156 (args := [.val (.slice a l.length cap)]) rfl rfl ?_;obtain ⟨_, _, hfe, hcap1, hcap2, _⟩ := hS.form;injection hfe with _ _ hfe;subst hfe;unfold maxLen at hcap2;unfold Zo.checks;refine LoopI.invC (α := Nat × World) (fun y => [(8, .val (.int .i64 y.1))]) (fun y => y.2) (fun y => y.1 <= l.length /\ Below w.heap.size w y.2 /\ (l.take y.1).any Zo.odd = false) (fun y => l.length - y.1) ?_ ?_
 ·intro w1 h1
  exact ⟨(0, w1), Cov.au rfl rfl rfl rfl rfl, rfl, Nat.zero_le _, h1.below, by simp⟩
 rintro ⟨k, W⟩ ⟨hk, hW, hall⟩;simp only at hk hW hall;refine Branch.mk (fun hc => ?_) (fun hc => ?_)
 ·have hlt : k < l.length := by simpa using hc
  have hg := List.getElem?_eq_getElem (l := l) (i := k) hlt;generalize l[k] = x at hg;have hSW := hS.go hW hW.size;refine hSW.idx hg fun ad had => ?_;refine hSW.ld hg had (Below.refl _ _) (by simp) ?_;refine NewI.mk fun b1 hb1 => ?_;apply CallI.use1
  focus (exact fun w2 h2 => zcheck_any x w2)
  intro w2 v2 h2 hB2;refine Branch.mk (fun hc2 => ?_) (fun hc2 => ?_)
  ·have h1 : Zo.chk x ≠ 0 := by simpa using hc2
   rw [if_pos (by rw [List.any_eq_true]; exact ⟨x, List.mem_of_getElem? hg, by unfold Zo.odd; simpa using h1⟩), (Zo.chk_cases x).resolve_left h1];exact EndI.mk fun w9 h9 => rfl
  ·have h1 : Zo.chk x = 0 := by simpa using hc2
   refine Need.ok (EndI.mk fun w9 h9 => ⟨(k + 1, w9), Cov.au rfl rfl rfl rfl rfl, rfl, ⟨hlt, h9.below, ?_⟩, by simp only; omega⟩);simp only;rw [List.take_add_one, hg, List.any_append, hall];simp [Zo.odd, h1]
 ·have hge : k = l.length := by (have : ¬ k < l.length := by simpa using hc); omega
  subst hge;rw [List.take_length] at hall;rw [if_neg (by rw [hall]; decide)];exact EndI.mk fun w9 h9 => rfl
theorem zmeet_any (a b : Zn) (w : World) :
 Calls Tryz.prog 107 #[.agg #[.int .i64 a.a, .int .i64 a.b, .int .i64 a.c, .int .i64 a.d, .int .i64 a.e, .int .i64 a.f], .agg #[.int .i64 b.a, .int .i64 b.b, .int .i64 b.c, .int .i64 b.d, .int .i64 b.e, .int .i64 b.f]] w fun e w' => e = .returned (.tuple #[.agg #[.int .i64 (Zo.meet a b).1.a, .int .i64 (Zo.meet a b).1.b, .int .i64 (Zo.meet a b).1.c, .int .i64 (Zo.meet a b).1.d, .int .i64 (Zo.meet a b).1.e, .int .i64 (Zo.meet a b).1.f], .int .i64 (Zo.meet a b).2]) /\ Below w.heap.size w w' := by
 refine fun_eq 0 w Tryz.func107 (args := [.agg [.val (.int .i64 a.a), .val (.int .i64 a.b), .val (.int .i64 a.c), .val (.int .i64 a.d), .val (.int .i64 a.e), .val (.int .i64 a.f)], .agg [.val (.int .i64 b.a), .val (.int .i64 b.b), .val (.int .i64 b.c), .val (.int .i64 b.d), .val (.int .i64 b.e), .val (.int .i64 b.f)]]) rfl rfl ?_;have st := Stay.first (w := w)
 refine NewI.mk fun b1 hb1 => ?_;refine NewI.mk fun b2 hb2 => ?_;refine NewI.mk fun b3 hb3 => ?_;refine NewI.mk fun b4 hb4 => ?_;unfold Zo.meet;apply CallI.use1
 focus (exact fun w1 h1 => zchecked_any [a, b] _ _ w1 (Sl.own (l := [a, b]) h1 3 rfl rfl rfl (Nat.le_refl _) (by simp [maxLen])))
 intro w1 v1 h1 hB1;have st := st.nx h1 hB1;refine Branch.mk (fun hc => ?_) (fun hc => ?_)
 ·have h0 : ¬ Zo.checks [a, b] = 0 := by simpa using hc
  rw [if_neg h0];exact EndI.mk fun w9 h9 => rfl
 have h0 : Zo.checks [a, b] = 0 := by simpa using hc
 rw [if_pos h0];have hmt := fun a1 a2 q1 q2 w h1 h2 => tmeet_any 3 3 (Zo.matL a) (Zo.matL b) a1 a2 q1 q2 w h1 h2;have h3 : (Tg.meet 3 (Zo.matL a) 3 (Zo.matL b)).2.2 = 0 -> (Tg.meet 3 (Zo.matL a) 3 (Zo.matL b)).1 = 3 := fun h => by
  revert h
  unfold Tg.meet;split
  ·intro h; cases h
  ·split
   ·intro h; cases h
   ·unfold Dbm.close
    split
    ·split
     ·intro h; rfl
     ·intro h; cases h
    ·intro h; cases h
 generalize Tg.meet 3 (Zo.matL a) 3 (Zo.matL b) = X at *;obtain ⟨n, C, e⟩ := X;simp only at h3 hmt ⊢;refine DrawI.go (.tk 0 (.tk 2 (.two 1 (.two 3 (.two 4 (.tk 5 (.tk 6 (.tk 7 (.ev 8 (.ev 9 (.tk 10 .done)))))) 8 (.ev 4 (.tk 5 (.tk 6 (.tk 7 (.ev 9 (.tk 10 .done))))))) 8 (.ev 3 (.ev 4 (.tk 5 (.tk 6 (.tk 7 (.ev 9 (.tk 10 .done)))))))) 8 (.ev 1 (.ev 3 (.ev 4 (.tk 5 (.tk 6 (.tk 7 (.ev 9 (.tk 10 .done))))))))))) (by kernel_rfl) fun w2 h2 => ?_;have st := st.at h2;refine Both.mk ?_ ?_
 ·skip
  apply CallI.use
  focus (exact fun wA hA => zmatrix_any a wA)
  rintro v wA vA hA hBA ⟨aA, qA, rfl, hFA⟩;have st := st.next hA (fun x hx => by simp at hx <;> omega) hBA
  refine Both.mk ?_ ?_
  ·skip
   apply CallI.use
   focus (exact fun wB hB => zmatrix_any b wB)
   rintro v wB vB hB hBB ⟨aB, qB, rfl, hFB⟩;have st := st.next hB (fun x hx => by simp at hx <;> omega) hBB
   refine Both.mk ?_ ?_
   ·skip
    apply CallI.use
    focus (exact fun wC hC => hmt aA aB qA qB wC ((hFA.st (st.at hC (fun x hx => by simp at hx <;> omega))).sl) ((hFB.st (st.at hC (fun x hx => by simp at hx <;> omega))).sl))
    rintro v wC vC hC hBC ⟨aC, qC, rfl, hFC⟩;have st := st.next hC (fun x hx => by simp at hx <;> omega) hBC
    refine NewI.mk fun b9 hb9 => ?_
    by_cases h9 : e = 0
    ·have hn := h3 h9
     subst hn;rw [if_pos h9];refine Branch.no (by simp [h9]) ?_;apply CallI.use1
     focus (exact fun w8 h8 => ztold_any aC qC C w8 ((hFC.st (st.at h8)).sl))
     intro w8 v8 h8 hB8;exact EndI.mk fun w9 h9 => rfl
    ·refine Branch.yes (by simp [h9]) ?_
     rw [if_neg h9];exact EndI.mk fun w9 h9 => rfl
   ·skip
    refine NewI.mk fun b9 hb9 => ?_;apply CallI.use
    focus (exact fun wC hC => hmt aA aB qA qB wC ((hFA.st (st.at hC (fun x hx => by simp at hx <;> omega))).sl) ((hFB.st (st.at hC (fun x hx => by simp at hx <;> omega))).sl))
    rintro v wC vC hC hBC ⟨aC, qC, rfl, hFC⟩;have st := st.next hC (fun x hx => by simp at hx <;> omega) hBC
    by_cases h9 : e = 0
    ·have hn := h3 h9
     subst hn;rw [if_pos h9];refine Branch.no (by simp [h9]) ?_;apply CallI.use1
     focus (exact fun w8 h8 => ztold_any aC qC C w8 ((hFC.at h8 (fun b hb => by rw [List.mem_singleton.1 hb]; exact hC.lt b9 (by simp))).sl))
     intro w8 v8 h8 hB8;exact EndI.mk fun w9 h9 => rfl
    ·refine Branch.yes (by simp [h9]) ?_
     rw [if_neg h9];exact EndI.mk fun w9 h9 => rfl
  ·skip
   refine NewI.mk fun b9 hb9 => ?_;apply CallI.use
   focus (exact fun wB hB => zmatrix_any b wB)
   rintro v wB vB hB hBB ⟨aB, qB, rfl, hFB⟩;have st := st.next hB (fun x hx => by simp at hx <;> omega) hBB
   apply CallI.use
   focus (exact fun wC hC => hmt aA aB qA qB wC ((hFA.st (st.at hC (fun x hx => by simp at hx <;> omega))).sl) ((hFB.st (st.at hC (fun x hx => by simp at hx <;> omega))).sl))
   rintro v wC vC hC hBC ⟨aC, qC, rfl, hFC⟩;have st := st.next hC (fun x hx => by simp at hx <;> omega) hBC
   by_cases h9 : e = 0
   ·have hn := h3 h9
    subst hn;rw [if_pos h9];refine Branch.no (by simp [h9]) ?_;apply CallI.use1
    focus (exact fun w8 h8 => ztold_any aC qC C w8 ((hFC.at h8 (fun b hb => by rw [List.mem_singleton.1 hb]; exact hC.lt b9 (by simp))).sl))
    intro w8 v8 h8 hB8;exact EndI.mk fun w9 h9 => rfl
   ·refine Branch.yes (by simp [h9]) ?_
    rw [if_neg h9];exact EndI.mk fun w9 h9 => rfl
 ·skip
  refine NewI.mk fun b9 hb9 => ?_;apply CallI.use
  focus (exact fun wA hA => zmatrix_any a wA)
  rintro v wA vA hA hBA ⟨aA, qA, rfl, hFA⟩;have st := st.next hA (fun x hx => by simp at hx <;> omega) hBA
  apply CallI.use
  focus (exact fun wB hB => zmatrix_any b wB)
  rintro v wB vB hB hBB ⟨aB, qB, rfl, hFB⟩;have st := st.next hB (fun x hx => by simp at hx <;> omega) hBB
  apply CallI.use
  focus (exact fun wC hC => hmt aA aB qA qB wC ((hFA.st (st.at hC (fun x hx => by simp at hx <;> omega))).sl) ((hFB.st (st.at hC (fun x hx => by simp at hx <;> omega))).sl))
  rintro v wC vC hC hBC ⟨aC, qC, rfl, hFC⟩;have st := st.next hC (fun x hx => by simp at hx <;> omega) hBC
  by_cases h9 : e = 0
  ·have hn := h3 h9
   subst hn;rw [if_pos h9];refine Branch.no (by simp [h9]) ?_;apply CallI.use1
   focus (exact fun w8 h8 => ztold_any aC qC C w8 ((hFC.at h8 (fun b hb => by rw [List.mem_singleton.1 hb]; exact hC.lt b9 (by simp))).sl))
   intro w8 v8 h8 hB8;exact EndI.mk fun w9 h9 => rfl
  ·refine Branch.yes (by simp [h9]) ?_
   rw [if_neg h9];exact EndI.mk fun w9 h9 => rfl
theorem elDI : ElOk Tryz.prog 48 3 1 8 := elOk (z := .int .i64 0) Tryz.underlying48 (by kernel_rfl) rfl (by decide)
theorem tyDI : TyOk Tryz.prog 3 ⟨[.int .i64 0], false⟩ := tyOk_one Tryz.zeroValue3 Tryz.sizeOf3 Tryz.isAgg3 rfl
theorem deleteI_any (l : List Int) (g cap base i j : Nat) (e0 : TypeId) (he : e0 = 3) (hij : i < j) (hj : j <= l.length) (B : Nat) (w : World) (hB : B <= w.heap.size) (hg : B <= g) (hO : Own e0 base w (.slice (some ⟨g, 0, none⟩) l.length cap) l) (hlen : l.length <= 1000000) :
 Calls Tryz.prog 190 #[.slice (some ⟨g, 0, none⟩) l.length cap, .int .i64 i, .int .i64 j] w fun e w' => ∃ v, e = .returned v /\ Below B w w' /\ v = .slice (some ⟨g, 0, none⟩) (i + (l.length - j)) cap /\ Own e0 base w' (.slice (some ⟨g, 0, none⟩) (i + (l.length - j)) cap) (l.take i ++ l.drop j) /\ w.grownBy w' (some g) := by
 subst he;obtain ⟨_, hbg, hgl, cur0, _, hcap, hmax, _, _⟩ := hO.at0;have hm : cap <= 9223372036854775807 := by unfold maxLen at hmax; omega
 refine fun_at 0 B w hB Tryz.func190 (args := [.val (.slice (some ⟨g, 0, none⟩) l.length cap), .val (.int .i64 i), .val (.int .i64 j)]) rfl rfl ?_;refine Need.mk ⟨by omega, by omega, by omega, by omega⟩ ?_;refine Branch.no (by simp; omega) ?_;refine DrawI.wr (.tk 0 (.tk 1 (.tk 2 (.tk 3 (.tk 4 (.tk 5 (.ev 6 (.tk 7 .done)))))))) [] [g] (by kernel_rfl) rfl (fun _ h => by cases h) fun w1 h1 => ?_;refine Need.mk ⟨by omega, by omega, by omega⟩ ?_;refine Need.mk ⟨by omega, by omega, by omega⟩ ?_;have hdl : (l.drop j).length = l.length - j := by simp
 have hil : (l.take i).length = i := by simp; omega
 refine GenN.mk fun w2 h2 => ?_;have k2 := h1.go.trans (h2.go.mono h1.size);have hO2 : Own 3 base w2 (.slice (some ⟨g, 0, none⟩) l.length cap) l := hO.below k2;have hT := hO2.take i (by omega);have hs0 := (hO2.sl).sub j l.length hj (Nat.le_refl _);rw [List.take_of_length_le (by simp)] at hs0;obtain ⟨hl, hs⟩ := hs0.src
 have happ : ∃ w', (Builtin.append_ #[48, 48] 48 #[.slice (some ⟨g, 0, none⟩) i cap, .slice (if cap = j then some ⟨g, 0, none⟩ else (some (⟨g, 0, none⟩ : Addr)).map (·.add (j * size Int))) (l.length - j) (cap - j)]).run Tryz.prog w2 = .ok (.slice (some ⟨g, 0, none⟩) (i + (l.length - j)) cap) w' /\
  Own 3 base w' (.slice (some ⟨g, 0, none⟩) (i + (l.length - j)) cap) (l.take i ++ l.drop j) /\ w2.grownBy w' (some g) := by
  obtain ⟨ht, ⟨inf, z, hi, hz, hss, hb, hzs⟩, hp⟩ := elDI;have hown : w2.ownsRow base 3 (size Int) (.slice (some ⟨g, 0, none⟩) i cap) i (cellsL (l.take i)) := by have := hT; unfold Own at this; rwa [hil] at this
  rcases hs with ⟨e0, hm0⟩ | ⟨ad, c, e0, hc⟩
  ·split at e0 <;> simp at e0
  ·rw [e0]
   rw [hdl] at hl ⊢;obtain ⟨w', a1, a2, a3⟩ := run_append_fits (P := Tryz.prog) w2 base 48 48 3 inf (size Int) ht hi hss g i cap (cellsL (l.take i)) hown ad (l.length - j) c (cellsL (l.drop j)) hl hc (cellsL_one _) (by omega);refine ⟨w', a1, ?_, a3⟩;unfold Own;rw [cellsL_append, List.length_append, hil, hdl]; exact a2
 obtain ⟨w3, hr3, hO3, hg3⟩ := happ;refine ⟨.slice (some ⟨g, 0, none⟩) (i + (l.length - j)) cap, w3, ?_, kpD_grown h2 hg3 (fun k hk => by injection hk with hk; subst hk; exact ⟨hg, by simp, .inl (by simp [locs])⟩), ?_⟩
 ·exact run_value hr3
 have hnl : (l.take i ++ l.drop j).length = i + (l.length - j) := by rw [List.length_append, hil, hdl]
 refine Need.mk ⟨by omega, by omega, by omega⟩ ?_;refine GenN.mk fun w4 h4 => ?_;have hO4 := hO3.below h4.go;have g4 : w.grownBy w4 (some g) := grown_below (grown_trans (grown_below (grown_refl w (some g)) k2) hg3) h4.go;obtain ⟨_, _, hgl4, cur, hc4, _, _, hs4, _⟩ := hO4.at0;have hlo : i + (l.length - j) < l.length := by omega
 have hroom : (i + (l.length - j)) * size Int + (j - i) * size Int <= cur.size := by
  rw [hs4, <- Nat.add_mul]; exact Nat.mul_le_mul_right _ (by omega)
 obtain ⟨vs, hvl, hrun⟩ := run_clear (P := Tryz.prog) (c := cap - (i + (l.length - j))) elDI.ht tyDI (by decide) (o := (i + (l.length - j)) * size Int) (n := j - i) hc4 hroom (by omega);have hvl' : vs.length = (j - i) * size Int := hvl;refine ⟨_, _, hrun _ _ _ ?_, ⟨below_setRow (Below.refl _ _) hg _, fun b hb => by cases hb⟩, ?_⟩
 ·show Value.slice (if cap = _ then _ else _) _ _ = _
  rw [if_neg (by simp only [Int.toNat_natCast]; omega)];simp only [Int.toNat_natCast, Option.map_some, addr_addL, Nat.zero_add, Value.slice.injEq, true_and];exact ⟨rfl, by omega, trivial⟩
 refine EndI.mk fun w5 h5 => ?_;refine ⟨rfl, (hO4.setRow hc4 _ vs (by rw [hnl]; exact Nat.le_refl _) (by rw [hvl']; exact hroom)).below h5.go, ?_⟩;exact grown_below (grown_trans g4 (grown_setRow w4 g _)) h5.go
def madeL (L : List Int) (F : Nat -> Int) (N : Nat) : List Int := (List.range N).map fun k => if 0 <= F k then L[(F k).toNat]?.getD 0 else 9223372036854775807
theorem madeL_len (L : List Int) (F : Nat -> Int) (N : Nat) : (madeL L F N).length = N := by simp [madeL]
def madeP (L : List Int) (F : Nat -> Int) (N k : Nat) : List Int := (List.range N).map fun j => if j < k then (if 0 <= F j then L[(F j).toNat]?.getD 0 else 9223372036854775807) else 0
theorem madeP_len (L : List Int) (F : Nat -> Int) (N k : Nat) : (madeP L F N k).length = N := by simp [madeP]
theorem madeP_all (L : List Int) (F : Nat -> Int) (N : Nat) : madeP L F N N = madeL L F N := by
 unfold madeP madeL;refine List.map_congr_left fun j hj => ?_;rw [if_pos (List.mem_range.1 hj)]
theorem madeP_zero (L : List Int) (F : Nat -> Int) (N : Nat) : madeP L F N 0 = List.replicate N 0 := by
 unfold madeP;rw [List.eq_replicate_iff];refine ⟨by simp, fun b hb => ?_⟩;simp at hb; exact hb.2.symm
theorem madeP_set (L : List Int) (F : Nat -> Int) {N k : Nat} (hk : k < N) (x : Int) (hx : x = if 0 <= F k then L[(F k).toNat]?.getD 0 else 9223372036854775807) : (madeP L F N k).set k x = madeP L F N (k + 1) := by
 apply List.ext_getElem?;intro j;rw [List.getElem?_set];unfold madeP
 by_cases hj : k = j
 ·subst hj
  simp [hk, hx]
 ·rw [if_neg hj]
  simp only [List.getElem?_map];rcases Nat.lt_or_ge j N with h | h
  ·rw [List.getElem?_range h]
   simp only [Option.map_some];have h2 : j < k + 1 ↔ j < k := by omega
   simp only [h2]
  ·rw [List.getElem?_eq_none (by simpa using h)]; rfl
theorem kpD_set {w0 : Base} {wr : World} {M r : List Nat} {w1 : World} {g x : Nat} {v : Value} (hg : w0.B <= g) (hr : ∀ b, b ∈ r -> b ≠ g) (hM : g ∈ M) : kpD w0 wr M r w1 (w1.setCell ⟨g, x, none⟩ v) := fun _ =>
 ⟨keep_set hg hr, fun k hk hkm => Below.heap_setCell _ _ _ _ (fun e => hkm (e ▸ hM))⟩
theorem row_zeros {e : TypeId} {base : Nat} {W : World} {g N : Nat} {xs : List Value} (h : W.ownsRow base e 1 (.slice (some ⟨g, 0, none⟩) N N) N xs) (hx : xs = (List.replicate N (0 : Int)).map (Value.int .i64)) : RowAt e W g (List.replicate N 0) := by
 subst hx;have := RowAt.of_own (T := e) (L := List.replicate N 0) (cap := N) (by simpa using h);exact this.1
theorem infoBound0 : (Tryz.prog.info? 84).map (fun i => (i.zero, i.size, i.bytes)) = some (some (.int .i64 0), 1, 8) := by kernel_rfl
theorem pmade_any (d : Int) (L : List Int) (a : Option Addr) (cap : Nat) (m : Nat) (hm1 : 1 <= m) (hm4 : m <= 5) (fid : FuncId) (caps : Array Value) (en : Enters Tryz.prog fid) (F : Nat -> Int) (w : World) (hS : Sl w.heap.size w (.slice a L.length cap) L)
 (hF : ∀ k, k < m * m -> F k < L.length)
 (hcall : ∀ k W, k < m * m -> Below w.heap.size w W -> Calls Tryz.prog fid (.int .i64 ((k : Int).tdiv m) :: .int .i64 ((k : Int).tmod m) :: caps.toList).toArray W fun e W' => e = .returned (.int .i64 (F k)) /\ Below W.heap.size W W') :
 Calls Tryz.prog 191 #[.agg #[.int .i64 d, .slice a L.length cap], .int .i64 m, .func (.func fid) #[] caps] w (Ret w fun v w' => ∃ a' cap', v = .agg #[.int .i64 m, .slice a' (madeL L F (m * m)).length cap'] /\ Fresh TB w.heap.size w' (.slice a' (madeL L F (m * m)).length cap') (madeL L F (m * m))) := by
 refine fun_ret 0 w Tryz.func191 (args := [.agg [.val (.int .i64 d), .val (.slice a L.length cap)], .val (.int .i64 m), .val (.func (.func fid) #[] caps)]) rfl rfl ?_;refine NewI.mk fun b1 hb1 => ?_;refine NewI.mk fun b2 hb2 => ?_;have hmm : m * m <= 25 := Nat.mul_le_mul hm4 hm4;have hmm1 : 1 <= m * m := Nat.mul_le_mul hm1 hm1;have emm : (m : Int) * m = ((m * m : Nat) : Int) := rfl;refine Need.mk (by show _ /\ _; omega) ?_;generalize hN : m * m = N at *;refine GenV.mk fun w1 h1 => ?_;obtain ⟨ht, ⟨inf, z, hi, hz, hss, hby, hzs⟩, hp⟩ := elB;obtain ⟨w2, hr2, hown, hg2⟩ := run_makeSlice_full (P := Tryz.prog) w1 w1.heap.size _ _ inf z 1 ht hi hz hss .i64 .i64 N (by omega) (by rw [hby]; omega) (by unfold maxLen; omega) (Nat.le_refl _);have hB2 : Below w1.heap.size w1 w2 := ⟨hg2.os, hg2.tape, hg2.output, hg2.size, fun k hk => hg2.block k hk (by simp)⟩;refine ⟨_, w2, by rw [emm]; exact hr2, h1.keep hB2, ?_⟩;refine NewI.mk fun b3 hb3 => ?_;have hcells : (madeCells z.cells (N * 1)).toList = (List.replicate N (0 : Int)).map (Value.int .i64) := by
  have hzc : z = .int .i64 0 := by
   have := infoBound0;rw [hi] at this;simp only [Option.map_some, Option.some.injEq, Prod.mk.injEq] at this;exact Option.some.inj (hz.symm.trans this.1)
  subst hzc;apply List.ext_getElem?;intro j;rcases Nat.lt_or_ge j N with h | h
  ·simp [madeCells, h, Value.cells, Nat.mod_one]
  ·simp [madeCells, Nat.not_lt.2 h]
 have hr0 : RowAt TB w2 w1.heap.size (madeP L F N 0) := by rw [madeP_zero]; exact row_zeros hown hcells
 have hgw : w.heap.size <= w1.heap.size := h1.below.size;have hgr : ∀ b, b ∈ [b1, b2, b3] -> b ≠ w1.heap.size := by
  intro b hb e;simp only [List.mem_cons, List.not_mem_nil, or_false] at hb;have := hr0.lt;rcases hb with rfl | rfl | rfl
  ·have := h1.lt b (by simp); omega
  ·have := h1.lt b (by simp); omega
  ·omega
 have hsz1 : w1.heap.size < w2.heap.size := hr0.lt;generalize w1.heap.size = g at *;refine LoopI.invC (α := Nat × World) (fun y => [(19, .val (.int .i64 y.1))]) (fun y => y.2) (fun y => y.1 <= N /\ Below w.heap.size w y.2 /\ RowAt TB y.2 g (madeP L F N y.1)) (fun y => N - y.1) ?_ ?_
 ·intro w5 h5
  exact ⟨(0, w5), Cov.au rfl rfl rfl rfl rfl, rfl, Nat.zero_le _, h5.below, hr0.at h5 (fun e => hgr b3 (by simp) (List.mem_singleton.1 e).symm)⟩
 rintro ⟨k, W⟩ ⟨hk, hW, hRk⟩;refine Branch.mk (fun hb => ?_) (fun hb => ?_)
 ·have hlt : k < N := by simpa using hb
  have hkl : ∀ i, k < (madeP L F N i).length := fun i => by rw [madeP_len]; exact hlt
  refine IdxI.mk ⟨_, ⟨rfl, by omega, by omega⟩, ?_⟩;refine StoreI.mk fun w5 h5 => ?_;have r5 := hRk.below h5.go hRk.lt;rw [show ((⟨g, 0, none⟩ : Addr).add ((k : Int).toNat * 1)) = ⟨g, k, none⟩ by simp [addr_addL]];refine ⟨⟨⟨_, r5.cell (j := k) (hkl k)⟩, r5.frozen _⟩, keep_set hgw hgr, ?_⟩;have r6 : RowAt TB (w5.setCell ⟨g, k, none⟩ (.int .i64 9223372036854775807)) g ((madeP L F N k).set k 9223372036854775807) := r5.set (hkl k) _;have B6 : Below w.heap.size w (w5.setCell ⟨g, k, none⟩ (.int .i64 9223372036854775807)) := h5.below.setCell (p := ⟨g, k, none⟩) hgw _;generalize w5.setCell ⟨g, k, none⟩ (.int .i64 9223372036854775807) = w6 at r6 B6;refine DrawI.go (.tk 0 (.tk 1 (.tk 2 (.tk 3 (.tk 4 (.tk 5 (.tk 6 (.ev 7 (.tk 8 .done))))))))) (by kernel_rfl) fun w7 h7 => ?_;have r7 := r6.below h7.go r6.lt;have hdm : inK .i64 ((k : Int).tdiv m) := by
   rw [Int.tdiv_eq_ediv_of_nonneg (by omega)];have h0 : 0 <= (k : Int) / m := Int.ediv_nonneg (by omega) (by omega);have h1 : (k : Int) / m <= k := Int.ediv_le_self _ (by omega);show _ /\ _; omega
  refine Need.mk ⟨by omega, hdm⟩ ?_;refine Need.mk (by omega) ?_;refine Need.mk en ?_;apply CallI.use1
  ·exact fun w8 h8 => hcall k w8 hlt h8.below
  intro w8 w9 h8 hB9;have k9 := h8.step2 hB9;have r9 := r7.below k9 r7.lt;have B9 : Below w.heap.size w w9 := h8.below.trans (hB9.mono h8.below.size);refine Branch.mk (fun hc => ?_) (fun hc => ?_)
  ·have hc0 : 0 <= F k := by simpa using hc
   refine DrawI.wr (.tk 0 (.tk 1 (.tk 2 (.tk 3 (.tk 4 (.tk 5 (.tk 6 (.tk 7 (.tk 8 (.ev 9 .done)))))))))) [] [g] (by kernel_rfl) rfl (fun b hb h => hgr b hb (by simpa using h)) fun w10 h10 => ?_;have r10 := r9.below h10.go r9.lt;have hFl := hF k hlt;obtain ⟨f, hf⟩ : ∃ f : Nat, F k = f := ⟨(F k).toNat, by omega⟩;have hfl : f < L.length := by omega
   rw [hf];refine hS.idx (List.getElem?_eq_getElem hfl) fun ad had => ?_;refine hS.ld1 (List.getElem?_eq_getElem hfl) had h10.below (by intro b hb; simp at hb; subst hb; exact hgw) ?_;refine IdxI.mk ⟨_, ⟨rfl, by omega, by omega⟩, ?_⟩;refine StoreI.mk fun w11 h11 => ?_;rw [show ((⟨g, 0, none⟩ : Addr).add ((k : Int).toNat * 1)) = ⟨g, k, none⟩ by simp [addr_addL]];have r11 := r10.below h11.go r10.lt;have hkl' : k < ((madeP L F N k).set k 9223372036854775807).length := by simpa using hkl k
   refine ⟨⟨⟨_, r11.cell hkl'⟩, r11.frozen _⟩, kpD_set hgw hgr (by simp [locs]), ?_⟩;refine Need.mk (by show _ /\ _; omega) (EndI.mk fun w12 h12 => ⟨(k + 1, w12), Cov.au rfl rfl rfl rfl rfl, rfl, ⟨hlt, h12.below, ?_⟩, by simp only; omega⟩);have e1 : ((madeP L F N k).set k 9223372036854775807).set k (L[f]'hfl) = madeP L F N (k + 1) := by
    rw [List.set_set];exact madeP_set L F hlt _ (by rw [if_pos hc0, hf, Int.toNat_natCast, List.getElem?_eq_getElem hfl]; rfl)
   rw [<- e1];exact (r11.set hkl' _).below h12.go (by have := r11.lt; simpa [World.setCell] using this)
  ·have hc0 : ¬ 0 <= F k := by simpa using hc
   refine Need.mk (by show _ /\ _; omega) (EndI.mk fun w12 h12 => ⟨(k + 1, w12), Cov.au rfl rfl rfl rfl rfl, rfl, ⟨hlt, h12.below, ?_⟩, by simp only; omega⟩);have e1 : (madeP L F N k).set k 9223372036854775807 = madeP L F N (k + 1) := madeP_set L F hlt _ (by rw [if_neg hc0]);rw [<- e1];exact r9.below h12.go r9.lt
 ·have hge : k = N := by (have : ¬ k < N := by simpa using hb); omega
  rw [hge, madeP_all] at hRk;refine EndI.mk fun w5 h5 => ?_;have hll := madeL_len L F N;rw [hll];refine ⟨_, _, rfl, .inr ⟨g, N, by rw [hll], by omega, by unfold maxLen; omega, hgw, ?_⟩⟩;exact hRk.at h5 (fun e => hgr b2 (by simp) (List.mem_singleton.1 e).symm)
namespace Proj
def sk (k j : Nat) : Nat := if j < k then j else j + 1
def dropAt (N k idx : Nat) : Nat := sk k (idx / (N - 1)) * N + sk k (idx % (N - 1))
def dropL (N k : Nat) (c : List Int) : List Int := (List.range ((N - 1) * (N - 1))).map fun idx => c[dropAt N k idx]?.getD 0
def drop (n : Int) (L : List Int) (k : Int) : Int × List Int × Int :=
 if Dbm.chk n L = 0 then (if k < 1 \/ n <= k then (0, [], 2) else (match Dbm.closeL n.toNat L with | some c => (n - 1, dropL n.toNat k.toNat c, 0) | none => (0, [], 6))) else (0, [], 8)
end Proj
theorem drop1_any (i j : Nat) (p q : Nat) (a : Option Addr) (cap : Nat) (l : List Int) (n x y : Int) (hx : l[i]? = some x) (hy : l[j]? = some y) (hr : inK .i64 (x * n) /\ inK .i64 (x * n + y)) (w : World) (hp : w.cell? ⟨p, 0, none⟩ = some (.slice a l.length cap)) (hS : Sl w.heap.size w (.slice a l.length cap) l) (hq : w.cell? ⟨q, 0, none⟩ = some (.int .i64 n)) :
 Calls Tryz.prog 192 #[.int .i64 i, .int .i64 j, .pointer (some ⟨p, 0, none⟩), .pointer (some ⟨q, 0, none⟩)] w fun e w' => e = .returned (.int .i64 (x * n + y)) /\ Below w.heap.size w w' := by
 refine fun_eq 0 w Tryz.func192 (args := [.val (.int .i64 i), .val (.int .i64 j), .val (.pointer (some ⟨p, 0, none⟩)), .val (.pointer (some ⟨q, 0, none⟩))]) rfl rfl ?_;refine DrawI.go (.tk 0 (.tk 1 (.tk 2 (.tk 3 (.tk 4 (.tk 5 (.tk 6 (.tk 7 (.tk 8 (.tk 9 (.tk 10 (.tk 11 (.tk 12 .done))))))))))))) (by kernel_rfl) fun w1 h1 => ?_;have hb := h1.go;refine LoadI.mk ⟨_, ⟨(hb.cell (p := ⟨p, 0, none⟩) (World.block_lt_of_cell? _ _ hp)).trans hp, by simp⟩, ?_⟩;refine hS.idx hx fun ad had => ?_;refine hS.ld1 hx had hb (by simp) ?_;refine LoadI.mk ⟨_, ⟨(hb.cell (p := ⟨q, 0, none⟩) (World.block_lt_of_cell? _ _ hq)).trans hq, by simp⟩, ?_⟩;refine Need.mk hr.1 ?_;refine LoadI.mk ⟨_, ⟨(hb.cell (p := ⟨p, 0, none⟩) (World.block_lt_of_cell? _ _ hp)).trans hp, by simp⟩, ?_⟩;refine hS.idx hy fun ad had => ?_;refine hS.ld1 hy had hb (by simp) ?_;refine Need.mk hr.2 ?_;exact EndI.mk fun w2 h2 => rfl
abbrev TI : TypeId := 3
def upto (N : Nat) : List Int := (List.range N).map (Int.ofNat)
theorem upto_succ (N : Nat) : upto (N + 1) = upto N ++ [(N : Int)] := by simp [upto, List.range_succ]
theorem upto_len (N : Nat) : (upto N).length = N := by simp [upto]
def leftL (N K : Nat) : List Int := (upto N).take K ++ (upto N).drop (K + 1)
theorem leftL_len {N K : Nat} (h : K < N) : (leftL N K).length = K + (N - (K + 1)) := by simp [leftL, upto_len]; omega
theorem leftL_get {N K j : Nat} (h : K < N) (hj : j < N - 1) : (leftL N K)[j]? = some (Proj.sk K j : Int) := by
 unfold leftL Proj.sk upto;rw [List.getElem?_append];have hl : (List.take K (List.map Int.ofNat (List.range N))).length = K := by simp; omega
 rw [hl];split
 ·rename_i h1
  rw [List.getElem?_take, if_pos h1, List.getElem?_map, List.getElem?_range (by omega)]; rfl
 ·rename_i h1
  rw [List.getElem?_drop, List.getElem?_map, List.getElem?_range (by omega)];simp only [Option.map_some];rw [show K + 1 + (j - K) = j + 1 by omega]; rfl
theorem dropAt_lt {N k idx : Nat} (hN : 2 <= N) (hk : k < N) (h : idx < (N - 1) * (N - 1)) : Proj.dropAt N k idx < N * N := by
 have h1 : idx / (N - 1) < N - 1 := Nat.div_lt_of_lt_mul h;have h2 : idx % (N - 1) < N - 1 := Nat.mod_lt _ (by omega);have h3 : Proj.sk k (idx / (N - 1)) < N := by unfold Proj.sk; split <;> omega
 have h4 : Proj.sk k (idx % (N - 1)) < N := by unfold Proj.sk; split <;> omega
 unfold Proj.dropAt
 calc _ < Proj.sk k (idx / (N - 1)) * N + N := by omega
  _ = (Proj.sk k (idx / (N - 1)) + 1) * N := by rw [Nat.succ_mul]
  _ <= N * N := Nat.mul_le_mul_right _ h3
theorem drop_any (n : Int) (a : Option Addr) (cap : Nat) (L : List Int) (k : Int) (w : World) (hS : Sl w.heap.size w (.slice a L.length cap) L) :
 Calls Tryz.prog 160 #[.agg #[.int .i64 n, .slice a L.length cap], .int .i64 k] w (Ret w fun v w' => ∃ a' cap', v = .tuple #[.agg #[.int .i64 (Proj.drop n L k).1, .slice a' (Proj.drop n L k).2.1.length cap'], .int .i64 (Proj.drop n L k).2.2] /\ Fresh TB w.heap.size w' (.slice a' (Proj.drop n L k).2.1.length cap') (Proj.drop n L k).2.1) := by
 refine fun_ret 0 w Tryz.func160 (args := [.agg [.val (.int .i64 n), .val (.slice a L.length cap)], .val (.int .i64 k)]) rfl rfl ?_;refine NewI.mk fun b1 hb1 => ?_;refine NewI.mk fun b2 hb2 => ?_
 (first
   | (apply CallI.use1; (focus (exact fun w1 h1 => dcheck_any n a cap L w1 (Sl.at h1 hS))); intro w1 w2 h1 hB)
   | (refine Branch.yes rfl ?_)
   | (refine Branch.no rfl ?_)
   | (refine Branch.mk (fun hb => ?_) (fun hb => ?_))
   | (refine NewI.mk fun nb hnb => ?_)
   | (refine Need.mk (by show _ /\ _; omega) ?_)
   | (refine Need.mk (by omega) ?_)
   | (refine Need.mk ?_ ?_)
   | (refine EndI.mk fun w1 h1 => ?_))
 -- an error
 have err : ∀ (e : Int) (w' : World), Proj.drop n L k = (0, [], e) -> ∃ a' cap', Value.tuple #[.agg #[.int .i64 0, .slice none 0 0], .int .i64 e] = .tuple #[.agg #[.int .i64 (Proj.drop n L k).1, .slice a' (Proj.drop n L k).2.1.length cap'], .int .i64 (Proj.drop n L k).2.2] /\ Fresh TB w.heap.size w' (.slice a' (Proj.drop n L k).2.1.length cap') (Proj.drop n L k).2.1 := fun e w' he => by
  rw [he]; exact ⟨_, _, rfl, .inl ⟨rfl, rfl⟩⟩
 refine Branch.mk (fun hc => ?_) (fun hc => ?_)
 ·exact EndI.mk fun w3 h3 => err 8 w3 (by rw [Proj.drop, if_neg (by simpa using hc)])
 have hc0 : Dbm.chk n L = 0 := by simpa using hc
 refine Branch.mk (fun hk1 => ?_) (fun hk1 => ?_)
 ·exact EndI.mk fun w3 h3 => err 2 w3 (by rw [Proj.drop, if_pos hc0, if_pos (.inl (by simpa using hk1))])
 refine Branch.mk (fun hk2 => ?_) (fun hk2 => ?_)
 ·exact EndI.mk fun w3 h3 => err 2 w3 (by rw [Proj.drop, if_pos hc0, if_pos (.inr (by simpa using hk2))])
 have hk1' : 1 <= k := by simp at hk1; omega
 have hk2' : k < n := by simpa using hk2
 have hcon := fun (w3 : World) (h : Sl w3.heap.size w3 (.slice a L.length cap) L) => close_any n a cap L w3 h;rcases Dbm.close_cases hc0 with ⟨h1, h2⟩ | ⟨C, hC, hcl, hCl⟩
 ·simp only [h2] at hcon
  apply CallI.use
  ·exact fun w3 h3 => hcon w3 (Sl.at h3 hS)
  rintro v w3 w4 h3 hB4 ⟨ac, capc, rfl, hF⟩;refine NewI.mk fun b3 hb3 => ?_;refine Branch.yes rfl ?_;exact EndI.mk fun w5 h5 => err 6 w5 (by rw [Proj.drop, if_pos hc0, if_neg (by omega), h1])
 simp only [hcl] at hcon;apply CallI.use
 ·exact fun w3 h3 => hcon w3 (Sl.at h3 hS)
 rintro v w3 w4 h3 hB4 ⟨ac, capc, rfl, hF⟩;refine NewI.mk fun b3 hb3 => ?_;refine Branch.no rfl ?_;refine NewI.mk fun b4 hb4 => ?_;obtain ⟨N, rfl⟩ : ∃ N : Nat, n = N := ⟨n.toNat, by omega⟩;obtain ⟨K, rfl⟩ : ∃ K : Nat, k = K := ⟨k.toNat, by omega⟩;obtain ⟨c1, c2, c3, c4⟩ := Dbm.chk_iff.1 hc0;have hlen : C.length = N * N := by rw [hCl]; exact_mod_cast c3
 have hN4 : N <= 4 := by omega
 have hK1 : 1 <= K := by omega
 have hKN : K < N := by omega
 have hN2 : 2 <= N := by omega
 have hw4b : Below w.heap.size w w4 := h3.below.trans (hB4.mono h3.below.size);have hw4 : ∀ b, b ∈ [b1, b2] -> b < w4.heap.size := fun b hb => Nat.lt_of_lt_of_le (h3.lt b hb) hB4.size;obtain ⟨X, hX3, hX4, hXw, hXm⟩ : ∃ X, b3 < X /\ b4 < X /\ w4.heap.size <= X /\ ∀ n, b3 < n -> b4 < n -> w4.heap.size <= n -> X <= n := ⟨max (max b3 b4 + 1) w4.heap.size, by omega, by omega, by omega, fun n h1 h2 h3 => by omega⟩
 refine LoopI.inv (α := Nat × World × Value) (fun y => [(36, .val (.int .i64 y.1))]) (fun y => [⟨[.val (.int .i64 N), .val (.slice a L.length cap)], 81⟩, ⟨[.val (.int .i64 0), .val (.slice none 0 0)], 81⟩, ⟨[.val (.int .i64 N), .val (.slice ac C.length capc)], 81⟩, ⟨[.val y.2.2], 48⟩]) (fun y => y.2.1)
  (fun y => y.1 <= N /\ Below w4.heap.size w4 y.2.1 /\ X <= y.2.1.heap.size /\ Own TI X y.2.1 y.2.2 (upto y.1)) (fun y => N - y.1) ?_ ?_
 ·intro w5 h5
  exact ⟨(0, w5, .slice none 0 0), Cov.au rfl rfl rfl rfl rfl, rfl, Nat.zero_le _, h5.from hw4b (Below.refl _ _) (by intro b hb; simp at hb; subst hb; exact hb3), hXm _ (h5.lt b3 (by simp)) (h5.lt b4 (by simp)) h5.size, Own.nil⟩
 rintro ⟨i, W, sv⟩ ⟨hi, hBW, hXW, hO⟩;refine Branch.mk (fun hb => ?_) (fun hb => ?_)
 ·have hlt : i < N := by simpa using hb
  refine NewI.mk fun b5 hb5 => ?_;have hb5' : W.heap.size <= b5 := hb5;have hXW' : X <= W.heap.size := hXW;have hO1 : Own TI X W sv (upto i) := hO;have hBW' : Below w4.heap.size w4 W := hBW;have hr : ∀ g, sv.ownBlock = some g -> w.heap.size <= g /\ g ∉ [b1, b2, b3, b4, b5] := fun g hg => by
   have := hO1.lt g hg;refine ⟨Nat.le_trans (Nat.le_trans (Nat.le_trans h3.below.size hB4.size) hXw) this.1, fun hm => ?_⟩;simp only [List.mem_cons, List.not_mem_nil, or_false] at hm;rcases hm with rfl | rfl | rfl | rfl | rfl
   ·have := hw4 g (by simp); omega
   ·have := hw4 g (by simp); omega
   ·omega
   ·omega
   ·omega
  refine GenN.app (α := Int) elDI (upto i) [(i : Int)] X (fun w5 h5 => hO1.below h5.go) (fun w5 h5 => src_own h5 4 rfl rfl rfl rfl) (by rw [upto_len]; unfold maxLen; simp; omega) (by rw [upto_len]; simp; omega) (fun w5 h5 => Nat.le_trans hXW' h5.size)
   (fun w5 w6 h5 hg => keep_grown h5 hg hr) fun sv' w5 w6 h5 hg hO' => ?_
  obtain ⟨a', c', rfl⟩ := hO'.form;rw [<- upto_succ] at hO'
  have hB6 : Below w4.heap.size w4 w6 := ⟨hg.os.trans h5.go.os |>.trans hBW'.os, hg.tape.trans h5.go.tape |>.trans hBW'.tape, hg.output.trans h5.go.output |>.trans hBW'.output, Nat.le_trans hBW'.size (Nat.le_trans h5.size hg.size), fun k hk => by
   have hkW : k < W.heap.size := Nat.lt_of_lt_of_le hk hBW'.size;refine (hg.block k (Nat.lt_of_lt_of_le hkW h5.size) (fun e => ?_)).trans ((h5.go.block k hkW).trans (hBW'.block k hk));have := hO1.lt k e.symm
   omega⟩
  refine Need.mk (by show _ /\ _; omega) (EndI.mk fun w7 h7 => ⟨(i + 1, w7, .slice a' (upto i ++ [(i : Int)]).length c'), Cov.au rfl rfl rfl rfl rfl, rfl, ⟨hlt, ?_, ?_, ?_⟩, by simp only; omega⟩)
  ·exact h7.from hw4b hB6 (by intro b hb; simp at hb; subst hb; exact hb4)
  ·exact Nat.le_trans hXW' (Nat.le_trans h5.size (Nat.le_trans hg.size h7.size))
  ·rw [<- upto_succ]
   exact hO'.at h7 (by intro b hb; simp at hb; subst hb; exact hX4)
 ·have hge : i = N := by (have : ¬ i < N := by simpa using hb); omega
  have hO1 : Own TI X W sv (upto N) := by rw [<- hge]; exact hO
  have hBW' : Below w4.heap.size w4 W := hBW;have hXW' : X <= W.heap.size := hXW;clear hO hBW hXW hi hb hge;obtain ⟨g, cg, rfl⟩ : ∃ g c, sv = .slice (some ⟨g, 0, none⟩) (upto N).length c := by
   obtain ⟨_, ⟨rfl, h0⟩ | ⟨g, c, cur, rfl, _⟩⟩ := id hO1
   ·rw [upto_len] at h0; omega
   ·exact ⟨g, c, rfl⟩
  obtain ⟨_, hXg, hgW, _⟩ := hO1.at0;have hgw : w.heap.size <= g := Nat.le_trans hw4b.size (Nat.le_trans hXw hXg);have hgr : ∀ b, b ∈ [b1, b2, b3, b4] -> b ≠ g := by
   intro b hb e;simp only [List.mem_cons, List.not_mem_nil, or_false] at hb;rcases hb with rfl | rfl | rfl | rfl
   ·have := hw4 b (by simp); omega
   ·have := hw4 b (by simp); omega
   ·omega
   ·omega
  refine Need.mk (by show _ /\ _; omega) ?_;apply CallI.mk;intro w5 h5;refine (deleteI_any (upto N) g cg X K (K + 1) TI rfl (by omega) (by rw [upto_len]; omega) w.heap.size w5 h5.below.size hgw (hO1.below h5.go) (by rw [upto_len]; omega)).mono ?_;rintro e w6 ⟨v, rfl, hB6, rfl, hO6, hg6⟩;refine ⟨⟨hB6, fun b hb => hg6.block b (h5.lt b hb) (fun e => hgr b hb (by injection e))⟩, _, rfl, ?_⟩
  have B46 : Below w4.heap.size w4 w6 := ⟨hg6.os.trans (h5.go.os.trans hBW'.os), hg6.tape.trans (h5.go.tape.trans hBW'.tape), hg6.output.trans (h5.go.output.trans hBW'.output), Nat.le_trans hBW'.size (Nat.le_trans h5.size hg6.size), fun k hk => by
   have hkW : k < W.heap.size := Nat.lt_of_lt_of_le hk hBW'.size;refine (hg6.block k (Nat.lt_of_lt_of_le hkW h5.size) (fun e => ?_)).trans ((h5.go.block k hkW).trans (hBW'.block k hk));injection e with e; omega⟩
  have hm : K + ((upto N).length - (K + 1)) = N - 1 := by rw [upto_len]; omega
  rw [hm] at hO6 ⊢;have hll : (leftL N K).length = N - 1 := by rw [leftL_len hKN]; omega
  have hO6' : Own TI X w6 (.slice (some ⟨g, 0, none⟩) (leftL N K).length cg) (leftL N K) := by rw [hll]; exact hO6
  apply CallI.use
  ·intro w7 h7
   have B47 : Below w4.heap.size w4 w7 := h7.from hw4b B46 (by intro b hb; simp at hb; subst hb; exact hb4)
   refine pmade_any N C ac capc (N - 1) (by omega) (by omega) 192 #[.pointer (some ⟨b4, 0, none⟩), .pointer (some ⟨b3, 0, none⟩)] Tryz.call192 (fun idx => (Proj.dropAt N K idx : Int)) w7 ((hF.sl.below B47).upto B47.size) (fun k hk => by
    rw [hlen]; exact Int.ofNat_lt.2 (dropAt_lt hN2 hKN hk)) (fun k W' hk hW' => ?_)
   have h1 : k / (N - 1) < N - 1 := Nat.div_lt_of_lt_mul hk;have h2 : k % (N - 1) < N - 1 := Nat.mod_lt _ (by omega);have hs : Sl w7.heap.size w7 (.slice (some ⟨g, 0, none⟩) (leftL N K).length cg) (leftL N K) := (hO6'.at h7 (by intro b hb; simp at hb; subst hb; exact hX4)).sl;have hb4' := h7.lt b4 (by simp);have hb3' := h7.lt b3 (by simp);have sk1 : Proj.sk K (k / (N - 1)) < N := by unfold Proj.sk; split <;> omega
   have sk2 : Proj.sk K (k % (N - 1)) < N := by unfold Proj.sk; split <;> omega
   have hmul : Proj.sk K (k / (N - 1)) * N <= 4 * 4 := Nat.mul_le_mul (by omega) hN4;have emul : (Proj.sk K (k / (N - 1)) : Int) * (N : Int) = ((Proj.sk K (k / (N - 1)) * N : Nat) : Int) := rfl;refine drop1_any (k / (N - 1)) (k % (N - 1)) b4 b3 (some ⟨g, 0, none⟩) cg (leftL N K) N _ _ (leftL_get hKN h1) (leftL_get hKN h2) (by rw [emul]; constructor <;> (show _ /\ _; omega)) W' ?_ (hs.go hW' hW'.size) ?_
   ·refine (hW'.cell (p := ⟨b4, 0, none⟩) hb4').trans ?_
    rw [hll]; exact h7.own (i := 3) (o := 0) rfl rfl rfl
   ·refine (hW'.cell (p := ⟨b3, 0, none⟩) hb3').trans ?_
    exact h7.own (i := 2) (o := 0) rfl rfl rfl
  rintro v w7 w8 h7 hB8 ⟨ad, cd, rfl, hFd⟩;refine EndI.mk fun w9 h9 => ?_;have hdl : madeL C (fun idx => (Proj.dropAt N K idx : Int)) ((N - 1) * (N - 1)) = Proj.dropL N K C := by
   unfold madeL Proj.dropL;refine List.map_congr_left fun j hj => ?_;show (if 0 <= ((Proj.dropAt N K j : Nat) : Int) then _ else _) = _;rw [if_pos (Int.natCast_nonneg _), Int.toNat_natCast]
  have hdr : Proj.drop N L K = ((N : Int) - 1, Proj.dropL N K C, 0) := by
   rw [Proj.drop, if_pos hc0, if_neg (by omega), hC]; rfl
  rw [hdr];rw [hdl] at hFd ⊢;have en : ((N - 1 : Nat) : Int) = (N : Int) - 1 := by omega
  rw [en];refine ⟨_, _, rfl, ?_⟩;exact (hFd.at h9 (fun b hb => by have := h7.lt b2 (by simp); rw [List.mem_singleton.1 hb]; exact this)).lower h7.below.size
theorem cell_twoM {W : World} {B : Nat} {u v : Value} {t : TypeId} (h : W.heap[B]? = some (.cells #[u, v] t (0, 0))) : ∀ (j : Nat) (c : Value), [u, v][j]? = some c -> W.cell? ((⟨B, 0, none⟩ : Addr).add j) = some c
 | 0, c, e => by injection e with e; subst e; simp [Addr.add, World.cell?, h]
 | 1, c, e => by injection e with e; subst e; simp [Addr.add, World.cell?, h]
 | j + 2, c, e => by simp at e
namespace Cmp
def mat (a b : Zn) : List Int := put 0 2 3 (Zo.matL b) (put 0 1 2 (Zo.matL a) (Dbm.topL 4) 9) 9
theorem mat_len (a b : Zn) : (mat a b).length = 16 := by unfold mat; rw [put_len, put_len]; rfl
def comp (a b : Zn) : Zn × Int :=
 if Zo.chk a = 0 /\ Zo.chk b = 0 then (if (Proj.drop 4 (mat a b) 2).2.2 = 0 then Zo.of (Proj.drop 4 (mat a b) 2).1 (Proj.drop 4 (mat a b) 2).2.1 else (Zo.nought, (Proj.drop 4 (mat a b) 2).2.2)) else (Zo.nought, 8)
theorem top4 : Dbm.top 4 = (4, Dbm.topL 4, 0) := rfl
end Cmp
theorem ccomp_any (a b : Zn) (w : World) :
 Calls Tryz.prog 108 #[.agg #[.int .i64 a.a, .int .i64 a.b, .int .i64 a.c, .int .i64 a.d, .int .i64 a.e, .int .i64 a.f], .agg #[.int .i64 b.a, .int .i64 b.b, .int .i64 b.c, .int .i64 b.d, .int .i64 b.e, .int .i64 b.f]] w fun e w' => e = .returned (.tuple #[.agg #[.int .i64 (Cmp.comp a b).1.a, .int .i64 (Cmp.comp a b).1.b, .int .i64 (Cmp.comp a b).1.c, .int .i64 (Cmp.comp a b).1.d, .int .i64 (Cmp.comp a b).1.e, .int .i64 (Cmp.comp a b).1.f], .int .i64 (Cmp.comp a b).2]) /\ Below w.heap.size w w' := by
 refine fun_eq 0 w Tryz.func108 (args := [.agg [.val (.int .i64 a.a), .val (.int .i64 a.b), .val (.int .i64 a.c), .val (.int .i64 a.d), .val (.int .i64 a.e), .val (.int .i64 a.f)], .agg [.val (.int .i64 b.a), .val (.int .i64 b.b), .val (.int .i64 b.c), .val (.int .i64 b.d), .val (.int .i64 b.e), .val (.int .i64 b.f)]]) rfl rfl ?_;have st := Stay.first (w := w)
 refine NewI.mk fun b1 hb1 => ?_;refine NewI.mk fun b2 hb2 => ?_;refine NewI.mk fun b3 hb3 => ?_;unfold Cmp.comp;apply CallI.use1
 focus (exact fun w1 h1 => zcheck_any a w1)
 intro w1 v1 h1 hB1;have st := st.nx h1 hB1;refine Branch.mk (fun hc => ?_) (fun hc => ?_)
 ·have h0 : ¬ Zo.chk a = 0 := by simpa using hc
  rw [if_neg (fun h => h0 h.1)];exact EndI.mk fun w9 h9 => rfl
 have h0a : Zo.chk a = 0 := by simpa using hc
 apply CallI.use1
 focus (exact fun w2 h2 => zcheck_any b w2)
 intro w2 v2 h2 hB2;have st := st.nx h2 hB2;refine Branch.mk (fun hc2 => ?_) (fun hc2 => ?_)
 ·have h0 : ¬ Zo.chk b = 0 := by simpa using hc2
  rw [if_neg (fun h => h0 h.2)];exact EndI.mk fun w9 h9 => rfl
 have h0b : Zo.chk b = 0 := by simpa using hc2
 rw [if_pos ⟨h0a, h0b⟩];have htp := fun w => top_any 4 w;rw [Cmp.top4] at htp;apply CallI.use
 focus (exact fun w3 h3 => htp w3)
 rintro v w3 v3 h3 hB3 ⟨at_, ct, rfl, hOt⟩;have st := st.nx h3 hB3;refine NewI.frn fun w4 h4 => ?_;have hlb : ∀ x, x ∈ [b1, b2, b3] -> x < w3.heap.size := fun x hx => h3.lt x hx;have hw34 : w3.heap.size <= w4.heap.size := Nat.le_trans hB3.size h4.size;have hww : w.heap.size <= w3.heap.size := h3.below.size;have hOt4 := hOt.st (st.at h4);obtain ⟨g, rfl, hgb, hrow4⟩ := hOt4.row (by show 0 < 16; omega);have hg4 := hrow4.lt;have hw4 := h4.below;refine Need.mk rfl ?_;refine StoreA.mk fun w5 h5 => ?_;have hbox0 : (w4.alloc (.cells #[.int .i64 0, .slice none 0 0] 81)).heap[w4.heap.size]? = some (.cells #[.int .i64 0, .slice none 0 0] 81 (0, 0)) := World.alloc_heap_new w4 _;have g5 := at_belowM h5 (by simp);have hbox5 := (g5.block _ (lt_cellsM hbox0)).trans hbox0;have hrow5 : RowAt TB w5 g (Dbm.topL 4) := (rowAt_alloc hrow4 _).below g5 (by simp; omega);refine ⟨w4.heap.size, 0, #[.int .i64 0, .slice none 0 0], _, rfl, hbox5, by show 2 <= 2; omega, keep_grown h5 (grown_setRow _ _ _) (fun k hk => by injection hk with hk; subst hk; exact ⟨hw4.size, fun hm => by have := hlb _ hm; omega⟩), ?_⟩;generalize hX : World.setRow w5 w4.heap.size _ = w6;have hgr5 : w5.grownBy w6 (some w4.heap.size) := by rw [<- hX]; exact grown_setRow _ _ _
 have hbox6 : w6.heap[w4.heap.size]? = some (.cells #[.int .i64 4, .slice (some ⟨g, 0, none⟩) 16 ct] 81 (0, 0)) := by
  rw [<- hX]; exact setRow_heap w5 _ _ _ _ _ hbox5
 clear hX;have hrow6 : RowAt TB w6 g (Dbm.topL 4) := hrow5.kept (hgr5.block g hrow5.lt (fun e => by injection e with e; omega));have hw6 := grown_belowM (h5.below) hgr5 (fun k hk => by injection hk with hk; subst hk; exact hw4.size) h5.below.size;have hs6 := hgr5.size;have hs5 := h5.size;generalize w4.heap.size = B at *;have hB6 := lt_cellsM hbox6;refine CallI.mk fun w7 h7 => ?_;have g7 := at_belowM h7 (by simp);have hgB : g ≠ B := by omega
 refine (cput_any a h0a 0 1 2 (by omega) (by omega) (by omega) w3.heap.size B g ct hgB hgb (Dbm.topL 4) rfl w7 (by have := g7.size; omega) ((g7.block B (lt_cellsM hbox6)).trans hbox6) (hrow6.below g7 hrow6.lt)).mono ?_;rintro e w8 ⟨u, rfl, hB8, rfl, hbox8, hrow8⟩;have hw7 := h7.below;have hs7 := g7.size;have hs8 := hB8.size;refine ⟨⟨hB8.mono hww, fun b hb => hB8.block b (hlb b hb)⟩, _, rfl, ?_⟩;refine CallI.mk fun w9 h9 => ?_;have g9 := at_belowM h9 (by simp);refine (cput_any b h0b 0 2 3 (by omega) (by omega) (by omega) w3.heap.size B g ct hgB hgb _ (by rw [Cmp.put_len]; rfl) w9 (by have := g9.size; omega) ((g9.block B (lt_cellsM hbox8)).trans hbox8) (hrow8.below g9 hrow8.lt)).mono ?_;rintro e w10 ⟨u, rfl, hB10, rfl, hbox10, hrow10⟩;have hw9 := h9.below;have hs9 := g9.size;have hs10 := hB10.size;refine ⟨⟨hB10.mono hww, fun b hb => hB10.block b (hlb b hb)⟩, _, rfl, ?_⟩;change RowAt TB w10 g (Cmp.mat a b) at hrow10;have hml := Cmp.mat_len a b;have hw10 : Below w.heap.size w w10 := hw9.trans (hB10.mono hww);refine LoadA.mk ⟨[.int .i64 4, .slice (some ⟨g, 0, none⟩) 16 ct], ⟨rfl, by decide, by simp, cell_twoM hbox10⟩, ?_⟩;have hcap : 16 <= ct /\ ct <= maxLen := by
  obtain ⟨_, _, e, x1, x2, _⟩ := hOt.sl.form;injection e with _ _ e;subst e;exact ⟨x1, x2⟩
 have hdr := fun w h => drop_any 4 (some ⟨g, 0, none⟩) ct (Cmp.mat a b) 2 w h;rw [hml] at hdr;apply CallI.use
 focus (exact fun w11 h11 => hdr w11 (by
  have := (hrow10.below (at_belowM h11 (by simp)) hrow10.lt).sl (cap := ct) (by omega) hcap.2;rw [hml] at this; exact this))
 rintro v w11 v11 h11 hB11 ⟨a11, c11, rfl, hF11⟩;refine NewI.mk fun b9 hb9 => ?_;generalize Proj.drop 4 (Cmp.mat a b) 2 = X at *;obtain ⟨n, D, e⟩ := X;simp only at hF11 ⊢;refine Branch.mk (fun hc3 => ?_) (fun hc3 => ?_)
 ·have h9 : e ≠ 0 := by simpa using hc3
  rw [if_neg h9];exact EndI.mk fun w9 h9 => rfl
 ·have h9 : e = 0 := by simpa using hc3
  rw [if_pos h9];apply CallI.use1
  focus (exact fun w12 h12 => zof_any n a11 c11 D w12 ((hF11.sl).go (at_belowM h12 (by simp <;> omega)) h12.size))
  intro w12 v12 h12 hB12;exact EndI.mk fun w9 h9 => rfl
namespace Zs
def pairGo (f : Zn -> Zn -> Zn × Int) (b : List Zn) : List Zn -> List Zn -> List Zn × Int
 | out, [] => (out, 0)
 | out, x :: a => if (come (f x) out b).2 = 0 then pairGo f b (come (f x) out b).1 a else ([], (come (f x) out b).2)
theorem pairGo_cons (f : Zn -> Zn -> Zn × Int) (b out a : List Zn) (x : Zn) : pairGo f b out (x :: a) = if (come (f x) out b).2 = 0 then pairGo f b (come (f x) out b).1 a else ([], (come (f x) out b).2) := rfl
def paired (f : Zn -> Zn -> Zn × Int) (a b : List Zn) : List Zn × Int := if Cv.checked [a, b] = 0 then pairGo f b [] a else ([], Cv.checked [a, b])
def or (a b : List Zn) : List Zn × Int := if Cv.checked [a, b] = 0 then Cv.prune (a ++ b) else ([], Cv.checked [a, b])
def and (a b : List Zn) : List Zn × Int := paired Zo.meet a b
def comp (a b : List Zn) : List Zn × Int := paired Cmp.comp a b
theorem checked_len {l m : List Zn} (h0 : Cv.checked [l, m] = 0) : l.length <= 4096 /\ m.length <= 4096 := by
 unfold Cv.checked at h0;split at h0
 ·cases h0
 ·rename_i hn
  rw [List.any_eq_true] at hn;constructor
  ·apply Classical.byContradiction; intro hh; exact hn ⟨l, by simp, decide_eq_true (by omega)⟩
  ·apply Classical.byContradiction; intro hh; exact hn ⟨m, by simp, decide_eq_true (by omega)⟩
theorem come_len (f : Zn -> Zn × Int) : ∀ (l out : List Zn), (come f out l).2 = 0 -> (come f out l).1.length <= 4096
 | [], out, h => by
   have h := h;change (Cv.prune out).2 = 0 at h;have hw := Cv.prune_ok h;exact Nat.le_trans hw.mlen hw.len
 | x :: l, out, h => by
   rw [come_cons] at h ⊢;split at h
   ·rename_i h0; rw [if_pos h0]; exact come_len f l _ h
   ·rename_i h0
    rw [if_neg h0];split at h
    ·rename_i h1; rw [if_pos h1]; exact come_len f l _ h
    ·rename_i h1; rw [if_neg h1]; exact Nat.zero_le _
end Zs
theorem cell_nM {W : World} {B : Nat} {vs : List Value} {t : TypeId} (h : W.heap[B]? = some (.cells vs.toArray t (0, 0))) (j : Nat) (c : Value) (hj : vs[j]? = some c) : W.cell? ((⟨B, 0, none⟩ : Addr).add j) = some c := by
 rw [addr_addL];simp [World.cell?, h, hj]
theorem storeA_new {w0 : Base} {hp : List LB} {r L : List Nat} {w : World} {K : World -> Prop} {B : Nat} {vs : List Value} {cs : Array Value} {ty : TypeId} (hb : w0.B <= B) (hr : B ∉ r) (hl : vs.length = cs.size)
 (hbox : ∀ w1, At w0 hp r L w w1 -> w1.heap[B]? = some (.cells cs ty (0, 0)))
 (hk : ∀ X w1, At w0 hp r L w w1 -> w1.grownBy X (some B) -> X.heap[B]? = some (.cells vs.toArray ty (0, 0)) -> K X) : StoreA w0 (Keep w0) ⟨B, 0, none⟩ vs hp r L w K :=
 StoreA.mk fun w1 h1 => by
  have he : (cs.toList.take 0 ++ vs ++ cs.toList.drop (0 + vs.length)).toArray = vs.toArray := by
   rw [List.drop_of_length_le (by simp; omega)]; simp
  refine ⟨B, 0, cs, ty, rfl, hbox w1 h1, by omega, keep_grown h1 (grown_setRow _ _ _) (fun k hk => by injection hk with hk; subst hk; exact ⟨hb, hr⟩), ?_⟩;rw [he];exact hk _ w1 h1 (grown_setRow _ _ _) (setRow_heap w1 B _ _ _ _ (hbox w1 h1))
theorem pairer_any (f : Zn -> Zn -> Zn × Int) (fid : FuncId) (en : Enters Tryz.prog fid) (x y : Zn) (Bf Bx : Nat) (w : World)
 (hf : w.heap[Bf]? = some (.cells #[.func (.func fid) #[] #[]] 152 (0, 0)))
 (hx : w.heap[Bx]? = some (.cells #[.int .i64 x.a, .int .i64 x.b, .int .i64 x.c, .int .i64 x.d, .int .i64 x.e, .int .i64 x.f] 86 (0, 0)))
 (hcall : ∀ W, Calls Tryz.prog fid #[.agg #[.int .i64 x.a, .int .i64 x.b, .int .i64 x.c, .int .i64 x.d, .int .i64 x.e, .int .i64 x.f], .agg #[.int .i64 y.a, .int .i64 y.b, .int .i64 y.c, .int .i64 y.d, .int .i64 y.e, .int .i64 y.f]] W fun e W' => e = .returned (.tuple #[.agg #[.int .i64 (f x y).1.a, .int .i64 (f x y).1.b, .int .i64 (f x y).1.c, .int .i64 (f x y).1.d, .int .i64 (f x y).1.e, .int .i64 (f x y).1.f], .int .i64 (f x y).2]) /\ Below W.heap.size W W') :
 Calls Tryz.prog 155 #[.agg #[.int .i64 y.a, .int .i64 y.b, .int .i64 y.c, .int .i64 y.d, .int .i64 y.e, .int .i64 y.f], .pointer (some ⟨Bf, 0, none⟩), .pointer (some ⟨Bx, 0, none⟩)] w fun e w' => e = .returned (.tuple #[.agg #[.int .i64 (f x y).1.a, .int .i64 (f x y).1.b, .int .i64 (f x y).1.c, .int .i64 (f x y).1.d, .int .i64 (f x y).1.e, .int .i64 (f x y).1.f], .int .i64 (f x y).2]) /\ Below w.heap.size w w' := by
 refine fun_eq 0 w Tryz.func155 (args := [.agg [.val (.int .i64 y.a), .val (.int .i64 y.b), .val (.int .i64 y.c), .val (.int .i64 y.d), .val (.int .i64 y.e), .val (.int .i64 y.f)], .val (.pointer (some ⟨Bf, 0, none⟩)), .val (.pointer (some ⟨Bx, 0, none⟩))]) rfl rfl ?_;refine NewI.mk fun b1 hb1 => ?_;refine NewI.mk fun b2 hb2 => ?_;refine LoadI.mk ⟨_, ⟨cell_oneM hf, by simp⟩, ?_⟩;refine LoadA.mk ⟨[.int .i64 x.a, .int .i64 x.b, .int .i64 x.c, .int .i64 x.d, .int .i64 x.e, .int .i64 x.f], ⟨rfl, by decide, by simp, cell_nM hx⟩, ?_⟩;refine Need.mk en ?_;apply CallI.use1
 focus (exact fun w2 h2 => hcall w2)
 intro w2 v2 h2 hB2;exact EndI.mk fun w9 h9 => rfl
theorem paired_any (f : Zn -> Zn -> Zn × Int) (fid : FuncId) (en : Enters Tryz.prog fid) (hcall : ∀ x y W, Calls Tryz.prog fid #[.agg #[.int .i64 x.a, .int .i64 x.b, .int .i64 x.c, .int .i64 x.d, .int .i64 x.e, .int .i64 x.f], .agg #[.int .i64 y.a, .int .i64 y.b, .int .i64 y.c, .int .i64 y.d, .int .i64 y.e, .int .i64 y.f]] W fun e W' => e = .returned (.tuple #[.agg #[.int .i64 (f x y).1.a, .int .i64 (f x y).1.b, .int .i64 (f x y).1.c, .int .i64 (f x y).1.d, .int .i64 (f x y).1.e, .int .i64 (f x y).1.f], .int .i64 (f x y).2]) /\ Below W.heap.size W W')
 (l m : List Zn) (a b : Option Addr) (ca cb : Nat) (w : World) (hS : Sl w.heap.size w (.slice a l.length ca) l) (hT : Sl w.heap.size w (.slice b m.length cb) m) :
 Calls Tryz.prog 106 #[.slice a l.length ca, .slice b m.length cb, .func (.func fid) #[] #[]] w (Ret w fun v w' => ∃ a' c', v = .tuple #[.slice a' (Zs.paired f l m).1.length c', .int .i64 (Zs.paired f l m).2] /\ Own TZ w.heap.size w' (.slice a' (Zs.paired f l m).1.length c') (Zs.paired f l m).1) := by
 refine fun_ret 0 w Tryz.func106 (args := [.val (.slice a l.length ca), .val (.slice b m.length cb), .val (.func (.func fid) #[] #[])]) rfl rfl ?_;refine NewI.frn fun w1 h1 => ?_;have hbox : (w1.alloc (.cells #[.func (.func fid) #[] #[]] 152)).heap[w1.heap.size]? = some (.cells #[.func (.func fid) #[] #[]] 152 (0, 0)) := World.alloc_heap_new w1 _;have hw1 : Below w.heap.size w (w1.alloc (.cells #[.func (.func fid) #[] #[]] 152)) := h1.below.alloc h1.below.size _;have hBl : w1.heap.size < (w1.alloc (.cells #[.func (.func fid) #[] #[]] 152)).heap.size := lt_cellsM hbox;have hwB : w.heap.size <= w1.heap.size := h1.below.size;generalize w1.alloc (.cells #[.func (.func fid) #[] #[]] 152) = w2 at *;generalize w1.heap.size = Bf at *;refine NewI.mk fun b2 hb2 => ?_;have hb2' : w2.heap.size <= b2 := hb2;apply CallI.use1
 ·exact fun w3 h3 => zschecked_any [⟨a, l.length, ca⟩, ⟨b, m.length, cb⟩] [l, m] (by simp) _ _ w3 (shown_two (hS.go h3.below h3.below.size) rfl (hT.go h3.below h3.below.size) rfl) (Sl.own (l := [(⟨a, l.length, ca⟩ : Svl), ⟨b, m.length, cb⟩]) h3 0 rfl rfl rfl (Nat.le_refl _) (by simp [maxLen]))
 intro w3 v3 h3 hB3;have g3 := at_belowM h3 (by simp);have hbox3 : v3.heap[Bf]? = some (.cells #[.func (.func fid) #[] #[]] 152 (0, 0)) := (hB3.block Bf (Nat.lt_of_lt_of_le hBl g3.size)).trans ((g3.block Bf hBl).trans hbox);have hb2v : b2 < v3.heap.size := Nat.lt_of_lt_of_le (h3.lt b2 (by simp)) hB3.size;unfold Zs.paired;refine Branch.mk (fun hc => ?_) (fun hc => ?_)
 ·have h0 : Cv.checked [l, m] ≠ 0 := by simpa using hc
  rw [if_neg h0];exact EndI.mk fun w9 h9 => ⟨_, _, rfl, Own.nil⟩
 have h0 : Cv.checked [l, m] = 0 := by simpa using hc
 rw [if_pos h0];obtain ⟨hl4, hm4⟩ := Zs.checked_len h0;have hv3 : Below w.heap.size w v3 := h3.below.trans (hB3.mono h3.below.size);generalize hB2 : v3.heap.size = B2 at *;have hBf2 : Bf < B2 := by rw [<- hB2]; exact lt_cellsM hbox3
 have hb2B : b2 < B2 := by omega
 refine LoopI.invC (α := Nat × World × Value × List Zn) (fun y => [(19, .val (.int .i64 y.1)), (6, .val y.2.2.1)]) (fun y => y.2.1)
  (fun y => y.1 <= l.length /\ Below w.heap.size w y.2.1 /\ B2 <= y.2.1.heap.size /\ y.2.1.heap[Bf]? = some (.cells #[.func (.func fid) #[] #[]] 152 (0, 0)) /\ Own TZ B2 y.2.1 y.2.2.1 y.2.2.2 /\ y.2.2.2.length <= 4096 /\ Zs.pairGo f m [] l = Zs.pairGo f m y.2.2.2 (l.drop y.1)) (fun y => l.length - y.1) ?_ ?_
 ·intro w4 h4
  have g4 := at_belowM h4 (by simp);exact ⟨(0, w4, .slice none 0 0, []), Cov.au rfl rfl rfl rfl rfl, rfl, Nat.zero_le _, h4.below, by rw [<- hB2]; exact g4.size, (g4.block Bf (lt_cellsM hbox3)).trans hbox3, Own.nil, by simp, rfl⟩
 rintro ⟨k, U, tv, ou⟩ ⟨hk, hU, hUB, hbU, hOU, hlen, heq⟩;simp only at hk hU hUB hbU hOU hlen heq;refine Branch.mk (fun hc => ?_) (fun hc => ?_)
 ·have hlt : k < l.length := by simpa using hc
  have hg := List.getElem?_eq_getElem (l := l) (i := k) hlt;have hdr : l.drop k = l[k]'hlt :: l.drop (k + 1) := List.drop_eq_getElem_cons hlt;generalize l[k]'hlt = x at hg hdr;rw [hdr, Zs.pairGo_cons] at heq;have hSU := hS.go hU hU.size;refine hSU.idx hg fun ad had => ?_;refine hSU.ld hg had (Below.refl _ _) (by simp) ?_;refine NewI.frn fun w4 h4 => ?_;have g4 : Below U.heap.size U w4 := at_belowM h4 (by simp);have hw4 := h4.below;have hbox4 : (w4.alloc (.cells #[.int .i64 0, .int .i64 0, .int .i64 0, .int .i64 0, .int .i64 0, .int .i64 0] 86)).heap[w4.heap.size]? = some (.cells #[.int .i64 0, .int .i64 0, .int .i64 0, .int .i64 0, .int .i64 0, .int .i64 0] 86 (0, 0)) := World.alloc_heap_new w4 _;have hrow : ∀ g, tv.ownBlock = some g -> B2 <= g /\ g < U.heap.size := fun g hg => hOU.lt g hg;have hs4 := g4.size;refine Need.mk rfl ?_;refine storeA_new (B := w4.heap.size) (cs := #[.int .i64 0, .int .i64 0, .int .i64 0, .int .i64 0, .int .i64 0, .int .i64 0]) (ty := 86) hw4.size (fun hm => by have := List.mem_singleton.1 hm; omega) rfl (fun w5 h5 => by have g := at_belowM h5 (by simp); exact (g.block _ (lt_cellsM hbox4)).trans hbox4) fun w6 w5 h5 hg5 hbx6 => ?_;have g5 := at_belowM h5 (by simp);have hs5 := g5.size;have hBx4 := lt_cellsM hbox4;have hal : Below w4.heap.size w4 (w4.alloc (.cells #[.int .i64 0, .int .i64 0, .int .i64 0, .int .i64 0, .int .i64 0, .int .i64 0] 86)) := (Below.refl _ _).alloc (Nat.le_refl _) _;have g45 : Below w4.heap.size w4 w5 := hal.trans (g5.mono hal.size);have g46 := grown_belowM g45 hg5 (fun k hk => by injection hk with hk; subst hk; exact Nat.le_refl _) g45.size;have gU6 : Below U.heap.size U w6 := g4.trans (g46.mono hs4);have hw6 := hU.trans (gU6.mono hU.size);have hO6 := hOU.below gU6;have hbf6 := (gU6.block Bf (lt_cellsM hbU)).trans hbU;have hs6 := g46.size;generalize w4.heap.size = Bx at *;clear g46 g45 hal hbox4 hBx4 hg5 g5 hs5 h5;obtain ⟨ao, co, rfl⟩ := hOU.form;refine CallI.mk fun w7 h7 => ?_;have g7 := at_belowM h7 (by simp);have hO7 := hO6.below g7;have hbf7 := (g7.block Bf (lt_cellsM hbf6)).trans hbf6;have hbx7 := (g7.block Bx (lt_cellsM hbx6)).trans hbx6;have hw7 := h7.below;have hs7 := g7.size;refine (come_any (f x) 155 #[.pointer (some ⟨Bf, 0, none⟩), .pointer (some ⟨Bx, 0, none⟩)] Tryz.call155 ou m (.slice ao ou.length co) b cb w.heap.size hlen hm4 w7 hw7.size (hO7.lower (by omega)) (hT.below hw7) (fun y W hy hK => ?_)).mono ?_
  ·refine pairer_any f fid en x y Bf Bx W ((hK.2 Bf (lt_cellsM hbf7) (fun e => by have := hrow Bf e.symm; omega)).trans hbf7) ((hK.2 Bx (lt_cellsM hbx7) (fun e => by have := hrow Bx e.symm; omega)).trans hbx7) (fun W => hcall x y W)
  rintro e w8 ⟨v, rfl, hB8, hK8, a8, c8, rfl, hO8⟩;have hK8s := hK8.1;refine ⟨⟨hB8, fun b hb => hK8.2 b (h7.lt b hb) (fun e => by simp at hb; subst hb; have := hrow b e.symm; omega)⟩, _, rfl, ?_⟩;have hbf8 := (hK8.2 Bf (lt_cellsM hbf7) (fun e => by have := hrow Bf e.symm; omega)).trans hbf7;have hcl := Zs.come_len (f x) m ou;generalize Zs.come (f x) ou m = R at *;obtain ⟨ro, re⟩ := R;simp only at heq hcl hO8;refine Branch.mk (fun hc2 => ?_) (fun hc2 => ?_)
  ·have h9 : re ≠ 0 := by simpa using hc2
   rw [if_neg h9] at heq;rw [heq];exact EndI.mk fun w9 h9 => ⟨_, _, rfl, Own.nil⟩
  ·have h9 : re = 0 := by simpa using hc2
   rw [if_pos h9] at heq;have hw8 : Below w.heap.size w w8 := hw7.trans hB8;refine Need.ok (EndI.mk fun w9 h10 => ?_);have g9 := at_belowM h10 (by simp);exact ⟨(k + 1, w9, .slice a8 ro.length c8, ro), Cov.au rfl rfl rfl rfl rfl, rfl, ⟨hlt, h10.below, by have := g9.size; simp only; omega, (g9.block Bf (lt_cellsM hbf8)).trans hbf8, (hO8.lower (by omega)).below g9, hcl h9, heq⟩, by simp only; omega⟩
 ·have hge : k = l.length := by (have : ¬ k < l.length := by simpa using hc); omega
  subst hge;rw [List.drop_length] at heq;change Zs.pairGo f m [] l = (ou, 0) at heq;rw [heq];obtain ⟨at_, ct, rfl⟩ := hOU.form;exact EndI.mk fun w9 h9 => ⟨_, _, rfl, (hOU.below (at_belowM h9 (by simp))).lower (by have := hv3.size; omega)⟩
theorem zsand_any (l m : List Zn) (a b : Option Addr) (ca cb : Nat) (w : World) (hS : Sl w.heap.size w (.slice a l.length ca) l) (hT : Sl w.heap.size w (.slice b m.length cb) m) :
 Calls Tryz.prog 65 #[.slice a l.length ca, .slice b m.length cb] w (Ret w fun v w' => ∃ a' c', v = .tuple #[.slice a' (Zs.and l m).1.length c', .int .i64 (Zs.and l m).2] /\ Own TZ w.heap.size w' (.slice a' (Zs.and l m).1.length c') (Zs.and l m).1) := by
 refine fun_ret 0 w Tryz.func65 (args := [.val (.slice a l.length ca), .val (.slice b m.length cb)]) rfl rfl ?_;apply CallI.use
 focus (exact fun w2 h2 => paired_any Zo.meet 107 Tryz.call107 (fun x y W => zmeet_any x y W) l m a b ca cb w2 (hS.go h2.below h2.below.size) (hT.go h2.below h2.below.size))
 rintro v w2 v2 h2 hB2 ⟨a2, c2, rfl, hO2⟩;exact EndI.mk fun w9 h9 => ⟨a2, c2, rfl, (hO2.lower h2.below.size).below (at_belowM h9 (by simp))⟩
theorem zscomp_any (l m : List Zn) (a b : Option Addr) (ca cb : Nat) (w : World) (hS : Sl w.heap.size w (.slice a l.length ca) l) (hT : Sl w.heap.size w (.slice b m.length cb) m) :
 Calls Tryz.prog 67 #[.slice a l.length ca, .slice b m.length cb] w (Ret w fun v w' => ∃ a' c', v = .tuple #[.slice a' (Zs.comp l m).1.length c', .int .i64 (Zs.comp l m).2] /\ Own TZ w.heap.size w' (.slice a' (Zs.comp l m).1.length c') (Zs.comp l m).1) := by
 refine fun_ret 0 w Tryz.func67 (args := [.val (.slice a l.length ca), .val (.slice b m.length cb)]) rfl rfl ?_;apply CallI.use
 focus (exact fun w2 h2 => paired_any Cmp.comp 108 Tryz.call108 (fun x y W => ccomp_any x y W) l m a b ca cb w2 (hS.go h2.below h2.below.size) (hT.go h2.below h2.below.size))
 rintro v w2 v2 h2 hB2 ⟨a2, c2, rfl, hO2⟩;exact EndI.mk fun w9 h9 => ⟨a2, c2, rfl, (hO2.lower h2.below.size).below (at_belowM h9 (by simp))⟩
theorem zsor_any (l m : List Zn) (a b : Option Addr) (ca cb : Nat) (w : World) (hS : Sl w.heap.size w (.slice a l.length ca) l) (hT : Sl w.heap.size w (.slice b m.length cb) m) :
 Calls Tryz.prog 43 #[.slice a l.length ca, .slice b m.length cb] w (Ret w fun v w' => ∃ a' c', v = .tuple #[.slice a' (Zs.or l m).1.length c', .int .i64 (Zs.or l m).2] /\ Own TZ w.heap.size w' (.slice a' (Zs.or l m).1.length c') (Zs.or l m).1) := by
 refine fun_ret 0 w Tryz.func43 (args := [.val (.slice a l.length ca), .val (.slice b m.length cb)]) rfl rfl ?_;refine NewI.mk fun b1 hb1 => ?_;apply CallI.use1
 ·exact fun w3 h3 => zschecked_any [⟨a, l.length, ca⟩, ⟨b, m.length, cb⟩] [l, m] (by simp) _ _ w3 (shown_two (hS.go h3.below h3.below.size) rfl (hT.go h3.below h3.below.size) rfl) (Sl.own (l := [(⟨a, l.length, ca⟩ : Svl), ⟨b, m.length, cb⟩]) h3 0 rfl rfl rfl (Nat.le_refl _) (by simp [maxLen]))
 intro w3 v3 h3 hB3;unfold Zs.or;refine Branch.mk (fun hc => ?_) (fun hc => ?_)
 ·have h0 : Cv.checked [l, m] ≠ 0 := by simpa using hc
  rw [if_neg h0];exact EndI.mk fun w9 h9 => ⟨_, _, rfl, Own.nil⟩
 have h0 : Cv.checked [l, m] = 0 := by simpa using hc
 rw [if_pos h0];obtain ⟨hl4, hm4⟩ := Zs.checked_len h0;refine NewI.mk fun b2 hb2 => ?_;have hfl : ([l, m] : List (List Zn)).flatten = l ++ m := by simp
 have hcc := fun (w : World) (a' : Option Addr) (c' : Nat) h1 h2 => concat_any [⟨a, l.length, ca⟩, ⟨b, m.length, cb⟩] [l, m] (by rw [hfl, List.length_append]; omega) a' c' w h1 h2;rw [hfl] at hcc;apply CallI.use
 ·exact fun w4 h4 => hcc w4 _ _ (shown_two (hS.go h4.below h4.below.size) rfl (hT.go h4.below h4.below.size) rfl) (Sl.own (l := [(⟨a, l.length, ca⟩ : Svl), ⟨b, m.length, cb⟩]) h4 1 rfl rfl rfl (Nat.le_refl _) (by simp [maxLen]))
 rintro v w4 v4 h4 hB4 ⟨a4, c4, rfl, hO4⟩;apply CallI.use
 focus (exact fun w5 h5 => zsof_any (l ++ m) a4 c4 w5 (hO4.below (at_belowM h5 (by simp <;> omega))).sl)
 rintro v w5 v5 h5 hB5 ⟨a5, c5, rfl, hO5⟩;exact EndI.mk fun w9 h9 => ⟨a5, c5, rfl, (hO5.lower h5.below.size).below (at_belowM h9 (by simp <;> omega))⟩
namespace Wn
def less (z : Zn) (i : Nat) (x : Int) : Zn := Zo.set z i (min (Zo.get z i) x)
def with2 (z : Zn) (i : Nat) (x : Int) (j : Nat) (y : Int) : Zn × Int :=
 if (Zo.mat (less (less z i x) j y)).2.2 = 0 then Zo.of (Zo.mat (less (less z i x) j y)).1 (Zo.mat (less (less z i x) j y)).2.1 else (Zo.nought, (Zo.mat (less (less z i x) j y)).2.2)
end Wn
theorem wwith45_any (z : Zn) (x y : Int) (la : Option Addr) (lc : Nat) (w : World) (hS : Sl w.heap.size w (.slice la 2 lc) [(⟨4, x⟩ : Rt), ⟨5, y⟩]) :
 Calls Tryz.prog 161 #[.agg #[.int .i64 z.a, .int .i64 z.b, .int .i64 z.c, .int .i64 z.d, .int .i64 z.e, .int .i64 z.f], .slice la 2 lc] w fun e w' => e = .returned (.tuple #[.agg #[.int .i64 (Wn.with2 z 4 x 5 y).1.a, .int .i64 (Wn.with2 z 4 x 5 y).1.b, .int .i64 (Wn.with2 z 4 x 5 y).1.c, .int .i64 (Wn.with2 z 4 x 5 y).1.d, .int .i64 (Wn.with2 z 4 x 5 y).1.e, .int .i64 (Wn.with2 z 4 x 5 y).1.f], .int .i64 (Wn.with2 z 4 x 5 y).2]) /\ Below w.heap.size w w' := by
 refine fun_eq 0 w Tryz.func161 (args := [.agg [.val (.int .i64 z.a), .val (.int .i64 z.b), .val (.int .i64 z.c), .val (.int .i64 z.d), .val (.int .i64 z.e), .val (.int .i64 z.f)], .val (.slice la 2 lc)]) rfl rfl ?_;obtain ⟨a, b, c, d, e, f⟩ := z;refine NewI.mk fun b1 hb1 => ?_;refine NewI.mk fun b2 hb2 => ?_;refine LoopI.rounds 3 ?_;refine Branch.yes rfl ?_;refine hS.idx (k := 0) rfl fun ad had => ?_;refine hS.ld (k := 0) rfl had (Below.refl _ _) (by simp <;> omega) ?_;refine NewI.mk fun b3 hb3 => ?_;refine DrawI.wr (.tk 0 (.tk 1 (.tk 2 (.tk 3 (.tk 4 (.tk 6 (.tk 7 (.ev 5 (.tk 8 (.tk 9 (.ev 10 .done))))))))))) [0] [] (by kernel_rfl) rfl (by simp) fun w3 h3 => ?_;refine Need.mk (by simp only; omega) ?_;refine Need.mk (by simp only; omega) ?_;refine Need.ok ?_;refine Branch.yes rfl ?_;refine hS.idx (k := 1) rfl fun ad2 had2 => ?_;have hb1' : w.heap.size <= b1 := hb1;have hb3' : w.heap.size <= b3 := hb3;refine hS.ld (k := 1) rfl had2 h3.below (fun b hb => by simp at hb; omega) ?_;refine NewI.mk fun b4 hb4 => ?_;refine DrawI.wr (.tk 0 (.tk 1 (.tk 2 (.tk 3 (.tk 4 (.tk 6 (.tk 7 (.ev 5 (.tk 8 (.tk 9 (.ev 10 .done))))))))))) [0] [] (by kernel_rfl) rfl (by simp) fun w4 h4 => ?_;refine Need.mk (by simp only; omega) ?_;refine Need.mk (by simp only; omega) ?_;refine Need.ok ?_;refine Branch.no rfl ?_
 conv => whnf
 simp only;rw [show ∀ p q : Int, minL p [q] = min p q from fun p q => by simp [minL]; omega, show ∀ p q : Int, minL p [q] = min p q from fun p q => by simp [minL]; omega];apply CallI.use
 focus (exact fun w5 h5 => zMatrixF_any (⟨a, b, c, d, min e x, min f y⟩ : Zn) w5)
 rintro v w5 v5 h5 hB5 ⟨a5, q5, rfl, hF5⟩;refine NewI.mk fun b5 hb5 => ?_;have hwl : Wn.less (Wn.less ⟨a, b, c, d, e, f⟩ 4 x) 5 y = (⟨a, b, c, d, min e x, min f y⟩ : Zn) := rfl;unfold Wn.with2;rw [hwl];generalize Zo.mat (⟨a, b, c, d, min e x, min f y⟩ : Zn) = X at *;obtain ⟨n, D, er⟩ := X;simp only at hF5 ⊢;refine Branch.mk (fun hc3 => ?_) (fun hc3 => ?_)
 ·have h9 : er ≠ 0 := by simpa using hc3
  rw [if_neg h9];exact EndI.mk fun w9 h9 => rfl
 ·have h9 : er = 0 := by simpa using hc3
  rw [if_pos h9];apply CallI.use1
  focus (exact fun w12 h12 => zof_any n a5 q5 D w12 ((hF5.sl).go (at_belowM h12 (by simp <;> omega)) h12.size))
  intro w12 v12 h12 hB12;exact EndI.mk fun w9 h9 => rfl
namespace Wn
def fits (n : Int) : Bool := decide (-288230376151711744 <= n) && decide (n <= 288230376151711744)
def within (z : Zn) (s : Sp) : Zn × Int :=
 if Zo.chk z = 0 then (if (Zo.btw s).2.2 = 0 then with2 z 4 ((Zo.btw s).2.1[2]?.getD 0) 5 ((Zo.btw s).2.1[1]?.getD 0) else (Zo.nought, (Zo.btw s).2.2)) else (Zo.nought, Zo.chk z)
end Wn
theorem wwithin_any (z : Zn) (s : Sp) (hs : s.ins) (w : World) :
 Calls Tryz.prog 111 #[.agg #[.int .i64 z.a, .int .i64 z.b, .int .i64 z.c, .int .i64 z.d, .int .i64 z.e, .int .i64 z.f], .agg #[.int .i64 s.lo, .bool s.ls, .int .i64 s.hi, .bool s.hs, .bool s.op]] w fun e w' => e = .returned (.tuple #[.agg #[.int .i64 (Wn.within z s).1.a, .int .i64 (Wn.within z s).1.b, .int .i64 (Wn.within z s).1.c, .int .i64 (Wn.within z s).1.d, .int .i64 (Wn.within z s).1.e, .int .i64 (Wn.within z s).1.f], .int .i64 (Wn.within z s).2]) /\ Below w.heap.size w w' := by
 refine fun_eq 0 w Tryz.func111 (args := [.agg [.val (.int .i64 z.a), .val (.int .i64 z.b), .val (.int .i64 z.c), .val (.int .i64 z.d), .val (.int .i64 z.e), .val (.int .i64 z.f)], .agg [.val (.int .i64 s.lo), .val (.bool s.ls), .val (.int .i64 s.hi), .val (.bool s.hs), .val (.bool s.op)]]) rfl rfl ?_;have st := Stay.first (w := w)
 refine NewI.mk fun b1 hb1 => ?_;refine NewI.mk fun b2 hb2 => ?_;refine NewI.mk fun b3 hb3 => ?_;unfold Wn.within;apply CallI.use1
 focus (exact fun w1 h1 => zcheck_any z w1)
 intro w1 v1 h1 hB1;have st := st.nx h1 hB1;refine Branch.mk (fun hc => ?_) (fun hc => ?_)
 ·have h0 : ¬ Zo.chk z = 0 := by simpa using hc
  rw [if_neg h0];exact EndI.mk fun w9 h9 => rfl
 have h0 : Zo.chk z = 0 := by simpa using hc
 rw [if_pos h0];have htop2 := fun w => top_any 2 w;rw [Zo.top2] at htop2;apply CallI.use
 focus (exact fun w2 h2 => htop2 w2)
 rintro v w2 v2 h2 hB2 ⟨a2, q2, rfl, hO2⟩;have st := st.nx h2 hB2;refine NewI.mk fun b4 hb4 => ?_;apply CallI.use
 focus (exact fun w3 h3 => btw_any s hs a2 q2 w3 ((hO2.st (st.at h3)).sl))
 rintro v w3 v3 h3 hB3 ⟨a3, q3, rfl, hF3⟩;have st := st.nx h3 hB3;have hcases := Zo.btw_cases s;generalize Zo.btw s = X at *;obtain ⟨n, D, er⟩ := X;simp only at hF3 hcases ⊢;refine NewI.mk fun b5 hb5 => ?_;refine Branch.mk (fun hc3 => ?_) (fun hc3 => ?_)
 ·have h9 : er ≠ 0 := by simpa using hc3
  rw [if_neg h9];exact EndI.mk fun w9 h9 => rfl
 have h9 : er = 0 := by simpa using hc3
 rw [if_pos h9];have hD4 : D.length = 4 := by omega
 obtain ⟨g3, rfl, hq1, hq2, hg3, hR3⟩ := hF3.row4 hD4;have adk : ∀ j : Nat, (⟨g3, 0, none⟩ : Addr).add ((j : Int).toNat * 1) = ⟨g3, j, none⟩ := fun j => by simp [addr_addL]
 have hg3l := hR3.lt;have hb3w : b3 < w3.heap.size := h3.lt b3 (by simp);have hb5' : v3.heap.size <= b5 := hb5;refine DrawI.wr (.tk 0 (.tk 1 (.tk 2 (.tk 3 (.tk 4 (.tk 5 (.tk 6 (.tk 7 (.tk 8 (.tk 9 (.tk 10 (.ev 11 (.ev 12 (.tk 13 (.tk 14 (.ev 15 (.tk 16 .done))))))))))))))))) [2] [] (by kernel_rfl) rfl (by simp) fun w6 h6 => ?_;have hR6 := hR3.at h6 (by simp <;> omega);refine IdxI.mk ⟨_, ⟨rfl, by omega, by omega⟩, ?_⟩;refine LoadI.mk ⟨_, ⟨hR6.cell (j := 2) (by omega), by simp [locs, Addr.add]; omega⟩, ?_⟩;refine IdxI.mk ⟨_, ⟨rfl, by omega, by omega⟩, ?_⟩;refine LoadI.mk ⟨_, ⟨hR6.cell (j := 1) (by omega), by simp [locs, Addr.add]; omega⟩, ?_⟩;refine NewI.mk fun b7 hb7 => ?_;apply CallI.use1
 focus (exact fun w8 h8 => wwith45_any z (D[2]?.getD 0) (D[1]?.getD 0) _ _ w8 (Sl.own (l := [(⟨4, D[2]?.getD 0⟩ : Rt), ⟨5, D[1]?.getD 0⟩]) h8 5 rfl rfl rfl (Nat.le_refl _) (by simp [maxLen])))
 intro w8 v8 h8 hB8;exact EndI.mk fun w9 h9 => rfl
namespace Cv
open Mi Zo
def misses (b : List Zn) (z : Zn) : Bool := decide ((in_ z b).2 ≠ 0) || !(in_ z b).1
def allGo (b : List Zn) : List Zn -> Bool × Int
 | [] => (true, 0)
 | z :: a => if misses b z = true then (false, (in_ z b).2) else allGo b a
def all_ (a b : List Zn) : Bool × Int := if checked [a, b] ≠ 0 then (false, checked [a, b]) else allGo b a
def told (b l : List Zn) : Nat -> Int
 | 0 => 0
 | k + 1 => match l[k]? with | some z => (in_ z b).2 | none => 0
theorem allGo_eq (b : List Zn) : ∀ l, allGo b l = (!(l.any (misses b)), told b l (cntF (misses b) l))
 | [] => rfl
 | z :: a => by
   rw [allGo, List.any_cons, cntF]
   by_cases hm : misses b z = true
   ·rw [if_pos hm, if_pos hm, hm]; rfl
   ·rw [if_neg hm, if_neg hm, allGo_eq b a]
    have hm' : misses b z = false := by simpa using hm
    rw [hm', Bool.false_or]
    congr 1
    have he : (in_ z b).2 = 0 := by unfold misses at hm'; simp at hm'; exact hm'.1
    cases hc : cntF (misses b) a with
    | zero => simp [told, he]
    | succ k => simp [told]
theorem allGo_ok {b : List Zn} : ∀ {a : List Zn}, (allGo b a).2 = 0 -> ((allGo b a).1 = true ↔ ∀ z, z ∈ a -> Cov z b)
 | [], _ => by simp [allGo]
 | z :: a, h => by
   rw [allGo] at h ⊢
   by_cases hm : misses b z = true
   ·rw [if_pos hm] at h ⊢
    simp only at h;obtain ⟨_, _, hc⟩ := in_ok h;constructor
    ·intro h1; cases h1
    ·intro hall
     have h1 := hc.2 (hall z (by simp));unfold misses at hm;rw [h1, h] at hm;simp at hm
   ·rw [if_neg hm] at h ⊢
    have he : (in_ z b).2 = 0 /\ (in_ z b).1 = true := by
     unfold misses at hm
     simpa using hm
    obtain ⟨_, _, hc⟩ := in_ok he.1;rw [allGo_ok h];constructor
    ·intro hall x hx
     rcases List.mem_cons.1 hx with rfl | hx
     ·exact hc.1 he.2
     ·exact hall x hx
    ·exact fun hall x hx => hall x (by simp [hx])
theorem all_ok {a b : List Zn} (h : (all_ a b).2 = 0) : (all_ a b).1 = true ↔ ∀ z, z ∈ a -> Cov z b := by
 unfold all_ at h ⊢
 by_cases h1 : checked [a, b] ≠ 0
 ·rw [if_pos h1] at h; exact absurd h h1
 ·rw [if_neg h1] at h ⊢; exact allGo_ok h
structure PrunesLaw (l : List Zn) (p : Pt) : Prop where
 among : (Cv.among l p).2 = true -> (Cv.among (prune l).1 p).2 = true -> (Cv.among l p).1 = (Cv.among (prune l).1 p).1
 order : ∀ i x y, (prune l).1[i]? = some x -> (prune l).1[i + 1]? = some y -> Zo.cmp x y < 0
 bare : ∀ i z, (prune l).1[i]? = some z -> (in_ z ((prune l).1.take i ++ (prune l).1.drop (i + 1))).2 = 0 -> (in_ z ((prune l).1.take i ++ (prune l).1.drop (i + 1))).1 = false
 all : (all_ l (prune l).1).2 = 0 -> (all_ l (prune l).1).1 = true
 again : (prune (prune l).1).2 = 0 -> (prune (prune l).1).1 = (prune l).1
end Cv
structure Cv.AllAt (Bb Be : Nat) (sv : Value) (b : List Zn) (e : Int) (W : World) : Prop where
 hb : W.heap[Bb]? = some (.cells #[sv] 22 (0, 0))
 he : W.heap[Be]? = some (.cells #[.int .i64 e] 28 (0, 0))
 sl : Sl W.heap.size W sv b
theorem cell_one {W : World} {B : Nat} {v : Value} {t : TypeId} (h : W.heap[B]? = some (.cells #[v] t (0, 0))) : W.cell? ⟨B, 0, none⟩ = some v := by simp [World.cell?, h]
theorem lt_of_cells {W : World} {B : Nat} {o : Obj} (h : W.heap[B]? = some o) : B < W.heap.size := (Array.getElem?_eq_some_iff.1 h).1
theorem setCell_one {W : World} {B : Nat} {v u : Value} {t : TypeId} (h : W.heap[B]? = some (.cells #[v] t (0, 0))) : (W.setCell ⟨B, 0, none⟩ u).heap[B]? = some (.cells #[u] t (0, 0)) := by
 simp [World.setCell, Array.getElem?_modify, h, Go.Sort.onCells]
theorem setCell_ne {W : World} {B k : Nat} {u : Value} (h : k ≠ B) : (W.setCell ⟨B, 0, none⟩ u).heap[k]? = W.heap[k]? := Below.heap_setCell _ _ _ _ (by simpa using h)
theorem below_setCell' {n : Nat} {W X : World} {B : Nat} {u : Value} (h : Below n W X) (hB : n <= B) : Below n W (X.setCell ⟨B, 0, none⟩ u) :=
 ⟨h.os, h.tape, h.output, by simpa [World.setCell] using h.size, fun k hk => (setCell_ne (by omega)).trans (h.block k hk)⟩
section
variable {Bb Be : Nat} {sv : Value} {b : List Zn} {e : Int} {W X : World}
theorem Cv.AllAt.go (h : Cv.AllAt Bb Be sv b e W) (hB : Below W.heap.size W X) : Cv.AllAt Bb Be sv b e X :=
 ⟨(hB.block _ (lt_of_cells h.hb)).trans h.hb, (hB.block _ (lt_of_cells h.he)).trans h.he, h.sl.go hB hB.size⟩
end
theorem misses_any (z : Zn) (b : List Zn) (a : Option Addr) (cap : Nat) (e : Int) (Bb Be B : Nat) (hne : Bb ≠ Be) (w : World) (hB : B <= w.heap.size) (hBe : B <= Be) (h : Cv.AllAt Bb Be (.slice a b.length cap) b e w) (hsl : Sl B w (.slice a b.length cap) b) :
 Calls Tryz.prog 178 #[.agg #[.int .i64 z.a, .int .i64 z.b, .int .i64 z.c, .int .i64 z.d, .int .i64 z.e, .int .i64 z.f], .pointer (some ⟨Bb, 0, none⟩), .pointer (some ⟨Be, 0, none⟩)] w fun x w' => ∃ v, x = .returned v /\ Below B w w' /\ v = .bool (Cv.misses b z) /\ Cv.AllAt Bb Be (.slice a b.length cap) b (Cv.in_ z b).2 w' := by
 refine fun_at 0 B w hB Tryz.func178 (args := [.agg [.val (.int .i64 z.a), .val (.int .i64 z.b), .val (.int .i64 z.c), .val (.int .i64 z.d), .val (.int .i64 z.e), .val (.int .i64 z.f)], .val (.pointer (some ⟨Bb, 0, none⟩)), .val (.pointer (some ⟨Be, 0, none⟩))]) rfl rfl ?_;refine NewI.mk fun b1 hb1 => ?_;refine ⟨⟨_, ⟨cell_one h.hb, by simp⟩, ?_⟩⟩;apply CallI.use1
 focus (exact fun w1 h1 => cin_any z b a cap w1 (h.go (at_below h1 (by simp))).sl)
 intro w1 v1 h1 hB1;have g1 := (h.go (at_below h1 (by simp))).go hB1;have b1' : Below B w v1 := h1.below.trans (hB1.mono (Nat.le_trans hB h1.below.size));have hlt := h1.lt b1 (by simp);have hbe : Be < w.heap.size := lt_of_cells h.he;refine ⟨fun w2 h2 => ?_⟩;have g2 := g1.go (at_below h2 (by simp));have b2 : Below B w w2 := b1'.trans ((at_below h2 (by simp)).mono (Nat.le_trans hB (Nat.le_trans h1.size hB1.size)));refine ⟨⟨⟨_, cell_one g2.he⟩, by simp [World.frozen?, g2.he]⟩, ⟨below_setCell' (Below.refl _ _) hBe, fun k hk => setCell_ne (by have hb1' : w.heap.size <= b1 := hb1; simp at hk; omega)⟩, ?_⟩;have b3 : Below B w (w2.setCell ⟨Be, 0, none⟩ (.int .i64 (Cv.in_ z b).2)) := below_setCell' b2 hBe;have g3 : Cv.AllAt Bb Be (.slice a b.length cap) b (Cv.in_ z b).2 (w2.setCell ⟨Be, 0, none⟩ (.int .i64 (Cv.in_ z b).2)) := ⟨(setCell_ne hne).trans g2.hb, setCell_one g2.he, hsl.go b3 (Nat.le_trans hB b3.size)⟩;have end_ : ∀ w9, At ⟨w, B, hB⟩ [⟨[.val (.int .i64 z.a), .val (.int .i64 z.b), .val (.int .i64 z.c), .val (.int .i64 z.d), .val (.int .i64 z.e), .val (.int .i64 z.f)], 86⟩] [b1] [] (w2.setCell ⟨Be, 0, none⟩ (.int .i64 (Cv.in_ z b).2)) w9 -> Cv.AllAt Bb Be (.slice a b.length cap) b (Cv.in_ z b).2 w9 := fun w9 h9 => g3.go (at_below h9 (by simp));unfold Cv.misses;refine Branch.mk (fun hc => ?_) (fun hc => ?_)
 ·refine EndI.mk fun w9 h9 => ⟨?_, end_ w9 h9⟩
  rw [hc]; rfl
 ·refine EndI.mk fun w9 h9 => ⟨?_, end_ w9 h9⟩
  rw [hc]; rfl
theorem all_any (l b : List Zn) (a : Option Addr) (cap : Nat) (c : Option Addr) (cc : Nat) (w : World) (hS : Sl w.heap.size w (.slice a l.length cap) l) (hT : Sl w.heap.size w (.slice c b.length cc) b) :
 Calls Tryz.prog 135 #[.slice a l.length cap, .slice c b.length cc] w fun e w' => e = .returned (.tuple #[.bool (Cv.all_ l b).1, .int .i64 (Cv.all_ l b).2]) /\ Below w.heap.size w w' := by
 refine fun_eq 0 w Tryz.func135 (args := [.val (.slice a l.length cap), .val (.slice c b.length cc)]) rfl rfl ?_;refine NewI.frn fun w1 h1 => ?_;have hbox : (w1.alloc (.cells #[.slice c b.length cc] 22)).heap[w1.heap.size]? = some (.cells #[.slice c b.length cc] 22 (0, 0)) := World.alloc_heap_new w1 _;have hw1 : Below w.heap.size w (w1.alloc (.cells #[.slice c b.length cc] 22)) := h1.below.alloc h1.below.size _;have hwB : w.heap.size <= w1.heap.size := h1.below.size;generalize hgB : w1.heap.size = Bb at hbox hwB;generalize w1.alloc (.cells #[.slice c b.length cc] 22) = w2 at hbox hw1;refine ⟨⟨_, ⟨cell_one hbox, by simp⟩, ?_⟩⟩;refine NewI.mk fun b2 hb2 => ?_;have hBb2 : Bb < w2.heap.size := lt_of_cells hbox;have hb2' : w2.heap.size <= b2 := hb2;apply CallI.use1
 ·exact fun w3 h3 => checked_any [⟨a, l.length, cap⟩, ⟨c, b.length, cc⟩] [l, b] _ _ w3 (shown_two (hS.go h3.below h3.below.size) rfl (hT.go h3.below h3.below.size) rfl) (Sl.own (l := [(⟨a, l.length, cap⟩ : Svl), ⟨c, b.length, cc⟩]) h3 0 rfl rfl rfl (Nat.le_refl _) (by simp [maxLen]))
 intro w3 v3 h3 hB3;have hv3 : Below w.heap.size w v3 := h3.below.trans (hB3.mono h3.below.size);have hbox3 : v3.heap[Bb]? = some (.cells #[.slice c b.length cc] 22 (0, 0)) := (hB3.block _ (Nat.lt_of_lt_of_le hBb2 h3.size)).trans (((at_below h3 (by simp)).block _ hBb2).trans hbox);have hlt2 := h3.lt b2 (by simp);unfold Cv.all_;refine Branch.mk (fun hc => ?_) (fun hc => ?_)
 ·have h0 : Cv.checked [l, b] ≠ 0 := by simpa using hc
  rw [if_pos h0];exact EndI.mk fun w9 h9 => rfl
 have h0 : Cv.checked [l, b] = 0 := by simpa using hc
 rw [if_neg (by simp [h0]), Cv.allGo_eq];refine NewI.frn fun w4 h4 => ?_;have g4 : Below v3.heap.size v3 w4 := at_below h4 (by simp);have hw4 : Below w.heap.size w w4 := h4.below;have hboxe : (w4.alloc (.cells #[.int .i64 0] 28)).heap[w4.heap.size]? = some (.cells #[.int .i64 0] 28 (0, 0)) := World.alloc_heap_new w4 _;have hw5 : Below w.heap.size w (w4.alloc (.cells #[.int .i64 0] 28)) := hw4.alloc hw4.size _;have hbox5 : (w4.alloc (.cells #[.int .i64 0] 28)).heap[Bb]? = some (.cells #[.slice c b.length cc] 22 (0, 0)) :=
  (Below.heap_alloc w4 _ _ (Nat.lt_of_lt_of_le (lt_of_cells hbox3) g4.size)).trans ((g4.block _ (lt_of_cells hbox3)).trans hbox3)
 have hne : Bb ≠ w4.heap.size := by have := lt_of_cells hbox3; have := g4.size; omega
 have hwe : w.heap.size <= w4.heap.size := hw4.size;have hb2e : b2 < w4.heap.size := h4.lt b2 (by simp);generalize w4.alloc (.cells #[.int .i64 0] 28) = w5 at hboxe hw5 hbox5;generalize w4.heap.size = Be at hboxe hne hwe hb2e;have all5 : Cv.AllAt Bb Be (.slice c b.length cc) b 0 w5 := ⟨hbox5, hboxe, hT.go hw5 hw5.size⟩;refine CallI.mk fun w6 h6 => ?_;have g6 : Below w5.heap.size w5 w6 := at_below h6 (by simp);have hw6 := hw5.trans (g6.mono hw5.size);refine (containsZ_any l (Cv.misses b) a cap 178 #[.pointer (some ⟨Bb, 0, none⟩), .pointer (some ⟨Be, 0, none⟩)] Be w6 (Nat.le_trans (Nat.le_of_lt (lt_of_cells hboxe)) g6.size) ((hS.below hw6).upto hwe) (fun k W => Cv.AllAt Bb Be (.slice c b.length cc) b (Cv.told b l k) W) (all5.go g6) (fun k W W' h hb => h.go hb) Tryz.call178 (fun k x W hx hW h => ?_)).mono ?_
 ·refine (misses_any x b c cc (Cv.told b l k) Bb Be Be hne W (Nat.le_trans (Nat.le_trans (Nat.le_of_lt (lt_of_cells hboxe)) g6.size) hW.size) (Nat.le_refl _) h ((hT.below (hw6.trans (hW.mono hwe))).upto hwe)).mono ?_
  rintro e W' ⟨v, rfl, hB', rfl, h'⟩;refine ⟨rfl, hB', ?_⟩;have : Cv.told b l (k + 1) = (Cv.in_ x b).2 := by simp [Cv.told, hx]
  rw [this]; exact h'
 rintro e w7 ⟨v, rfl, hB7, rfl, h7⟩;refine ⟨⟨hB7.mono hwe, fun k hk => hB7.block k (by simp at hk; omega)⟩, _, rfl, ?_⟩;refine DrawI.go (.tk 0 (.tk 1 (.tk 2 (.tk 3 .done)))) (by kernel_rfl) fun w8 h8 => ?_;have g8 := h7.go (at_below h8 (by simp));refine ⟨⟨_, ⟨cell_one g8.he, by simp⟩, ?_⟩⟩;exact EndI.mk fun w9 h9 => rfl
namespace Zs
def free : Zn := ⟨9223372036854775807, 9223372036854775807, 9223372036854775807, 9223372036854775807, 9223372036854775807, 9223372036854775807⟩
theorem free_of : Zo.of 3 (Dbm.topL 3) = (free, 0) := by decide +kernel
def each (f : Zn -> Zn × Int) (l : List Zn) : List Zn × Int :=
 if Cv.checked [l] = 0 then (if (f free).2 ≠ 0 /\ (f free).2 ≠ 6 then ([], (f free).2) else come f [] l) else ([], Cv.checked [l])
def within (l : List Zn) (s : Sp) : List Zn × Int := each (fun z => Wn.within z s) l
theorem checked_len1 {l : List Zn} (h0 : Cv.checked [l] = 0) : l.length <= 4096 := (Cv.checked_one.1 h0).1
def same (a b : List Zn) : Bool × Int := if (Cv.all_ a b).2 = 0 /\ (Cv.all_ a b).1 = true then Cv.all_ b a else (false, (Cv.all_ a b).2)
end Zs
theorem KeptBut.ofBelow {w W : World} (h : Below w.heap.size w W) (row : Option Nat) : KeptBut row w W := ⟨h.size, fun k hk _ => h.block k hk⟩
theorem KeptBut.none_trans {row : Option Nat} {w W X : World} (h : KeptBut none w W) (k : KeptBut none W X) : KeptBut row w X :=
 ⟨Nat.le_trans h.1 k.1, fun i hi _ => (k.2 i (Nat.lt_of_lt_of_le hi h.1) (by simp)).trans (h.2 i hi (by simp))⟩
theorem each_any (f : Zn -> Zn × Int) (fid : FuncId) (caps : Array Value) (en : Enters Tryz.prog fid) (l : List Zn) (a : Option Addr) (cap : Nat) (w : World) (hS : Sl w.heap.size w (.slice a l.length cap) l)
 (hcall : ∀ x W, KeptBut none w W -> Calls Tryz.prog fid (val x :: caps.toList).toArray W fun e W' => e = .returned (.tuple #[.agg #[.int .i64 (f x).1.a, .int .i64 (f x).1.b, .int .i64 (f x).1.c, .int .i64 (f x).1.d, .int .i64 (f x).1.e, .int .i64 (f x).1.f], .int .i64 (f x).2]) /\ Below W.heap.size W W') :
 Calls Tryz.prog 109 #[.slice a l.length cap, .func (.func fid) #[] caps] w (Ret w fun v w' => ∃ a' c', v = .tuple #[.slice a' (Zs.each f l).1.length c', .int .i64 (Zs.each f l).2] /\ Own TZ w.heap.size w' (.slice a' (Zs.each f l).1.length c') (Zs.each f l).1) := by
 refine fun_ret 0 w Tryz.func109 (args := [.val (.slice a l.length cap), .val (.func (.func fid) #[] caps)]) rfl rfl ?_;have st := Stay.first (w := w)
 refine NewI.mk fun b1 hb1 => ?_;apply CallI.use1
 focus (exact fun w1 h1 => zschecked_any [⟨a, l.length, cap⟩] [l] (by simp) _ _ w1 (shown_one (hS.st (st.at h1)) rfl) (Sl.own (l := [(⟨a, l.length, cap⟩ : Svl)]) h1 0 rfl rfl rfl (Nat.le_refl _) (by simp [maxLen])))
 intro w1 v1 h1 hB1;have st := st.nx h1 hB1;unfold Zs.each;refine Branch.mk (fun hc => ?_) (fun hc => ?_)
 ·have h0 : Cv.checked [l] ≠ 0 := by simpa using hc
  rw [if_neg h0];exact EndI.mk fun w9 h9 => ⟨_, _, rfl, Own.nil⟩
 have h0 : Cv.checked [l] = 0 := by simpa using hc
 rw [if_pos h0];have htop := fun w => top_any 3 w;rw [Zo.top3] at htop;have hof := fun (w : World) a c h => zof_any 3 a c (Dbm.topL 3) w h;rw [Zs.free_of] at hof;apply CallI.use
 focus (exact fun w2 h2 => htop w2)
 rintro v w2 v2 h2 hB2 ⟨a2, c2, rfl, hO2⟩;have st := st.nx h2 hB2;refine NewI.mk fun b2 hb2 => ?_;apply CallI.use1
 focus (exact fun w3 h3 => hof w3 a2 c2 ((hO2.st (st.at h3)).sl))
 intro w3 v3 h3 hB3;have st := st.nx h3 hB3;refine NewI.mk fun b3 hb3 => ?_;refine Need.mk en ?_;apply CallI.use1
 focus (exact fun w4 h4 => hcall Zs.free w4 (KeptBut.ofBelow h4.below none))
 intro w4 v4 h4 hB4;refine NewI.mk fun b4 hb4 => ?_;have hcm := fun (w7 : World) (hw7 : Below w.heap.size w w7) => come_any f fid caps en [] l (.slice none 0 0) a cap w.heap.size (by simp) (Zs.checked_len1 h0) w7 hw7.size Own.nil (hS.below hw7) (fun x W hx hK => hcall x W ((KeptBut.ofBelow hw7 none).none_trans hK));have fin : ∀ w7 : World, ∀ (hw7 : Below w.heap.size w w7), Calls Tryz.prog 154 #[.slice none 0 0, .slice a l.length cap, .func (.func fid) #[] caps] w7 (Ret w7 fun v w' => ∃ a' c', v = .tuple #[.slice a' (Zs.come f [] l).1.length c', .int .i64 (Zs.come f [] l).2] /\ Own TZ w7.heap.size w' (.slice a' (Zs.come f [] l).1.length c') (Zs.come f [] l).1) := fun w7 hw7 =>
  (hcm w7 hw7).mono fun e w8 ⟨v, he, hB, hK, a8, c8, hv, hO⟩ => ⟨v, he, ⟨hB.os.trans rfl, hB.tape, hB.output, hB.size, fun k hk => hK.2 k hk (by simp [Value.ownBlock])⟩, a8, c8, hv, hO⟩
 refine Branch.mk (fun hc2 => ?_) (fun hc2 => ?_)
 ·have h1 : (f Zs.free).2 ≠ 0 := of_decide_eq_true hc2
  refine Branch.mk (fun hc3 => ?_) (fun hc3 => ?_)
  ·have h6 : (f Zs.free).2 ≠ 6 := by simpa using hc3
   rw [if_pos ⟨h1, h6⟩];exact EndI.mk fun w9 h9 => ⟨_, _, rfl, Own.nil⟩
  ·have h6 : (f Zs.free).2 = 6 := by simpa using hc3
   rw [if_neg (fun h => h.2 h6)];apply CallI.use
   focus (exact fun w7 h7 => fin w7 h7.below)
   rintro v w7 v7 h7 hB7 ⟨a8, c8, rfl, hO8⟩;exact EndI.mk fun w9 h9 => ⟨a8, c8, rfl, (hO8.lower h7.below.size).below (at_belowM h9 (by simp <;> omega))⟩
 ·have h1 : (f Zs.free).2 = 0 := by simpa using hc2
  rw [if_neg (fun h => h.1 h1)];apply CallI.use
  focus (exact fun w7 h7 => fin w7 h7.below)
  rintro v w7 v7 h7 hB7 ⟨a8, c8, rfl, hO8⟩;exact EndI.mk fun w9 h9 => ⟨a8, c8, rfl, (hO8.lower h7.below.size).below (at_belowM h9 (by simp <;> omega))⟩
theorem within1_any (z : Zn) (s : Sp) (hs : s.ins) (B : Nat) (w : World) (hbox : w.heap[B]? = some (.cells #[.int .i64 s.lo, .bool s.ls, .int .i64 s.hi, .bool s.hs, .bool s.op] 32 (0, 0))) :
 Calls Tryz.prog 110 #[.agg #[.int .i64 z.a, .int .i64 z.b, .int .i64 z.c, .int .i64 z.d, .int .i64 z.e, .int .i64 z.f], .pointer (some ⟨B, 0, none⟩)] w fun e w' => e = .returned (.tuple #[.agg #[.int .i64 (Wn.within z s).1.a, .int .i64 (Wn.within z s).1.b, .int .i64 (Wn.within z s).1.c, .int .i64 (Wn.within z s).1.d, .int .i64 (Wn.within z s).1.e, .int .i64 (Wn.within z s).1.f], .int .i64 (Wn.within z s).2]) /\ Below w.heap.size w w' := by
 refine fun_eq 0 w Tryz.func110 (args := [.agg [.val (.int .i64 z.a), .val (.int .i64 z.b), .val (.int .i64 z.c), .val (.int .i64 z.d), .val (.int .i64 z.e), .val (.int .i64 z.f)], .val (.pointer (some ⟨B, 0, none⟩))]) rfl rfl ?_;refine NewI.mk fun b1 hb1 => ?_;refine NewI.mk fun b2 hb2 => ?_;refine LoadA.mk ⟨[.int .i64 s.lo, .bool s.ls, .int .i64 s.hi, .bool s.hs, .bool s.op], ⟨rfl, by decide, by simp, cell_nM hbox⟩, ?_⟩;apply CallI.use1
 focus (exact fun w2 h2 => wwithin_any z s hs w2)
 intro w2 v2 h2 hB2;exact EndI.mk fun w9 h9 => rfl
theorem zswithin_any (l : List Zn) (s : Sp) (hs : s.ins) (a : Option Addr) (cap : Nat) (w : World) (hS : Sl w.heap.size w (.slice a l.length cap) l) :
 Calls Tryz.prog 69 #[.slice a l.length cap, .agg #[.int .i64 s.lo, .bool s.ls, .int .i64 s.hi, .bool s.hs, .bool s.op]] w (Ret w fun v w' => ∃ a' c', v = .tuple #[.slice a' (Zs.within l s).1.length c', .int .i64 (Zs.within l s).2] /\ Own TZ w.heap.size w' (.slice a' (Zs.within l s).1.length c') (Zs.within l s).1) := by
 refine fun_ret 0 w Tryz.func69 (args := [.val (.slice a l.length cap), .agg [.val (.int .i64 s.lo), .val (.bool s.ls), .val (.int .i64 s.hi), .val (.bool s.hs), .val (.bool s.op)]]) rfl rfl ?_;refine NewI.frn fun w1 h1 => ?_;have hbox : (w1.alloc (.cells #[.int .i64 s.lo, .bool s.ls, .int .i64 s.hi, .bool s.hs, .bool s.op] 32)).heap[w1.heap.size]? = some (.cells #[.int .i64 s.lo, .bool s.ls, .int .i64 s.hi, .bool s.hs, .bool s.op] 32 (0, 0)) := World.alloc_heap_new w1 _;apply CallI.use
 focus (exact fun w2 h2 => each_any (fun z => Wn.within z s) 110 #[.pointer (some ⟨w1.heap.size, 0, none⟩)] Tryz.call110 l a cap w2 (hS.go h2.below h2.below.size) (fun x W hK => within1_any x s hs w1.heap.size W ((hK.2 _ (Nat.lt_of_lt_of_le (lt_cellsM hbox) (at_belowM h2 (by simp)).size) (by simp)).trans (((at_belowM h2 (by simp)).block _ (lt_cellsM hbox)).trans hbox))))
 rintro v w2 v2 h2 hB2 ⟨a2, c2, rfl, hO2⟩;exact EndI.mk fun w9 h9 => ⟨a2, c2, rfl, (hO2.lower h2.below.size).below (at_belowM h9 (by simp))⟩
theorem zsin_any (l m : List Zn) (a b : Option Addr) (ca cb : Nat) (w : World) (hS : Sl w.heap.size w (.slice a l.length ca) l) (hT : Sl w.heap.size w (.slice b m.length cb) m) :
 Calls Tryz.prog 93 #[.slice a l.length ca, .slice b m.length cb] w fun e w' => e = .returned (.tuple #[.bool (Cv.all_ l m).1, .int .i64 (Cv.all_ l m).2]) /\ Below w.heap.size w w' := by
 refine fun_eq 0 w Tryz.func93 (args := [.val (.slice a l.length ca), .val (.slice b m.length cb)]) rfl rfl ?_;apply CallI.use1
 focus (exact fun w2 h2 => all_any l m a ca b cb w2 (hS.go h2.below h2.below.size) (hT.go h2.below h2.below.size))
 intro w2 v2 h2 hB2;exact EndI.mk fun w9 h9 => rfl
theorem equalZ_any (l m : List Zn) (a : Option Addr) (cap : Nat) (b : Option Addr) (cb : Nat) (w : World) (hS : Sl w.heap.size w (.slice a l.length cap) l) (hT : Sl w.heap.size w (.slice b m.length cb) m) :
 Calls Tryz.prog 133 #[.slice a l.length cap, .slice b m.length cb] w fun e w' => e = .returned (.bool (decide (l = m))) /\ Below w.heap.size w w' := by
 refine fun_eq 0 w Tryz.func133 (args := [.val (.slice a l.length cap), .val (.slice b m.length cb)]) rfl rfl ?_;obtain ⟨_, _, hfe, hcap1, hcap2, _⟩ := hS.form;injection hfe with _ _ hfe;subst hfe;unfold maxLen at hcap2;refine Branch.mk (fun hc => ?_) (fun hc => ?_)
 ·have hne : l.length ≠ m.length := by have := of_decide_eq_true hc; omega
  refine EndI.mk fun w9 h9 => ?_;rw [decide_eq_false (fun e => hne (by rw [e]))]
 have hlm : l.length = m.length := by have := of_decide_eq_false hc; omega
 refine LoopI.invC (α := Nat × World) (fun y => [(13, .val (.int .i64 y.1))]) (fun y => y.2) (fun y => y.1 <= l.length /\ Below w.heap.size w y.2 /\ l.take y.1 = m.take y.1) (fun y => l.length - y.1) ?_ ?_
 ·intro w1 h1
  exact ⟨(0, w1), Cov.au rfl rfl rfl rfl rfl, rfl, Nat.zero_le _, h1.below, rfl⟩
 rintro ⟨k, V⟩ ⟨hk, hV, hall⟩;simp only at hk hV hall;refine Branch.mk (fun hc2 => ?_) (fun hc2 => ?_)
 ·have hlt : k < l.length := by have := of_decide_eq_true hc2; simp only at this; omega
  have hx := List.getElem?_eq_getElem (l := l) (i := k) hlt;have hy := List.getElem?_eq_getElem (l := m) (i := k) (by omega);generalize l[k] = x at hx;generalize m[k]'(by omega) = y at hy;refine DrawI.go (.tk 0 (.tk 1 (.tk 2 (.tk 3 (.tk 4 (.tk 5 (.tk 6 (.tk 7 (.ev 8 .done))))))))) (by kernel_rfl) fun w4 h4 => ?_;have hg4 : Below V.heap.size V w4 := h4.go;have hw4 := hV.trans (hg4.mono hV.size);have hS4 := hS.go hw4 hw4.size;have hT4 := hT.go hw4 hw4.size;refine hS4.idx hx fun ad had => ?_;refine hS4.ld hx had (Below.refl _ _) (by simp) ?_;refine hT4.idx hy fun ad2 had2 => ?_;refine hT4.ld hy had2 (Below.refl _ _) (by simp) ?_;refine GenV.to (x := .bool (decide (x ≠ y))) (fun w => run_neq_znG _ _ x y w) fun w5 h5 => ?_;refine Branch.mk (fun hc3 => ?_) (fun hc3 => ?_)
  ·have hne : x ≠ y := by simpa using hc3
   refine EndI.mk fun w9 h9 => ?_;rw [decide_eq_false (fun e => hne (by rw [e, hy] at hx; injection hx with hx; exact hx.symm))]
  ·have he : x = y := by simpa using hc3
   refine Need.ok (EndI.mk fun w9 h9 => ⟨(k + 1, w9), Cov.au rfl rfl rfl rfl rfl, rfl, ⟨hlt, h9.below, ?_⟩, by simp only; omega⟩);simp only;rw [List.take_add_one, List.take_add_one, hall, hx, hy, he]
 ·have hge : k = l.length := by have := of_decide_eq_false hc2; simp only at this; omega
  subst hge;rw [List.take_length, hlm, List.take_length] at hall;refine EndI.mk fun w9 h9 => ?_;rw [decide_eq_true hall]
namespace Zs
def check (l : List Zn) : Int := if (Cv.prune l).2 = 0 /\ (Cv.prune l).1 = l then 0 else 8
def has (l : List Zn) (p : Pt) : Bool × Int :=
 if Cv.checked [l] = 0 then (if (Zo.has free p).2 = 0 then (l.any (fun z => decide ((Zo.has z p).2 = 0) && (Zo.has z p).1), 0) else (false, (Zo.has free p).2)) else (false, Cv.checked [l])
end Zs
theorem zscheck_any (l : List Zn) (a : Option Addr) (cap : Nat) (w : World) (hS : Sl w.heap.size w (.slice a l.length cap) l) :
 Calls Tryz.prog 89 #[.slice a l.length cap] w fun e w' => e = .returned (.int .i64 (Zs.check l)) /\ Below w.heap.size w w' := by
 refine fun_eq 0 w Tryz.func89 (args := [.val (.slice a l.length cap)]) rfl rfl ?_;apply CallI.use
 focus (exact fun w2 h2 => zsof_any l a cap w2 (hS.go h2.below h2.below.size))
 rintro v w2 v2 h2 hB2 ⟨a2, c2, rfl, hO2⟩;unfold Zs.check;generalize Cv.prune l = X at *;obtain ⟨m, e⟩ := X;simp only at hO2 ⊢;refine Branch.mk (fun hc => ?_) (fun hc => ?_)
 ·have h1 : e ≠ 0 := by simpa using hc
  rw [if_neg (fun h => h1 h.1)];exact EndI.mk fun w9 h9 => rfl
 have h1 : e = 0 := by simpa using hc
 apply CallI.use1
 focus (exact fun w3 h3 => equalZ_any l m a cap a2 c2 w3 (hS.go h3.below h3.below.size) (hO2.below (at_belowM h3 (by simp))).sl)
 intro w3 v3 h3 hB3;refine Branch.mk (fun hc2 => ?_) (fun hc2 => ?_)
 ·have h2 : ¬ l = m := by simpa using hc2
  rw [if_neg (fun h => h2 h.2.symm)];exact EndI.mk fun w9 h9 => rfl
 ·have h2 : l = m := by simpa using hc2
  rw [if_pos ⟨h1, h2.symm⟩];exact EndI.mk fun w9 h9 => rfl
namespace Cl
def oddZ (z : Zn) : Bool := decide (1 < z.b) || decide (0 < z.f)
def odd (l : List Zn) : Bool := l.any oddZ
def chk (old part : List Zn) (cz cr : Int) : Int :=
 if ¬ (1 <= cz /\ cz <= 4096) \/ ¬ (1 <= cr /\ cr <= 4096) then 2 else if Zs.check old ≠ 0 \/ Zs.check part ≠ 0 \/ odd old = true \/ odd part = true then 8 else 0
def longer (l by_ part : List Zn) (cz : Int) : List Zn × List Zn × Int :=
 if (Zs.comp by_ part).2 ≠ 0 \/ cz < ((Zs.comp by_ part).1.length : Int) then ([], [], 300)
 else if (Zs.or l (Zs.comp by_ part).1).2 ≠ 0 \/ cz < ((Zs.or l (Zs.comp by_ part).1).1.length : Int) then ([], [], 300)
 else ((Zs.or l (Zs.comp by_ part).1).1, (Zs.comp by_ part).1, 0)
end Cl
end
section
namespace Dbm
def inS (S k : Nat) : Bool := decide (S / 2 ^ k % 2 = 1)
def pc (S : Nat) : Nat := (if inS S 0 then 1 else 0) + (if inS S 1 then 1 else 0) + (if inS S 2 then 1 else 0) + (if inS S 3 then 1 else 0)
theorem inS_less {S k a : Nat} (hk : inS S k = true) (hS : S < 16) (hk4 : k < 4) (ha : a < 4) : (inS (S - 2 ^ k) a = true ↔ inS S a = true /\ a ≠ k) /\ pc (S - 2 ^ k) + 1 = pc S := by
 have key : ∀ S : Fin 16, ∀ k a : Fin 4, inS S.1 k.1 = true -> (inS (S.1 - 2 ^ k.1) a.1 = true ↔ inS S.1 a.1 = true /\ a.1 ≠ k.1) /\ pc (S.1 - 2 ^ k.1) + 1 = pc S.1 := by decide +kernel
 exact key ⟨S, hS⟩ ⟨k, hk4⟩ ⟨a, ha⟩ hk
theorem inS_zero {S k : Nat} (hS : S < 16) (hp : pc S = 0) (hk : k < 4) : inS S k = false := by
 have key : ∀ S : Fin 16, ∀ k : Fin 4, pc S.1 = 0 -> inS S.1 k.1 = false := by decide +kernel
 exact key ⟨S, hS⟩ ⟨k, hk⟩ hp
def cand (N : Nat) (L : List Int) (i : Nat) (rc : Nat -> Int) (k : Nat) : Int := (Bd.add (L[i * N + k]?.getD 0) (rc k)).1
def pstep (sk : Nat -> Bool) (cd : Nat -> Int) (best : Int) (k : Nat) : Int := if sk k = true then best else if cd k < best then cd k else best
def skip (i j S k : Nat) : Bool := !(inS S k) || decide (k = i) || decide (k = j)
def pth (N : Nat) (L : List Int) : Nat -> Nat -> Nat -> Nat -> Int
 | 0, i, j, _ => L[i * N + j]?.getD 0
 | f + 1, i, j, S => (List.range N).foldl (pstep (skip i j S) (cand N L i fun k => pth N L f k j (S - 2 ^ k))) (L[i * N + j]?.getD 0)
theorem fold_min {sk : Nat -> Bool} {cd : Nat -> Int} {G : Int -> Prop} : ∀ (l : List Nat) (b : Int), G b -> (∀ k, k ∈ l -> sk k = false -> G (cd k)) ->
 G (l.foldl (pstep sk cd) b) /\ l.foldl (pstep sk cd) b <= b /\ ∀ k, k ∈ l -> sk k = false -> l.foldl (pstep sk cd) b <= cd k
 | [], b, hb, _ => ⟨hb, Int.le_refl _, by simp⟩
 | k :: l, b, hb, hc => by
   rw [List.foldl_cons];have hs : G (pstep sk cd b k) /\ pstep sk cd b k <= b /\ (sk k = false -> pstep sk cd b k <= cd k) := by
    unfold pstep
    by_cases h1 : sk k = true
    ·rw [if_pos h1]; exact ⟨hb, Int.le_refl _, fun h => by rw [h1] at h; cases h⟩
    ·rw [if_neg h1]
     have h1' : sk k = false := by simpa using h1
     by_cases h2 : cd k < b
     ·rw [if_pos h2]; exact ⟨hc k (by simp) h1', by omega, fun _ => Int.le_refl _⟩
     ·rw [if_neg h2]; exact ⟨hb, Int.le_refl _, fun _ => by omega⟩
   obtain ⟨k1, k2, k3⟩ := fold_min l (pstep sk cd b k) hs.1 (fun a ha => hc a (by simp [ha]));refine ⟨k1, by omega, fun a ha hsa => ?_⟩;rcases List.mem_cons.1 ha with rfl | ha
   ·have := hs.2.2 hsa; omega
   ·exact k3 a ha hsa
theorem le_ole {m : Int} (hm : m <= 2305843009213693952) {u v : Int} (hu : lim m u) (hv : lim m v) (h : u <= v) : ole (ob u) (ob v) :=
 not_olt.1 fun h2 => by have := (lt_iff hm hv hu).2 h2; omega
structure POk (N : Nat) (L : List Int) (i j S f : Nat) (v : Int) : Prop where
 lim : Dbm.lim 1152921504606846976 v
 wit : ∀ u, ob v = some u -> ∃ mid : List Nat, mid.Nodup /\ i ∉ mid /\ j ∉ mid /\ (∀ a, a ∈ mid -> a < N /\ inS S a = true) /\ way (mx N L) (i :: (mid ++ [j])) = some u
 low : ∀ mid : List Nat, mid.Nodup -> i ∉ mid -> j ∉ mid -> (∀ a, a ∈ mid -> a < N /\ inS S a = true) -> mid.length <= f -> ole (ob v) (way (mx N L) (i :: (mid ++ [j])))
section
variable {N : Nat} {L : List Int}
theorem mx_lim (h0 : chk N L = 0) : ∀ i j v, i < N -> j < N -> mx N L i j = some v -> -288230376151711744 <= v / 2 /\ v / 2 <= 288230376151711744 := fun i j v hi hj hv => by
 obtain ⟨c1, c2, c3, c4⟩ := chk_iff.1 h0;have hL : L.length = N * N := by exact_mod_cast c3
 obtain ⟨e1, e2⟩ := mx_some hv;have := chk_lim h0 (i * N + j) (by rw [hL]; exact place_lt hi hj);rw [e1] at this;exact this.resolve_left e2
theorem way_lim3 (h0 : chk N L = 0) {i j : Nat} (hi : i < N) (hj : j < N) {mid : List Nat} (hn : mid.Nodup) (him : i ∉ mid) (hm : ∀ a, a ∈ mid -> a < N) {u : Int} (hu : way (mx N L) (i :: (mid ++ [j])) = some u) : -1152921504606846976 <= u / 2 /\ u / 2 <= 1152921504606846976 := by
 obtain ⟨c1, c2, c3, c4⟩ := chk_iff.1 h0;have hlt : ∀ a ∈ i :: (mid ++ [j]), a < N := by
  intro a ha;simp only [List.mem_cons, List.mem_append, List.not_mem_nil, or_false] at ha;rcases ha with rfl | ha | rfl
  ·exact hi
  ·exact hm a ha
  ·exact hj
 have hw := way_lim (by omega) (mx_lim h0) _ u hlt hu;have hl := nodup_len N (i :: mid) (List.nodup_cons.2 ⟨him, hn⟩) (fun a ha => by rcases List.mem_cons.1 ha with rfl | ha; exact hi; exact hm a ha);have hl' : ((i :: (mid ++ [j])).length - 1 : Nat) <= 4 := by simp at hl ⊢; omega
 generalize ((i :: (mid ++ [j])).length - 1 : Nat) = x at hw hl';omega
theorem ob_lim {v m : Int} (h : ∀ u, ob v = some u -> -m <= u / 2 /\ u / 2 <= m) : lim m v := by
 by_cases hv : v = NO
 ·exact .inl hv
 ·exact .inr (h v (by unfold ob; rw [if_neg hv]))
theorem pth_ok (h0 : chk N L = 0) : ∀ (f i j S : Nat), i < N -> j < N -> S < 16 -> inS S i = false -> POk N L i j S f (pth N L f i j S)
 | 0, i, j, S, hi, hj, hS, hiS => by
   have hw : ∀ u, ob (pth N L 0 i j S) = some u -> way (mx N L) (i :: ([] ++ [j])) = some u := fun u hu => by rw [List.nil_append, way_two]; exact hu
   refine ⟨ob_lim fun u hu => way_lim3 h0 hi hj (by simp) (by simp) (by simp) (hw u hu), fun u hu => ⟨[], by simp, by simp, by simp, by simp, hw u hu⟩, fun mid _ _ _ _ hl => ?_⟩;have : mid = [] := List.eq_nil_of_length_eq_zero (by omega);subst this;rw [List.nil_append, way_two];exact ole_refl _
 | f + 1, i, j, S, hi, hj, hS, hiS => by
   obtain ⟨c1, c2, c3, c4⟩ := chk_iff.1 h0;have hN4 : N <= 4 := by omega
   have hL : L.length = N * N := by exact_mod_cast c3
   let G : Int -> Prop := fun v => ∀ u, ob v = some u -> ∃ mid : List Nat, mid.Nodup /\ i ∉ mid /\ j ∉ mid /\ (∀ a, a ∈ mid -> a < N /\ inS S a = true) /\ way (mx N L) (i :: (mid ++ [j])) = some u
   have Glim : ∀ v, G v -> lim 1152921504606846976 v := fun v hv => ob_lim fun u hu => by
    obtain ⟨mid, m1, m2, m3, m4, m5⟩ := hv u hu;exact way_lim3 h0 hi hj m1 m2 (fun a ha => (m4 a ha).1) m5
   have hsk : ∀ k, k < N -> skip i j S k = false -> inS S k = true /\ k ≠ i /\ k ≠ j := fun k hk h => by
    unfold skip at h
    simpa [and_assoc] using h
   have rc : ∀ k, k < N -> skip i j S k = false -> POk N L k j (S - 2 ^ k) f (pth N L f k j (S - 2 ^ k)) := fun k hk h => by
    obtain ⟨h1, h2, h3⟩ := hsk k hk h;have hl := inS_less (a := k) h1 hS (by omega) (by omega);refine pth_ok h0 f k j (S - 2 ^ k) hk hj (Nat.lt_of_le_of_lt (Nat.sub_le _ _) hS) ?_;cases hh : inS (S - 2 ^ k) k with
    | false => rfl
    | true => exact absurd rfl ((hl.1.1 hh).2)
   have cdE : ∀ k, k < N -> skip i j S k = false -> ob (cand N L i (fun k => pth N L f k j (S - 2 ^ k)) k) = oadd (mx N L i k) (ob (pth N L f k j (S - 2 ^ k))) := fun k hk h => by
    have l1 : lim 1152921504606846976 (L[i * N + k]?.getD 0) := lim_mono (chk_lim h0 (i * N + k) (by rw [hL]; exact place_lt hi hk)) (by omega);exact (add_eq l1 (rc k hk h).lim).1
   have cdG : ∀ k, k ∈ List.range N -> skip i j S k = false -> G (cand N L i (fun k => pth N L f k j (S - 2 ^ k)) k) := fun k hk h u hu => by
    have hk := List.mem_range.1 hk;obtain ⟨h1, h2, h3⟩ := hsk k hk h;rw [cdE k hk h] at hu;cases he : mx N L i k with
    | none => rw [he] at hu; cases hu
    | some x =>
      cases hp : ob (pth N L f k j (S - 2 ^ k)) with
      | none => rw [he, hp] at hu; cases hu
      | some y =>
        obtain ⟨mid, m1, m2, m3, m4, m5⟩ := (rc k hk h).wit y hp;have hl := fun a (ha : a < 4) => (inS_less (a := a) h1 hS (by omega) ha).1;have hin : ∀ a, a ∈ mid -> a < N /\ inS S a = true /\ a ≠ k := fun a ha => ⟨(m4 a ha).1, (hl a (by have := (m4 a ha).1; omega)).1 (m4 a ha).2⟩;refine ⟨k :: mid, List.nodup_cons.2 ⟨m2, m1⟩, ?_, ?_, ?_, ?_⟩
        ·intro hm
         rcases List.mem_cons.1 hm with rfl | hm
         ·exact h2 rfl
         ·have := (hin i hm).2.1; rw [hiS] at this; cases this
        ·intro hm
         rcases List.mem_cons.1 hm with rfl | hm
         ·exact h3 rfl
         ·exact m3 hm
        ·intro a ha
         rcases List.mem_cons.1 ha with rfl | ha
         ·exact ⟨hk, h1⟩
         ·exact ⟨(hin a ha).1, (hin a ha).2.1⟩
        ·show oadd (mx N L i k) (way (mx N L) (k :: (mid ++ [j]))) = some u
         rw [m5, he];rw [he, hp] at hu;exact hu
   have b0 : G (L[i * N + j]?.getD 0) := fun u hu => ⟨[], by simp, by simp, by simp, by simp, by rw [List.nil_append, way_two]; exact hu⟩;obtain ⟨k1, k2, k3⟩ := fold_min (sk := skip i j S) (cd := cand N L i fun k => pth N L f k j (S - 2 ^ k)) (G := G) (List.range N) _ b0 cdG;refine ⟨Glim _ k1, k1, fun mid m1 m2 m3 m4 hl => ?_⟩;cases mid with
   | nil =>
     rw [List.nil_append, way_two];exact le_ole (by omega) (Glim _ k1) (Glim _ b0) k2
   | cons k mid =>
     have hkN := (m4 k (by simp)).1;have hkS := (m4 k (by simp)).2;have hki : k ≠ i := fun e => m2 (by simp [e]);have hkj : k ≠ j := fun e => m3 (by simp [e]);have hs : skip i j S k = false := by unfold skip; simp [hkS, hki, hkj]
     have h1 := k3 k (List.mem_range.2 hkN) hs;have h2 := le_ole (m := 1152921504606846976) (by omega) (Glim _ k1) (Glim _ (cdG k (List.mem_range.2 hkN) hs)) h1;rw [cdE k hkN hs] at h2;refine ole_trans h2 ?_;show ole _ (oadd (mx N L i k) (way (mx N L) (k :: (mid ++ [j]))));have hnd := List.nodup_cons.1 m1;refine oadd_mono (ole_refl _) ((rc k hkN hs).low mid hnd.2 hnd.1 (fun h => m3 (by simp [h])) (fun a ha => ?_) (by simp at hl; omega));have ha4 := m4 a (by simp [ha]);exact ⟨ha4.1, (inS_less hkS hS (by omega) (by omega)).1.2 ⟨ha4.2, fun e => hnd.1 (e ▸ ha)⟩⟩
end
end Dbm
namespace Dbm
def full (N i : Nat) : Nat := 2 ^ N - 1 - 2 ^ i
theorem full_ok {N i : Nat} (hN : N <= 4) (hi : i < N) : full N i < 16 /\ inS (full N i) i = false /\ pc (full N i) <= N /\ ∀ a, a < N -> a ≠ i -> inS (full N i) a = true := by
 have key : ∀ N : Fin 5, ∀ i a : Fin 4, i.1 < N.1 -> full N.1 i.1 < 16 /\ inS (full N.1 i.1) i.1 = false /\ pc (full N.1 i.1) <= N.1 /\ (a.1 < N.1 -> a.1 ≠ i.1 -> inS (full N.1 i.1) a.1 = true) := by decide +kernel
 have k := fun a ha => key ⟨N, by omega⟩ ⟨i, by omega⟩ ⟨a, ha⟩ hi;have k0 := k 0 (by omega);exact ⟨k0.1, k0.2.1, k0.2.2.1, fun a ha => (k a (by omega)).2.2.2 ha⟩
def closedR (N : Nat) (L : List Int) : Option (List Int) :=
 if (List.range N).all (fun i => decide (1 <= pth N L N i i (full N i))) = true then some ((List.range (N * N)).map fun p => if p / N = p % N then 1 else pth N L N (p / N) (p % N) (full N (p / N))) else none
def dis : List Nat -> Prop
 | a :: b :: t => a ≠ b /\ dis (b :: t)
 | _ => True
theorem dis_way {N : Nat} {L L1 : List Int} (h : ∀ i j, i < N -> j < N -> i ≠ j -> L1[i * N + j]?.getD 0 = L[i * N + j]?.getD 0) : ∀ (p : List Nat), dis p -> (∀ a, a ∈ p -> a < N) -> way (mx N L1) p = way (mx N L) p
 | [], _, _ => rfl
 | [_], _, _ => rfl
 | a :: b :: t, hd, hp => by
   have h1 : mx N L1 a b = mx N L a b := by unfold mx; rw [h a b (hp a (by simp)) (hp b (by simp)) hd.1]
   simp only [way, h1, dis_way h (b :: t) hd.2 (fun c hc => hp c (List.mem_cons_of_mem a hc))]
theorem dis_simple : ∀ (mid : List Nat) (i j : Nat), mid.Nodup -> i ∉ mid -> j ∉ mid -> (i ≠ j \/ mid ≠ []) -> dis (i :: (mid ++ [j]))
 | [], i, j, _, _, _, h => ⟨h.resolve_right (fun h => h rfl), trivial⟩
 | k :: mid, i, j, hn, hi, hj, _ => by
   have hnd := List.nodup_cons.1 hn;exact ⟨fun e => hi (by simp [e]), dis_simple mid k j hnd.2 hnd.1 (fun h => hj (by simp [h])) (.inl fun e => hj (by simp [e]))⟩
theorem cyc_ok {N n : Nat} {E M : Mx} (inv : Inv N n E M) (hn : n < N) (H : ∀ i mid, i < N -> mid.Nodup -> i ∉ mid -> (∀ a, a ∈ mid -> a < N) -> ole (some 1) (way E (i :: (mid ++ [i])))) :
 ∀ (m : Nat) (p q : List Nat) (i : Nat), p.length + q.length <= m -> (i :: (p ++ [n])).Nodup -> (n :: (q ++ [i])).Nodup -> (∀ a, a ∈ p -> a < n) -> (∀ a, a ∈ q -> a < n) -> i < N -> ole (some 1) (oadd (way E (i :: (p ++ [n]))) (way E (n :: (q ++ [i]))))
 | m, p, q, i, hm, hp, hq, hpn, hqn, hi => by
   have hp' := List.nodup_cons.1 hp;have hq' := List.nodup_cons.1 hq;have hpa := List.nodup_append.1 hp'.2;have hqa := List.nodup_append.1 hq'.2;have hip : i ∉ p := fun h => hp'.1 (List.mem_append.2 (.inl h));have hin : i ≠ n := fun h => hp'.1 (List.mem_append.2 (.inr (by simp [h])));have hnq : n ∉ q := fun h => hq'.1 (List.mem_append.2 (.inl h));have hnp : n ∉ p := fun h => hpa.2.2 n h n (by simp) rfl;have hiq : i ∉ q := fun h => hqa.2.2 i h i (by simp) rfl
   by_cases hd : ∃ v, v ∈ p /\ v ∈ q
   ·obtain ⟨v, hv1, hv2⟩ := hd
    obtain ⟨p1, p2, rfl⟩ := List.append_of_mem hv1;obtain ⟨q1, q2, rfl⟩ := List.append_of_mem hv2;have hvn : v < n := hpn v hv1;have e1 : way E (i :: ((p1 ++ v :: p2) ++ [n])) = oadd (way E (i :: (p1 ++ [v]))) (way E (v :: (p2 ++ [n]))) := by
     have := way_split E (i :: p1) v (p2 ++ [n])
     simpa using this
    have e2 : way E (n :: ((q1 ++ v :: q2) ++ [i])) = oadd (way E (n :: (q1 ++ [v]))) (way E (v :: (q2 ++ [i]))) := by
     have := way_split E (n :: q1) v (q2 ++ [i])
     simpa using this
    have e3 : way E (i :: ((p1 ++ v :: q2) ++ [i])) = oadd (way E (i :: (p1 ++ [v]))) (way E (v :: (q2 ++ [i]))) := by
     have := way_split E (i :: p1) v (q2 ++ [i])
     simpa using this
    have h1 : ole (some 1) (way E (i :: ((p1 ++ v :: q2) ++ [i]))) := by
     have := inv.le_way (by omega) (p1 ++ v :: q2) i i hi hi (fun a ha => by
      rcases List.mem_append.1 ha with h | h
      ·exact hpn a (List.mem_append.2 (.inl h))
      ·rcases List.mem_cons.1 h with rfl | h
       ·exact hvn
       ·exact hqn a (List.mem_append.2 (.inr (List.mem_cons_of_mem _ h))))
     rwa [inv.diag i hi] at this
    have hm' : p2.length + q1.length < p1.length + (p2.length + 1) + (q1.length + (q2.length + 1)) := by omega
    have h2 : ole (some 1) (oadd (way E (v :: (p2 ++ [n]))) (way E (n :: (q1 ++ [v])))) := by
     match m, hm with
     | 0, hm => simp at hm
     | m + 1, hm =>
       refine cyc_ok inv hn H m p2 q1 v (by simp at hm; omega) ?_ ?_ (fun a ha => hpn a (by simp [ha])) (fun a ha => hqn a (by simp [ha])) (by omega)
       ·refine hp'.2.sublist ?_
        have : (p1 ++ v :: p2) ++ [n] = p1 ++ (v :: (p2 ++ [n])) := by simp
        rw [this]; exact List.sublist_append_right _ _
       ·refine hq.sublist ?_
        have : (q1 ++ v :: q2) ++ [i] = (q1 ++ [v]) ++ (q2 ++ [i]) := by simp
        rw [this]; exact List.Sublist.cons_cons n (List.sublist_append_left _ _)
    rw [e1, e2];generalize way E (i :: (p1 ++ [v])) = A at *;generalize way E (v :: (p2 ++ [n])) = B at *;generalize way E (n :: (q1 ++ [v])) = C at *;generalize way E (v :: (q2 ++ [i])) = D at *;have e4 : oadd (oadd A B) (oadd C D) = oadd (oadd A D) (oadd B C) := by
     rw [oadd_assoc, oadd_comm C D, <- oadd_assoc B D C, oadd_comm B D, oadd_assoc D B C, <- oadd_assoc A D]
    rw [e4, <- e3];have := oadd_mono h1 h2
    rwa [oadd_one] at this
   ·have h1 := H i (p ++ n :: q) hi (List.nodup_append.2 ⟨hpa.1, List.nodup_cons.2 ⟨hnq, hqa.1⟩, fun a ha b hb e => by
     subst e;rcases List.mem_cons.1 hb with rfl | hb
     ·exact hnp ha
     ·exact hd ⟨a, ha, hb⟩⟩) (fun h => by
     rcases List.mem_append.1 h with h | h
     ·exact hip h
     ·rcases List.mem_cons.1 h with h | h
      ·exact hin h
      ·exact hiq h) (fun a ha => by
     rcases List.mem_append.1 ha with h | h
     ·have := hpn a h; omega
     ·rcases List.mem_cons.1 h with rfl | h
      ·exact hn
      ·have := hqn a h; omega)
    have e := way_split E (i :: p) n (q ++ [i]);have e' : way E (i :: ((p ++ n :: q) ++ [i])) = oadd (way E (i :: (p ++ [n]))) (way E (n :: (q ++ [i]))) := by simpa using e
    rwa [e'] at h1
theorem there_back {N n : Nat} {E M : Mx} (inv : Inv N n E M) (hn : n < N) (H : ∀ i mid, i < N -> mid.Nodup -> i ∉ mid -> (∀ a, a ∈ mid -> a < N) -> ole (some 1) (way E (i :: (mid ++ [i])))) (i : Nat) (hi : i < N) : ole (some 1) (oadd (M i n) (M n i)) := by
 by_cases hin : i = n
 ·subst hin; rw [inv.diag i hi, oadd_one]; exact ole_refl _
 cases h1 : M i n with
 | none => trivial
 | some u =>
   cases h2 : M n i with
   | none => trivial
   | some v =>
     obtain ⟨p, p1, p2, p3⟩ := inv.wit i n hi hn hin u h1;obtain ⟨q, q1, q2, q3⟩ := inv.wit n i hn hi (fun e => hin e.symm) v h2;have := cyc_ok inv hn H (p.length + q.length) p q i (Nat.le_refl _) p1 q1 p2 q2 hi
     rwa [p3, q3] at this
end Dbm
end
end Go.Proofs.YtanhnllkccldhaaGreat
