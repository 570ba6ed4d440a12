/-
  Merged texts of this law (each with its own head below).
-/
import Derived.WalkKit
import Derived.CallsIn
import Derived.RangeFuncCalls
import Derived.RangeFuncLeaves
import Derived.Laws.IdiomCopy
import Derived.Laws.CopyRow
import Derived.Laws.CopyOwn
import Derived.Shelf.Abstract
import Derived.OrdersIn
import Derived.OrdersHeld
import Derived.Sort.LoopGhostIn
import Derived.Test.YtanhnllkccldhaaGreatChecked
import Derived.Deep.RegionHeld
import Derived.RangeFuncNested
import Derived.RangeFuncWrites
import Derived.RangeFuncBound
namespace Go.Proofs.YtanhnllkccldhaaGreat.Eng
set_option linter.unusedVariables false
set_option linter.unusedSimpArgs false
open Go Go.RowKit Go.Shelf Go.Proofs
inductive SV where
 | junk
 | val (v : Value)
 | kb (b : Bool)
 | loc (i o : Nat)
 | agg (l : List SV)
 | tup (l : List SV)
 | fn (f : FuncId) (caps : List SV)
 | lsl (i o len cap : Nat)
mutual
def SV.den (r : List Nat) : SV -> Value
 | .junk => undef
 | .val v => v
 | .kb b => .bool b
 | .loc i o => .pointer (some ⟨r.getD i 0, o, none⟩)
 | .agg l => .agg (denL r l).toArray
 | .tup l => .tuple (denL r l).toArray
 | .fn f caps => .func (.func f) #[] (denL r caps).toArray
 | .lsl i o n c => .slice (some ⟨r.getD i 0, o, none⟩) n c
def denL (r : List Nat) : List SV -> List Value
 | [] => []
 | a :: l => a.den r :: denL r l
end
def rgetK : List Nat -> Nat -> (Nat -> Prop) -> Prop
 | [], _, k => k 0
 | b :: _, 0, k => k b
 | _ :: l, n + 1, k => rgetK l n k
theorem rgetK_eq (l : List Nat) (n : Nat) (k : Nat -> Prop) : rgetK l n k = k (l.getD n 0) := by
 induction l generalizing n with
 | nil => simp [rgetK]
 | cons a l ih => cases n <;> simp [rgetK, ih]
def den0K (r : List Nat) (v : SV) (k : Value -> Prop) : Prop :=
 match v with
 | .val v => k v
 | .kb true => k (.bool true)
 | .kb false => k (.bool false)
 | .loc i o => rgetK r i fun b => k (.pointer (some ⟨b, o, none⟩))
 | .lsl i o n c => rgetK r i fun b => k (.slice (some ⟨b, o, none⟩) n c)
 | v => k (v.den r)
theorem den0K_eq (r : List Nat) (v : SV) (k : Value -> Prop) : den0K r v k = k (v.den r) := by
 cases v with
 | kb b => cases b <;> rfl
 | loc i o => simp only [den0K, rgetK_eq, SV.den]
 | lsl i o n c => simp only [den0K, rgetK_eq, SV.den]
 | _ => rfl
def denLK0 (r : List Nat) : List SV -> (List Value -> Prop) -> Prop
 | [], k => k []
 | a :: l, k => den0K r a fun v => denLK0 r l fun vs => k (v :: vs)
theorem denLK0_eq (r : List Nat) (l : List SV) (k : List Value -> Prop) : denLK0 r l k = k (denL r l) := by
 induction l generalizing k with
 | nil => rfl
 | cons a l ih => simp only [denLK0, den0K_eq, ih, denL]
def denK (r : List Nat) (v : SV) (k : Value -> Prop) : Prop :=
 match v with
 | .agg l => denLK0 r l fun vs => k (.agg vs.toArray)
 | .tup l => denLK0 r l fun vs => k (.tuple vs.toArray)
 | .fn f l => denLK0 r l fun vs => k (.func (.func f) #[] vs.toArray)
 | v => den0K r v k
theorem denK_eq (r : List Nat) (v : SV) (k : Value -> Prop) : denK r v k = k (v.den r) := by
 cases v <;> simp only [denK, denLK0_eq, den0K_eq, SV.den]
def denLK (r : List Nat) : List SV -> (List Value -> Prop) -> Prop
 | [], k => k []
 | a :: l, k => denK r a fun v => denLK r l fun vs => k (v :: vs)
theorem denLK_eq (r : List Nat) (l : List SV) (k : List Value -> Prop) : denLK r l k = k (denL r l) := by
 induction l generalizing k with
 | nil => rfl
 | cons a l ih => simp only [denLK, denK_eq, ih, denL]
abbrev Fr := List SV
structure LB where
 cells : List SV
 ty : TypeId
structure TI where
 zero : List Value
 ag : Bool
structure St where
 fr : Fr
 hp : List LB
 r : List Nat
 L : List Nat
 w : World
 df : List Deferred
def St.on (s : St) (k : Fr -> List LB -> List Nat -> List Nat -> World -> List Deferred -> Prop) : Prop :=
 match s with
 | ⟨fr, hp, r, L, w, df⟩ => k fr hp r L w df
theorem St.on_eq (s : St) (k : Fr -> List LB -> List Nat -> List Nat -> World -> List Deferred -> Prop) : s.on k = k s.fr s.hp s.r s.L s.w s.df := by cases s; rfl
structure Cx where
 P : Program
 T : TypeId -> Option TI
 fld : TypeId -> Nat -> Option Nat
 el : TypeId -> Option Nat
 sl : TypeId -> Option (TypeId × TI)
 lay : TypeId -> Option (List (Nat × Nat))
 ik : TypeId -> Option IntKind
 bo : TypeId -> Bool
 ar : TypeId -> Option (Nat × Nat)
 fv : TypeId -> Nat -> Option (Nat × Nat × Bool)
 fn : FuncId -> Bool
 wr : Bool := false
def fget : Fr -> Nat -> SV
 | [], _ => .val undef
 | a :: _, 0 => a
 | _ :: l, n + 1 => fget l n
def fset : Fr -> Nat -> SV -> Fr
 | [], _, _ => []
 | _ :: l, 0, v => v :: l
 | a :: l, n + 1, v => a :: fset l n v
def hget : List LB -> Nat -> Option LB
 | [], _ => none
 | a :: _, 0 => some a
 | _ :: l, n + 1 => hget l n
def hset : List LB -> Nat -> LB -> List LB
 | [], _, _ => []
 | _ :: l, 0, v => v :: l
 | a :: l, n + 1, v => a :: hset l n v
def force {α : Type} : List α -> (List α -> Prop) -> Prop
 | [], k => k []
 | a :: l, k => force l fun l' => k (a :: l')
theorem force_eq {α : Type} (l : List α) (k : List α -> Prop) : force l k = k l := by
 induction l generalizing k with
 | nil => rfl
 | cons a l ih => exact ih _
def natK (n : Nat) (k : Nat -> Prop) : Prop :=
 match n with
 | 0 => k 0
 | 1 => k 1
 | 2 => k 2
 | 3 => k 3
 | 4 => k 4
 | 5 => k 5
 | 6 => k 6
 | 7 => k 7
 | 8 => k 8
 | 9 => k 9
 | 10 => k 10
 | 11 => k 11
 | 12 => k 12
 | 13 => k 13
 | 14 => k 14
 | 15 => k 15
 | 16 => k 16
 | 17 => k 17
 | 18 => k 18
 | 19 => k 19
 | 20 => k 20
 | 21 => k 21
 | 22 => k 22
 | 23 => k 23
 | n => k n
theorem natK_eq (n : Nat) (k : Nat -> Prop) : natK n k = k n := by
 unfold natK; split <;> rfl
def forceS (v : SV) (k : SV -> Prop) : Prop :=
 match v with
 | .junk => k .junk
 | .val v => k (.val v)
 | .kb true => k (.kb true)
 | .kb false => k (.kb false)
 | .loc i o => k (.loc i o)
 | .agg l => k (.agg l)
 | .tup l => k (.tup l)
 | .fn f caps => k (.fn f caps)
 | .lsl i o n c => k (.lsl i o n c)
theorem forceS_eq (v : SV) (k : SV -> Prop) : forceS v k = k v := by
 cases v with
 | kb b => cases b <;> rfl
 | _ => rfl
def forceL : List SV -> (List SV -> Prop) -> Prop
 | [], k => k []
 | a :: l, k => forceS a fun a' => forceL l fun l' => k (a' :: l')
theorem forceL_eq (l : List SV) (k : List SV -> Prop) : forceL l k = k l := by
 induction l generalizing k with
 | nil => rfl
 | cons a l ih => simp only [forceL, forceS_eq, ih]
def forceV (v : SV) (k : SV -> Prop) : Prop :=
 match v with
 | .agg l => forceL l fun l => k (.agg l)
 | .tup l => forceL l fun l => k (.tup l)
 | .fn f caps => forceL caps fun l => k (.fn f l)
 | v => forceS v k
theorem forceV_eq (v : SV) (k : SV -> Prop) : forceV v k = k v := by
 cases v <;> simp only [forceV, forceS_eq, forceL_eq]
def SV.of : Value -> SV
 | .bool b => .kb b
 | v => .val v
theorem SV.of_den (r : List Nat) (v : Value) : (SV.of v).den r = v := by cases v <;> rfl
def ev (fr : Fr) : Operand -> SV
 | .tmp t => fget fr t
 | .const v => SV.of v
 | .global g => .val (.pointer (some ⟨g, 0, none⟩))
 | .func f => .fn f []
def SV.junky : SV -> Bool
 | .junk => true
 | _ => false
def junkyL : List SV -> Bool
 | [] => false
 | a :: l => match a.junky with | true => true | false => junkyL l
def SV.cells : SV -> Option (List SV)
 | .junk => none
 | .agg l => some l
 | .tup _ => none
 | .val v => match v.oneCell' with | true => some [.val v] | false => match v with | .agg cs => some (cs.toList.map .val) | _ => none
 | v => some [v]
structure Need (p q : Prop) : Prop where
 c : p
 k : q
structure Branch (b : Bool) (p q : Prop) : Prop where
 t : b = true -> p
 f : b = false -> q
structure Both (p q : Prop) : Prop where
 l : p
 r : q
def kEq : IntKind -> IntKind -> Bool
 | .i8, .i8 | .i16, .i16 | .i32, .i32 | .i64, .i64 | .u8, .u8 | .u16, .u16 | .u32, .u32 | .u64, .u64 => true
 | _, _ => false
theorem kEq_eq {a b : IntKind} (h : kEq a b = true) : a = b := by cases a <;> cases b <;> first | rfl | cases h
def inK : IntKind -> Int -> Prop
 | .i8, z => -128 <= z /\ z <= 127
 | .i16, z => -32768 <= z /\ z <= 32767
 | .i32, z => -2147483648 <= z /\ z <= 2147483647
 | .i64, z => -9223372036854775808 <= z /\ z <= 9223372036854775807
 | .u8, z => 0 <= z /\ z <= 255
 | .u16, z => 0 <= z /\ z <= 65535
 | .u32, z => 0 <= z /\ z <= 4294967295
 | .u64, z => 0 <= z /\ z <= 18446744073709551615
theorem Need.ok {p q : Prop} (k : q) (c : p := by simp only [inK]; omega) : Need p q := ⟨c, k⟩
theorem wrap_in {k : IntKind} {z : Int} (h : inK k z) : k.wrap z = z := by
 cases k <;> simp only [inK] at h <;> simp [IntKind.wrap, IntKind.bits, IntKind.signed] <;> (try split) <;> omega
structure Wr (z : Int) (K : Int -> Prop) : Prop where
 h : K ((z + 9223372036854775808) % 18446744073709551616 - 9223372036854775808)
theorem Wr.fit {z : Int} {K : Int -> Prop} (h : -9223372036854775808 <= z /\ z <= 9223372036854775807) (k : K z) : Wr z K :=
 ⟨by rw [show (z + 9223372036854775808) % 18446744073709551616 - 9223372036854775808 = z by omega]; exact k⟩
def fit (wr : Bool) (k : IntKind) (z : Int) (K : Int -> Prop) : Prop :=
 match k, wr with
 | .u64, _ => K (z % 18446744073709551616)
 | .i64, true => Wr z K
 | k, _ => Need (inK k z) (K z)
theorem wrap_i64 (z : Int) : IntKind.wrap .i64 z = (z + 9223372036854775808) % 18446744073709551616 - 9223372036854775808 := by
 simp [IntKind.wrap, IntKind.bits, IntKind.signed]; split <;> omega
theorem fit_wrap {wr : Bool} {k : IntKind} {z : Int} {K : Int -> Prop} (h : fit wr k z K) : K (k.wrap z) := by
 cases k <;> cases wr <;> simp only [fit] at h
 case u64.false => simpa [IntKind.wrap, IntKind.bits, IntKind.signed] using h
 case u64.true => simpa [IntKind.wrap, IntKind.bits, IntKind.signed] using h
 case i64.true => rw [wrap_i64]; exact h.h
 all_goals rw [wrap_in h.1]; exact h.2
def fitC (wr : Bool) (s k : IntKind) (z : Int) (K : Int -> Prop) : Prop :=
 match s, k with
 | .u64, .i64 => K ((z + 9223372036854775808) % 18446744073709551616 - 9223372036854775808)
 | _, k => fit wr k z K
theorem fitC_wrap {wr : Bool} {s k : IntKind} {z : Int} {K : Int -> Prop} (h : fitC wr s k z K) : K (k.wrap z) := by
 unfold fitC at h;split at h
 ·have e : IntKind.wrap .i64 z = (z + 9223372036854775808) % 18446744073709551616 - 9223372036854775808 := by
   simp [IntKind.wrap, IntKind.bits, IntKind.signed]; split <;> omega
  rw [e]; exact h
 ·exact fit_wrap h
def binI (wr : Bool) (op : BinOp) (k : IntKind) (x y : Int) (K : SV -> Prop) : Prop :=
 match op with
 | .add => fit wr k (x + y) fun z => K (.val (.int k z))
 | .sub => fit wr k (x - y) fun z => K (.val (.int k z))
 | .mul => fit wr k (x * y) fun z => K (.val (.int k z))
 | .quo => Need (y ≠ 0 /\ inK k (x.tdiv y)) (K (.val (.int k (x.tdiv y))))
 | .rem => Need (y ≠ 0) (K (.val (.int k (x.tmod y))))
 | .shr => Need (0 <= y /\ y.toNat <= k.bits) (K (.val (.int k (x / 2 ^ y.toNat))))
 | .shl => Need (0 <= y /\ y.toNat <= k.bits /\ inK k (x * 2 ^ y.toNat)) (K (.val (.int k (x * 2 ^ y.toNat))))
 | .lss => K (.val (.bool (decide (x < y))))
 | .leq => K (.val (.bool (decide (x <= y))))
 | .gtr => K (.val (.bool (decide (y < x))))
 | .geq => K (.val (.bool (decide (y <= x))))
 | .eql => K (.val (.bool (decide (x = y))))
 | .neq => K (.val (.bool (decide (x ≠ y))))
 | .and => K (.val (.int k (bits .and k x y)))
 | .or => K (.val (.int k (bits .or k x y)))
 | .xor => K (.val (.int k (bits .xor k x y)))
 | .andNot => K (.val (.int k (bits .andNot k x y)))
theorem binI_sound {P : Program} {wr : Bool} {op : BinOp} {k : IntKind} {x y : Int} {K : SV -> Prop} (h : binI wr op k x y K) : ∃ v, K (.val v) /\ ∀ t w, (binOp op t (.int k x) (.int k y)).run P w = .ok v w := by
 cases op <;> simp only [binI] at h
 case add => exact ⟨_, fit_wrap h, fun t w => by simp [binOp, Op.intArith]⟩
 case sub => exact ⟨_, fit_wrap h, fun t w => by simp [binOp, Op.intArith]⟩
 case mul => exact ⟨_, fit_wrap h, fun t w => by simp [binOp, Op.intArith]⟩
 case quo => exact ⟨_, h.2, fun t w => by simp [binOp, Op.intDiv, wrap_in h.1.2, h.1.1]⟩
 case rem => exact ⟨_, h.2, fun t w => by simp [binOp, Op.intDiv, h.1]⟩
 case shr =>
  refine ⟨_, h.k, fun t w => ?_⟩;have h1 : ¬ y < 0 := by have := h.c.1; omega
  have h2 : min y.toNat k.bits = y.toNat := Nat.min_eq_left h.c.2;simp [binOp, Op.shift, h1, h2];rw [Int.fdiv_eq_ediv_of_nonneg];exact Int.le_of_lt (Int.pow_pos (by decide))
 case shl =>
  refine ⟨_, h.k, fun t w => ?_⟩;have h1 : ¬ y < 0 := by have := h.c.1; omega
  have h2 : min y.toNat k.bits = y.toNat := Nat.min_eq_left h.c.2.1;simp [binOp, Op.shift, h1, h2, wrap_in h.1.2.2]
 case lss => exact ⟨_, h, fun t w => by simp [binOp, Op.intCmp]⟩
 case leq => exact ⟨_, h, fun t w => by simp [binOp, Op.intCmp]⟩
 case gtr => exact ⟨_, h, fun t w => by simp [binOp, Op.intCmp]⟩
 case geq => exact ⟨_, h, fun t w => by simp [binOp, Op.intCmp]⟩
 case eql => exact ⟨_, h, fun t w => by simp [binOp, Op.intCmp]; rfl⟩
 case neq => exact ⟨_, h, fun t w => by simp [binOp, Op.intCmp]; exact Bool.eq_iff_iff.2 (by simp)⟩
 case and => exact ⟨_, h, fun t w => by rw [binOp_and, intBits_and]; rfl⟩
 case or => exact ⟨_, h, fun t w => by rw [binOp_or, intBits_or]; rfl⟩
 case xor => exact ⟨_, h, fun t w => by rw [binOp_xor, intBits_xor]; rfl⟩
 case andNot => exact ⟨_, h, fun t w => by rw [binOp_andNot, intBits_andNot]; rfl⟩
structure Base where
 W : World
 B : Nat
 le : B <= W.heap.size
structure At (w0 : Base) (hp : List LB) (r L : List Nat) (w : World) (w1 : World) : Prop where
 below : Below w0.B w0.W w1
 size : w.heap.size <= w1.heap.size
 step : ∀ k, k < w.heap.size -> k ∉ L -> w1.heap[k]? = w.heap[k]?
 blk : ∀ (i b : Nat) (c : LB), r[i]? = some b -> hget hp i = some c -> w1.heap[b]? = some (.cells (denL r c.cells).toArray c.ty (0, 0))
 fresh : ∀ b, b ∈ r -> w0.B <= b
 lt : ∀ b, b ∈ r -> b < w1.heap.size
 base : Below w0.B w0.W w
abbrev AtW (w0 : Base) (s : St) (w1 : World) : Prop := At w0 s.hp s.r s.L s.w w1
structure NewI (w0 : Base) (hp : List LB) (r L : List Nat) (w : World) (cs : List Value) (t : TypeId) (k : Nat -> Prop) (k2 : Nat -> World -> Prop) : Prop where
 of ::
 h : (∀ b, w.heap.size <= b -> k b) \/ (∀ w1, At w0 hp r L w w1 -> k2 w1.heap.size (w1.alloc (.cells cs.toArray t)))
theorem NewI.mk {w0 : Base} {hp : List LB} {r L : List Nat} {w : World} {cs : List Value} {t : TypeId} {k : Nat -> Prop} {k2 : Nat -> World -> Prop} (h : ∀ b, w.heap.size <= b -> k b) : NewI w0 hp r L w cs t k k2 := ⟨.inl h⟩
theorem NewI.frn {w0 : Base} {hp : List LB} {r L : List Nat} {w : World} {cs : List Value} {t : TypeId} {k : Nat -> Prop} {k2 : Nat -> World -> Prop} (h : ∀ w1, At w0 hp r L w w1 -> k2 w1.heap.size (w1.alloc (.cells cs.toArray t))) : NewI w0 hp r L w cs t k k2 := ⟨.inr h⟩
structure CallI (P : Program) (w0 : Base) (kp : List Nat -> World -> World -> Prop) (g : FuncId) (args : Array Value) (hp : List LB) (r L : List Nat) (w : World) (K : Value -> World -> Prop) : Prop where
 h : ∀ w1, At w0 hp r L w w1 -> Calls P g args w1 fun e w2 => kp r w1 w2 /\ ∃ v, e = .returned v /\ K v w2
structure GenV (P : Program) (w0 : Base) (kp : List Nat -> World -> World -> Prop) (m : Sem Value) (hp : List LB) (r L : List Nat) (w : World) (K : Value -> World -> Prop) : Prop where
 h : ∀ w1, At w0 hp r L w w1 -> ∃ v w2, m.run P w1 = .ok v w2 /\ kp r w1 w2 /\ K v w2
structure GenN (P : Program) (w0 : Base) (kp : List Nat -> World -> World -> Prop) (m : Sem Next) (hp : List LB) (r L : List Nat) (w : World) (K : Value -> World -> Prop) : Prop where
 h : ∀ w1, At w0 hp r L w w1 -> ∃ v w2, m.run P w1 = .ok (.value v) w2 /\ kp r w1 w2 /\ K v w2
structure GenU (P : Program) (w0 : Base) (kp : List Nat -> World -> World -> Prop) (m : Sem Unit) (hp : List LB) (r L : List Nat) (w : World) (K : World -> Prop) : Prop where
 h : ∀ w1, At w0 hp r L w w1 -> ∃ w2, m.run P w1 = .ok () w2 /\ kp r w1 w2 /\ K w2
structure IdxI (a : Option Addr) (i len : Int) (K : Addr -> Prop) : Prop where
 h : ∃ ad, (a = some ad /\ 0 <= i /\ i < len) /\ K ad
structure LoadI (w : World) (L : List Nat) (a : Addr) (K : Value -> Prop) : Prop where
 h : ∃ v, (w.cell? a = some v /\ a.block ∉ L) /\ K v
structure LoadA (w : World) (L : List Nat) (n : Nat) (a : Addr) (K : List Value -> Prop) : Prop where
 h : ∃ vs : List Value, (vs.length = n /\ 0 < n /\ a.block ∉ L /\ ∀ j c, vs[j]? = some c -> w.cell? (a.add j) = some c) /\ K vs
structure StoreI (w0 : Base) (kp : List Nat -> World -> World -> Prop) (a : Addr) (v : Value) (hp : List LB) (r L : List Nat) (w : World) (K : World -> Prop) : Prop where
 h : ∀ w1, At w0 hp r L w w1 -> ((∃ u, w1.cell? a = some u) /\ w1.frozen? a = false) /\ kp r w1 (w1.setCell a v) /\ K (w1.setCell a v)
structure StoreA (w0 : Base) (kp : List Nat -> World -> World -> Prop) (a : Addr) (vs : List Value) (hp : List LB) (r L : List Nat) (w : World) (K : World -> Prop) : Prop where
 h : ∀ w1, At w0 hp r L w w1 -> ∃ b o cs ty, a = ⟨b, o, none⟩ /\ w1.heap[b]? = some (.cells cs ty (0, 0)) /\ o + vs.length <= cs.size /\ kp r w1 (w1.setRow b (cs.toList.take o ++ vs ++ cs.toList.drop (o + vs.length)).toArray) /\ K (w1.setRow b (cs.toList.take o ++ vs ++ cs.toList.drop (o + vs.length)).toArray)
structure EndI (w0 : Base) (hp : List LB) (r L : List Nat) (w : World) (v : Value) (R : Value -> World -> Prop) : Prop where
 h : ∀ w1, At w0 hp r L w w1 -> R v w1
def Fits (ρ : List Nat) (fr : Fr) (tm : Array Value) : Prop :=
 tm.size = fr.length /\ ∀ t, fget fr t = .junk \/ tm.getD t undef = (fget fr t).den ρ
structure Rel (w0 : Base) (s : St) (a : Act) (w1 : World) : Prop where
 df : a.defers = s.df
 fits : ∀ t, Fits (s.r ++ t) s.fr a.tmps
 at_ : AtW w0 s w1
 blk : ∀ (t : List Nat) (i b : Nat) (c : LB), s.r[i]? = some b -> hget s.hp i = some c -> w1.heap[b]? = some (.cells (denL (s.r ++ t) c.cells).toArray c.ty (0, 0))
 nod : s.r.Nodup
 len : s.r.length = s.hp.length
structure TyOk (P : Program) (t : TypeId) (i : TI) : Prop where
 zero : ∀ w, (zeroValue t).run P w = .ok (if i.ag then .agg i.zero.toArray else i.zero.getD 0 undef) w
 size : ∀ w, (sizeOf t).run P w = .ok i.zero.length w
 agg : ∀ w, (isAgg t).run P w = .ok i.ag w
 one : i.ag = false -> i.zero.length = 1
 ones : ∀ v ∈ i.zero, v.oneCell' = true
structure CxOk (cx : Cx) : Prop where
 mix : cx.P.follows .mixedOrders = true
 T : ∀ t i, cx.T t = some i -> TyOk cx.P t i
 fld : ∀ t j off, cx.fld t j = some off -> ∀ a w, (Instr.fieldAt t (.pointer (some a)) j).run cx.P w = .ok (.pointer (some (a.add off))) w
 el : ∀ t sz, cx.el t = some sz -> ∃ e, cx.P.underlying t = some (.slice e) /\ ∀ w, (sizeOf e).run cx.P w = .ok sz w
 sl : ∀ t e i, cx.sl t = some (e, i) -> cx.P.underlying t = some (.slice e) /\ TyOk cx.P e i /\ 0 < i.zero.length /\ i.zero.length <= 64
 ik : ∀ t k, cx.ik t = some k -> cx.P.underlying t = some (.int k)
 bo : ∀ t, cx.bo t = true -> cx.P.underlying t = some .bool
 ar : ∀ t n sz, cx.ar t = some (n, sz) -> ∃ e, cx.P.underlying t = some (.array n e) /\ ∀ w, (sizeOf e).run cx.P w = .ok sz w
 fv : ∀ t j off size ag, cx.fv t j = some (off, size, ag) -> ∃ fs f, cx.P.underlying t = some (.struct fs) /\ fs[j]? = some f /\ f.offset = off /\ (∀ w, (sizeOf f.type).run cx.P w = .ok size w) /\ ∀ w, (isAgg f.type).run cx.P w = .ok ag w
 lay : ∀ t pl i, cx.lay t = some pl -> cx.T t = some i -> ∀ (parts : Array (Nat × Value)) cells w, Instr.fill (fun j => pl[j]?) i.zero.toArray parts.toList = some cells -> (Instr.build t parts).run cx.P w = .ok (.agg cells) w
 fn : ∀ g, cx.fn g = true -> Enters cx.P g
theorem Rel.ev {w0 : Base} {s : St} {a : Act} {w1 : World} (h : Rel w0 s a w1) (t : List Nat) (x : Operand) : ev s.fr x = .junk \/ a.eval x = (ev s.fr x).den (s.r ++ t) := by
 cases x with
 | tmp n => exact (h.fits t).2 n
 | const v => exact .inr (SV.of_den _ v).symm
 | global g => exact .inr rfl
 | func f => exact .inr rfl
theorem Rel.ev1 {w0 : Base} {s : St} {a : Act} {w1 : World} (h : Rel w0 s a w1) {x : Operand} {v : SV} (he : Eng.ev s.fr x = v) (hv : v ≠ .junk) (t : List Nat) : a.eval x = v.den (s.r ++ t) := by
 rcases h.ev t x with h1 | h1
 ·exact absurd (he ▸ h1) hv
 ·rw [h1, he]
theorem fget_fset (fr : Fr) (d t : Nat) (v : SV) : fget (fset fr d v) t = if d = t /\ d < fr.length then v else fget fr t := by
 induction fr generalizing d t with
 | nil => simp [fset, fget]
 | cons a l ih =>
   cases d with
   | zero => cases t <;> simp [fset, fget]
   | succ d => cases t with
     | zero => simp [fset, fget]
     | succ t => simp [fset, fget, ih]
theorem fset_length (fr : Fr) (d : Nat) (v : SV) : (fset fr d v).length = fr.length := by
 induction fr generalizing d with
 | nil => rfl
 | cons a l ih => cases d <;> simp [fset, ih]
def St.put (s : St) (d : Option Tmp) (v : SV) : St :=
 match d with
 | some d => { s with fr := fset s.fr d v }
 | none => s
def Is (r : List Nat) (v : Value) (sv : SV) : Prop := ∀ t, sv = .junk \/ v = sv.den (r ++ t)
theorem Rel.put {w0 : Base} {s : St} {a : Act} {w1 : World} (h : Rel w0 s a w1) (d : Option Tmp) {v : Value} {sv : SV} (hv : Is s.r v sv) : Rel w0 (s.put d sv) (a.put d v) w1 := by
 cases d with
 | none => exact h
 | some d =>
   refine ⟨h.df, fun t => ⟨by simp [Act.put, St.put, fset_length, (h.fits t).1], fun n => ?_⟩, ⟨h.at_.below, h.at_.size, h.at_.step, h.at_.blk, h.at_.fresh, h.at_.lt, h.at_.base⟩, h.blk, h.nod, h.len⟩;have h1 := (h.fits t).2 n;have hl := (h.fits t).1;show fget (fset s.fr d sv) n = .junk \/ (a.tmps.setIfInBounds d v).getD n undef = (fget (fset s.fr d sv) n).den (s.r ++ t);rw [fget_fset]
   by_cases hdn : d = n /\ d < s.fr.length
   ·rw [if_pos hdn]
    obtain ⟨rfl, hlt⟩ := hdn;rcases hv t with h2 | h2
    ·exact .inl h2
    ·right
     simp [Array.getD_eq_getD_getElem?, hl, hlt, h2]
   ·rw [if_neg hdn]
    rcases h1 with h1 | h1
    ·exact .inl h1
    ·right
     rw [<- h1]
     by_cases he : d = n
     ·subst he
      have hlt0 : ¬ d < s.fr.length := fun hlt => hdn ⟨rfl, hlt⟩;have hlt : ¬ d < a.tmps.size := by rw [hl]; exact hlt0
      simp [Array.getD_eq_getD_getElem?, hlt]
     ·simp [Array.getD_eq_getD_getElem?, Array.getElem?_setIfInBounds_ne he]
theorem denL_eq (r : List Nat) (l : List SV) : denL r l = l.map (SV.den r) := by
 induction l with
 | nil => rfl
 | cons a l ih => simp [denL, ih]
theorem denL_len (r : List Nat) (l : List SV) : (denL r l).length = l.length := by rw [denL_eq]; simp
def Keep (w0 : Base) (r : List Nat) (w1 w2 : World) : Prop := Below w0.B w1 w2 /\ ∀ b, b ∈ r -> w2.heap[b]? = w1.heap[b]?
theorem Rel.keep {w0 : Base} {s : St} {a : Act} {w1 w2 : World} (h : Rel w0 s a w1) (hk : Keep w0 s.r w1 w2) : Rel w0 { s with w := w2, L := [] } a w2 := by
 refine ⟨h.df, h.fits, ⟨h.at_.below.trans hk.1, Nat.le_refl _, fun k _ _ => rfl, fun i b c hi hc => ?_, h.at_.fresh, fun b hb => Nat.lt_of_lt_of_le (h.at_.lt b hb) hk.1.size, h.at_.below.trans hk.1⟩, fun t i b c hi hc => ?_, h.nod, h.len⟩
 ·rw [hk.2 b (List.mem_of_getElem? hi)]; exact h.at_.blk i b c hi hc
 ·rw [hk.2 b (List.mem_of_getElem? hi)]; exact h.blk t i b c hi hc
section
variable {w0 : Base} {hp : List LB} {r L : List Nat} {w w1 w2 : World}
theorem At.keep (h : At w0 hp r L w w1) (hb : Below w1.heap.size w1 w2) : Keep w0 r w1 w2 :=
 ⟨hb.mono (Nat.le_trans w0.le h.below.size), fun b hm => hb.block b (h.lt b hm)⟩
theorem At.block (h : At w0 hp r L w w1) {k : Nat} (hk : k < w.heap.size) (hL : k ∉ L) : w1.heap[k]? = w.heap[k]? := h.step k hk hL
theorem At.cell (h : At w0 hp r L w w1) {a : Addr} {v : Value} (hc : w.cell? a = some v) (hL : a.block ∉ L) : w1.cell? a = some v := by
 rw [<- hc]; exact World.cell?_of_block (h.step _ (World.block_lt_of_cell? _ _ hc) hL)
theorem At.own (h : At w0 hp r L w w1) {i b o : Nat} {c : LB} {v : SV} (hi : r[i]? = some b) (hc : hget hp i = some c) (hv : c.cells[o]? = some v) : w1.cell? ⟨b, o, none⟩ = some (v.den r) := by
 have h1 := h.blk i b c hi hc;simp only [World.cell?, h1];simp [denL_eq, hv]
theorem At.go (h : At w0 hp r [] w w1) : Below w.heap.size w w1 :=
 ⟨h.below.os.trans h.base.os.symm, h.below.tape.trans h.base.tape.symm, h.below.output.trans h.base.output.symm, h.size, fun k hk => h.step k hk (by simp)⟩
theorem At.step2 (h : At w0 hp r [] w w1) (hB : Below w1.heap.size w1 w2) : Below w.heap.size w w2 := h.go.trans (hB.mono h.size)
theorem At.from (h : At w0 hp r L w w1) {X : World} (hX : Below w0.B w0.W X) (hw : Below X.heap.size X w) (hL : ∀ b, b ∈ L -> X.heap.size <= b) : Below X.heap.size X w1 :=
 ⟨h.below.os.trans hX.os.symm, h.below.tape.trans hX.tape.symm, h.below.output.trans hX.output.symm, Nat.le_trans hw.size h.size, fun k hk => (h.step k (Nat.lt_of_lt_of_le hk hw.size) (fun e => by have := hL k e; omega)).trans (hw.block k hk)⟩
theorem keep_refl : Keep w0 r w1 w1 := ⟨Below.refl _ _, fun _ _ => rfl⟩
end
def lget : List SV -> Nat -> Option SV
 | [], _ => none
 | a :: _, 0 => some a
 | _ :: l, n + 1 => lget l n
def ltake : List SV -> Nat -> Option (List SV)
 | _, 0 => some []
 | [], _ + 1 => none
 | a :: l, n + 1 => match ltake l n with | some r => some (a :: r) | none => none
def lsub : List SV -> Nat -> Nat -> Option (List SV)
 | l, 0, n => ltake l n
 | [], _ + 1, _ => none
 | _ :: l, o + 1, n => lsub l o n
def setR : List SV -> Nat -> List SV -> List SV
 | cs, _, [] => cs
 | cs, o, v :: vs => setR (fset cs o v) (o + 1) vs
def SV.one : SV -> Bool
 | .val v => v.oneCell'
 | .kb _ => true
 | .loc _ _ => true
 | .fn _ _ => true
 | .lsl _ _ _ _ => true
 | _ => false
def oneL : List SV -> Bool
 | [] => true
 | a :: l => match a.one with | true => oneL l | false => false
def pget : List (Nat × Nat) -> Nat -> Option (Nat × Nat)
 | [], _ => none
 | a :: _, 0 => some a
 | _ :: l, n + 1 => pget l n
def bldS (pl : List (Nat × Nat)) (fr : Fr) : List (Nat × Operand) -> List SV -> Option (List SV)
 | [], cs => some cs
 | (j, x) :: rest, cs =>
   match pget pl j with
   | none => none
   | some (off, size) =>
     match (ev fr x).cells with
     | none => none
     | some vs =>
       match Nat.beq vs.length size, Nat.ble (off + vs.length) cs.length with
       | true, true => bldS pl fr rest (setR cs off vs)
       | _, _ => none
def shifts : BinOp -> Bool
 | .shl => true
 | .shr => true
 | _ => false
def plainOp : Op -> Bool
 | .select _ _ => false
 | .defer _ => false
 | _ => true
def genI (cx : Cx) (w0 : Base) (kp : List Nat -> World -> World -> Prop) (m : Sem Value) (s : St) (K : SV -> St -> Prop) : Prop :=
 s.on fun fr hp r L w df => GenV cx.P w0 kp m hp r L w fun v w2 => K (.val v) ⟨fr, hp, r, [], w2, df⟩
def genN (cx : Cx) (w0 : Base) (kp : List Nat -> World -> World -> Prop) (m : Sem Next) (s : St) (K : SV -> St -> Prop) : Prop :=
 s.on fun fr hp r L w df => GenN cx.P w0 kp m hp r L w fun v w2 => K (.val v) ⟨fr, hp, r, [], w2, df⟩
def genU (cx : Cx) (w0 : Base) (kp : List Nat -> World -> World -> Prop) (m : Sem Unit) (s : St) (K : SV -> St -> Prop) : Prop :=
 s.on fun fr hp r L w df => GenU cx.P w0 kp m hp r L w fun w2 => K (.val undef) ⟨fr, hp, r, [], w2, df⟩
def evK (s : St) (x : Operand) (k : Value -> Prop) : Prop :=
 match ev s.fr x with
 | .junk => False
 | v => denK s.r v k
def evO (s : St) (x : Option Operand) (k : Option Value -> Prop) : Prop :=
 match x with
 | none => k none
 | some x => evK s x fun v => k (some v)
def evL (s : St) : List Operand -> (List Value -> Prop) -> Prop
 | [], k => k []
 | x :: l, k => evK s x fun v => evL s l fun vs => k (v :: vs)
def gBin (cx : Cx) (w0 : Base) (kp : List Nat -> World -> World -> Prop) (op : BinOp) (t : TypeId) (x y : Operand) (s : St) (K : SV -> St -> Prop) : Prop :=
 evK s x fun vx => evK s y fun vy => genI cx w0 kp (do eqGuard op t x y vx vy; binOp op t vx vy) s K
def isConst : Operand -> Bool
 | .const _ => true
 | _ => false
def gBlt (cx : Cx) (w0 : Base) (kp : List Nat -> World -> World -> Prop) (b : Builtin) (c : Call) (ty : TypeId) (s : St) (K : SV -> St -> Prop) : Prop :=
 evL s c.args.toList fun vs => genN cx w0 kp (builtin b c.argTypes ty (c.args.map isConst) vs.toArray) s K
def zerosN (zs : List Value) : Nat -> List SV
 | 0 => []
 | n + 1 => zs.map SV.of ++ zerosN zs n
def placesN (size : Nat) : Nat -> Nat -> List (Nat × Nat)
 | _, 0 => []
 | i, n + 1 => (i * size, size) :: placesN size (i + 1) n
def callI (cx : Cx) (w0 : Base) (kp : List Nat -> World -> World -> Prop) (g : FuncId) (args : List SV) (s : St) (K : SV -> St -> Prop) : Prop :=
 s.on fun fr hp r L w df => denLK r args fun vs => CallI cx.P w0 kp g vs.toArray hp r L w fun v w2 => K (.val v) ⟨fr, hp, r, [], w2, df⟩
def callV (cx : Cx) (w0 : Base) (kp : List Nat -> World -> World -> Prop) (g : FuncId) (args : List SV) (first caps : Array Value) (s : St) (K : SV -> St -> Prop) : Prop :=
 s.on fun fr hp r L w df => denLK r args fun vs => CallI cx.P w0 kp g (first.toList ++ (vs ++ caps.toList)).toArray hp r L w fun v w2 => K (.val v) ⟨fr, hp, r, [], w2, df⟩
def newB (w0 : Base) (cs : List SV) (t : TypeId) (s : St) (K : St -> Prop) (K2 : Nat -> St -> Prop) : Prop :=
 s.on fun fr hp r L w df => denLK r cs fun vs => NewI w0 hp r L w vs t (fun b => forceL cs fun cs => force (hp ++ [⟨cs, t⟩]) fun hp => force (r ++ [b]) fun r => K ⟨fr, hp, r, L, w, df⟩) (fun b w2 => K2 b ⟨fr, hp, r, [], w2, df⟩)
def vget : List Value -> Nat -> Option Value
 | [], _ => none
 | a :: _, 0 => some a
 | _ :: l, n + 1 => vget l n
theorem vget_eq (l : List Value) (i : Nat) : vget l i = l[i]? := by
 induction l generalizing i with
 | nil => simp [vget]
 | cons a l ih => cases i <;> simp [vget, ih]
def boolD (cx : Cx) (op : BinOp) (t : TypeId) (a b : Bool) (K : SV -> Prop) (E : Prop) : Prop :=
 match cx.bo t, op with
 | true, .eql => K (.val (.bool (a == b)))
 | true, .neq => K (.val (.bool (!(a == b))))
 | _, _ => E
def bndD (x : Option SV) (d : Int) (K : Int -> Prop) (E : Prop) : Prop :=
 match x with
 | none => K d
 | some (.val (.int _ i)) => K i
 | _ => E
def oev (fr : Fr) (x : Option Operand) : Option SV := match x with | none => none | some x => some (ev fr x)
def sliB (fr : Fr) (lo hi mx : Option Operand) (len cap : Nat) (K : Int -> Int -> Int -> Prop) (E : Prop) : Prop :=
 match mx with
 | none => bndD (oev fr lo) 0 (fun l => bndD (oev fr hi) len (fun h => Need (0 <= l /\ l <= h /\ h <= (cap : Int)) (K l h cap)) E) E
 | some m => match hi with
   | none => E
   | some hi => bndD (oev fr lo) 0 (fun l => bndD (some (ev fr hi)) 0 (fun h => bndD (some (ev fr m)) 0 (fun m => Need (0 <= l /\ l <= h /\ h <= m /\ m <= (cap : Int)) (K l h m)) E) E) E
def offA (lo : Option Operand) (a : Option Addr) (l m sz : Nat) : Option Addr :=
 match lo with
 | none => a
 | some _ => if m = l then a else a.map (·.add (l * sz))
def offN (lo : Option Operand) (o l m sz : Nat) : Nat :=
 match lo with
 | none => o
 | some _ => if m = l then o else o + l * sz
def intsL : List SV -> Option (IntKind × List Int)
 | [] => none
 | [.val (.int k n)] => some (k, [n])
 | .val (.int k n) :: l => (match intsL l with | some (k', ns) => (match kEq k k' with | true => some (k, n :: ns) | false => none) | none => none)
 | _ => none
def minL : Int -> List Int -> Int
 | x, [] => x
 | x, y :: l => minL (if y < x then y else x) l
def maxL : Int -> List Int -> Int
 | x, [] => x
 | x, y :: l => maxL (if y > x then y else x) l
def pureD (cx : Cx) (op : Op) (fr : Fr) (K : SV -> Prop) (E : Prop) : Prop :=
 match op with
 | .move x => K (ev fr x)
 | .assign x => K (ev fr x)
 | .pick c x y =>
   (match ev fr c with
   | .kb true => K (ev fr x)
   | .kb false => K (ev fr y)
   | .val (.bool b) => Branch b (K (ev fr x)) (K (ev fr y))
   | _ => E)
 | .extract x i =>
   (match ev fr x with
   | .tup l => (match lget l i with | some v => K v | none => E)
   | .val (.tuple vs) => (match vget vs.toList i with | some v => K (.val v) | none => E)
   | _ => E)
 | .binOp op t x y u =>
   (match ev fr x, ev fr y with
   | .val (.int k a), .val (.int k' b) =>
     (match shifts op, kEq k k' with
     | false, false => E
     | _, _ => binI cx.wr op k a b K)
   | .val (.bool a), .val (.bool b) => boolD cx op t a b K E
   | .val (.bool a), .kb b => boolD cx op t a b K E
   | .kb a, .val (.bool b) => boolD cx op t a b K E
   | .kb a, .kb b => boolD cx op t a b K E
   | _, _ => E)
 | .unOp op t x =>
   (match op, ev fr x with
   | .not, .kb b => (match b with | true => K (.kb false) | false => K (.kb true))
   | .not, .val (.bool b) => K (.val (.bool (!b)))
   | .neg, .val (.int k n) => fit cx.wr k (-n) fun z => K (.val (.int k z))
   | _, _ => E)
 | .fieldAddr t x j =>
   (match cx.fld t j, ev fr x with
   | some off, .loc b o => K (.loc b (o + off))
   | some off, .val (.pointer (some a)) => K (.val (.pointer (some (a.add off))))
   | _, _ => E)
 | .build t parts =>
   (match cx.lay t, cx.T t with
   | some pl, some i => (match bldS pl fr parts.toList (i.zero.map SV.of) with | some cs => K (.agg cs) | none => E)
   | _, _ => E)
 | .nilCheck x =>
   (match ev fr x with
   | .loc b o => K (.loc b o)
   | .fn f caps => K (.fn f caps)
   | .val (.pointer (some a)) => K (.val (.pointer (some a)))
   | _ => E)
 | .makeFunc fn first captured =>
   (match fn, first.toList, junkyL (captured.toList.map (ev fr)) with
   | .func f, [], false => K (.fn f (captured.toList.map (ev fr)))
   | _, _, _ => E)
 | .indexAddr t x y =>
   (match cx.el t, ev fr x, ev fr y with
   | some sz, .val (.slice a len cap), .val (.int k i) => IdxI a i len fun a => K (.val (.pointer (some (a.add (i.toNat * sz)))))
   | some sz, .lsl b o len cap, .val (.int k i) => Need (0 <= i /\ i < (len : Int)) (K (.loc b (o + i.toNat * sz)))
   | none, .loc b o, .val (.int k i) => (match cx.ar t with | some (len, sz) => Need (0 <= i /\ i < (len : Int)) (K (.loc b (o + i.toNat * sz))) | none => E)
   | none, .val (.pointer (some a)), .val (.int k i) => (match cx.ar t with | some (len, sz) => Need (0 <= i /\ i < (len : Int)) (K (.val (.pointer (some (a.add (i.toNat * sz)))))) | none => E)
   | _, _, _ => E)
 | .slice t x lo hi mx =>
   (match cx.el t, ev fr x with
   | some sz, .val (.slice a len cap) => sliB fr lo hi mx len cap (fun l h m => K (.val (.slice (offA lo a l.toNat m.toNat sz) (h.toNat - l.toNat) (m.toNat - l.toNat)))) E
   | some sz, .lsl b o len cap => sliB fr lo hi mx len cap (fun l h m => K (.lsl b (offN lo o l.toNat m.toNat sz) (h.toNat - l.toNat) (m.toNat - l.toNat))) E
   | none, .loc b o => (match cx.ar t, mx with | some (n, sz), none => sliB fr lo hi none n n (fun l h m => K (.lsl b (offN lo o l.toNat m.toNat sz) (h.toNat - l.toNat) (m.toNat - l.toNat))) E | _, _ => E)
   | _, _ => E)
 | .field t x j =>
   (match cx.fv t j, ev fr x with
   | some (off, size, ag), .agg l => (match ag with
     | true => (match lsub l off size with | some l => K (.agg l) | none => E)
     | false => (match lget l off with | some v => K v | none => E))
   | _, _ => E)
 | .convert src dst x =>
   (match cx.ik src, cx.ik dst, ev fr x with
   | some s, some k, .val (.int _ n) => fitC cx.wr s k n fun z => K (.val (.int k z))
   | _, _, _ => E)
 | .call c =>
   (match c.callee with
   | .builtin b =>
     (match b, c.argTypes.toList, c.args.toList.map (ev fr) with
     | .len, [t], [.val (.slice a n m)] => (match cx.el t with | some _ => K (.val (.int .i64 n)) | none => E)
     | .len, [t], [.lsl _ _ n _] => (match cx.el t with | some _ => K (.val (.int .i64 n)) | none => E)
     | .min, _, l => (match intsL l with | some (k, n :: ns) => K (.val (.int k (minL n ns))) | _ => E)
     | .max, _, l => (match intsL l with | some (k, n :: ns) => K (.val (.int k (maxL n ns))) | _ => E)
     | _, _, _ => E)
   | _ => E)
 | _ => E
def callX (cx : Cx) (w0 : Base) (kp : List Nat -> World -> World -> Prop) (g : FuncId) (args : List SV) (s : St) (K : SV -> St -> Prop) : Prop :=
 s.on fun fr hp r L w df => denLK r args fun vs => GenN cx.P w0 kp (callFunc g vs.toArray) hp r L w fun v w2 => K (.val v) ⟨fr, hp, r, [], w2, df⟩
def loadD (cx : Cx) (w0 : Base) (t : TypeId) (x : Operand) (s : St) (K : SV -> St -> Prop) (E : Prop) : Prop :=
 match cx.T t, ev s.fr x with
 | some i, .loc b o =>
   (match hget s.hp b with
   | some lb =>
     (match i.ag with
     | false => (match lget lb.cells o with | some v => K v s | none => False)
     | true => (match lsub lb.cells o i.zero.length with | some l => K (.agg l) s | none => False))
   | none => False)
 | _, _ => E
def opD (cx : Cx) (w0 : Base) (kp : List Nat -> World -> World -> Prop) (o : Oper) (s : St) (K : SV -> St -> Prop) : Prop :=
 pureD cx o.op s.fr (fun v => K v s) <|
 match o.op with
 | .binOp op t x y u => gBin cx w0 kp op t x y s K
 | .unOp op t x => evK s x fun vx => genI cx w0 kp (Op.unary op vx) s K
 | .convert src dst x => evK s x fun vx => genI cx w0 kp (convert src dst vx) s K
 | .alloc t => (match cx.T t with | some i => natK s.hp.length fun m => newB w0 (i.zero.map SV.of) t s (fun s' => K (.loc m 0) s') (fun b s' => K (.val (.pointer (some ⟨b, 0, none⟩))) s') | none => False)
 | .box t x => (match (ev s.fr x).cells with | some cs => natK s.hp.length fun m => newB w0 cs t s (fun s' => K (.loc m 0) s') (fun b s' => K (.val (.pointer (some ⟨b, 0, none⟩))) s') | none => False)
 | .load t x =>
   loadD cx w0 t x s K (match cx.T t, ev s.fr x with
   | some i, .val (.pointer (some a)) =>
     (match i.ag with
     | false => s.on fun fr hp r L w df => LoadI w L a fun v => K (.val v) ⟨fr, hp, r, L, w, df⟩
     | true => s.on fun fr hp r L w df => LoadA w L i.zero.length a fun vs => K (.agg (vs.map .val)) ⟨fr, hp, r, L, w, df⟩)
   | _, _ => False)
 | .store t x y =>
   (match cx.T t, ev s.fr x, (ev s.fr y).cells with
   | some i, .loc b o, some vs =>
     (match hget s.hp b with
     | some lb =>
       (match Nat.beq vs.length i.zero.length, Nat.ble (o + vs.length) lb.cells.length, oneL vs with
       | true, true, true => s.on fun fr hp r L w df => forceL (setR lb.cells o vs) fun cs => force (hset hp b ⟨cs, lb.ty⟩) fun hp => rgetK r b fun g => K (.val undef) ⟨fr, hp, r, g :: L, w, df⟩
       | _, _, _ => False)
     | none => False)
   | some i, .val (.pointer (some a)), some vs =>
     (match i.ag, oneL vs with
     | false, true => s.on fun fr hp r L w df => denLK r vs fun vs => match vs with | [v] => StoreI w0 kp a v hp r L w fun w2 => K (.val undef) ⟨fr, hp, r, [], w2, df⟩ | _ => False
     | true, true => s.on fun fr hp r L w df => denLK r vs fun vs => Need (vs.length = i.zero.length) (StoreA w0 kp a vs hp r L w fun w2 => K (.val undef) ⟨fr, hp, r, [], w2, df⟩)
     | _, _ => False)
   | _, _, _ => False)
 | .call c =>
   (match c.callee with
   | .value f =>
     (match junkyL (c.args.toList.map (ev s.fr)), ev s.fr f with
     | false, .fn g caps => (match cx.fn g with | true => callI cx w0 kp g (c.args.toList.map (ev s.fr) ++ caps) s K | false => callX cx w0 kp g (c.args.toList.map (ev s.fr) ++ caps) s K)
     | false, .val (.func (.func g) first caps) => Need (Enters cx.P g) (callV cx w0 kp g (c.args.toList.map (ev s.fr)) first caps s K)
     | _, _ => False)
   | .builtin b => gBlt cx w0 kp b c o.type s K
   | _ => False)
 | .slice t x lo hi mx => evK s x fun vx => evO s lo fun l => evO s hi fun h => evO s mx fun m => genI cx w0 kp (Instr.sliceAt t vx l h m) s K
 | .makeFunc fn first captured => evL s first.toList fun fs => evL s captured.toList fun cs => genI cx w0 kp (Instr.makeFunc fn fs.toArray cs.toArray) s K
 | .makeSlice t x y => evK s x fun vx => evK s y fun vy => genI cx w0 kp (Instr.makeSlice t vx vy) s K
 | .index t x y => evK s x fun vx => evK s y fun vy => genI cx w0 kp (Instr.index t vx vy) s K
 | .field t x j => evK s x fun vx => genI cx w0 kp (Instr.field t vx j) s K
 | .lookup t x y ok => evK s x fun vx => evK s y fun vy => genI cx w0 kp (Instr.lookup t vx vy ok) s K
 | .mapUpdate t m k x => evK s m fun vm => evK s k fun vk => evK s x fun vx => genU cx w0 kp (Instr.mapUpdate t vm vk vx) s K
 | .insert t m k x => evK s m fun vm => evK s k fun vk => evK s x fun vx => genU cx w0 kp (Instr.mapUpdate t vm vk vx) s K
 | .makeMap t x => evO s x fun vx => genI cx w0 kp (Instr.makeMap t vx) s K
 | .range t x => evK s x fun vx => genI cx w0 kp (Instr.range t vx) s K
 | .next x str => evK s x fun vx => genI cx w0 kp (Instr.next vx str o.type) s K
 | .entry x => evK s x fun vx => genI cx w0 kp (Instr.entry vx) s K
 | .buildSlice t len parts =>
   (match cx.sl t, Nat.ble (len * 64) 16777216 with
   | some (e, i), true =>
     (match bldS (placesN i.zero.length 0 len) s.fr parts.toList (zerosN i.zero len) with
     | some cs => natK s.hp.length fun m => newB w0 cs e s (fun s' => K (.lsl m 0 len len) s') (fun _ _ => False)
     | none => False)
   | _, _ => False)
 | _ => False
section sound
variable {F : Fence} {n : Nat} {cx : Cx} {w0 : Base} {s : St} {a : Act} {w : World} {o : Oper} {next : Value -> World -> Prop} {Hd : World -> World -> Prop}
def OpRes (P : Program) (o : Oper) (a : Act) (w : World) (next : Value -> World -> Prop) : Prop :=
 plainOp o.op = true /\
 ((∃ v w', (execOp a.eval o).run P w = .ok (.value v) w' /\ next v w') \/ (∃ w', (execOp a.eval o).run P w = .ok .skip w' /\ next undef w') \/
  (∃ g args, (execOp a.eval o).run P w = .ok (.enter g args) w /\ Calls P g args w fun e w2 => ∃ v, e = .returned v /\ next v w2))
theorem wpIn_val {v : Value} {w' : World} (hnd : plainOp o.op = true) (h : (execOp a.eval o).run cx.P w = .ok (.value v) w') (hk : next v w') : OpRes cx.P o a w next :=
 ⟨hnd, .inl ⟨v, w', h, hk⟩⟩
theorem wpIn_skip' {w' : World} (hnd : plainOp o.op = true) (h : (execOp a.eval o).run cx.P w = .ok .skip w') (hk : next undef w') : OpRes cx.P o a w next :=
 ⟨hnd, .inr (.inl ⟨w', h, hk⟩)⟩
theorem OpRes.wpIn {P : Program} {Q : Exit -> Act -> World -> Prop} {K : Act -> World -> Prop} (h : OpRes P o a w next) (hF : ∀ f, F.fn f) (hd : F.depth = none)
 (hw : ∀ (n : Nat) g args w (R : Ending -> World -> Prop), Calls P g args w R -> CallsIn F n P g args w R) (hk : ∀ v w', next v w' -> K (a.put o.dst v) w') : o.wpIn F n P a w K Q := by
 obtain ⟨hp, h⟩ := h;refine ⟨fun f _ => hF f, ?_⟩;rw [Oper.semAt_eq _ _ _ (fun c e => by rw [e] at hp; cases hp)];rcases h with ⟨v, w', h, hn⟩ | ⟨w', h, hn⟩ | ⟨g, args, h, hc⟩
 ·rw [h]; exact hk v w' hn
 ·rw [h]; exact hk _ w' hn
 ·rw [h, Oper.uponIn_enter]
  refine ⟨fun e => (by rw [hd] at e; cases e), (hw _ _ _ _ _ hc).mono ?_⟩;rintro e w2 ⟨v, rfl, hn⟩;exact hk v w2 hn
theorem OpRes.wp {P : Program} {Q : Exit -> Act -> World -> Prop} {K : Act -> World -> Prop} (h : OpRes P o a w next) (hk : ∀ v w', next v w' -> K (a.put o.dst v) w') : o.wp P a w K Q := by
 obtain ⟨hp, h⟩ := h;unfold Oper.wp;rcases h with ⟨v, w', h, hn⟩ | ⟨w', h, hn⟩ | ⟨g, args, h, hc⟩
 ·rw [h]; exact hk v w' hn
 ·rw [h]; exact hk _ w' hn
 ·rw [h, Oper.upon_enter]
  refine hc.mono ?_;rintro e w2 ⟨v, rfl, hn⟩;exact hk v w2 hn
theorem junkyL_of {l : List SV} (h : junkyL l = false) : ∀ v ∈ l, v ≠ .junk := by
 induction l with
 | nil => intro v hv; cases hv
 | cons b l ih =>
   intro v hv;simp only [junkyL] at h;split at h
   ·cases h
   ·rename_i hb
    rcases List.mem_cons.1 hv with rfl | hv
    ·intro e; subst e; cases hb
    ·exact ih h v hv
theorem Rel.evs (h : Rel w0 s a w) {l : List Operand} (hl : junkyL (l.map (Eng.ev s.fr)) = false) (t : List Nat) : l.map a.eval = denL (s.r ++ t) (l.map (Eng.ev s.fr)) := by
 rw [denL_eq, List.map_map];refine List.map_congr_left fun x hx => ?_;exact h.ev1 rfl (junkyL_of hl _ (List.mem_map_of_mem hx)) t
theorem evK_sound (hR : Rel w0 s a w) {x : Operand} {k : Value -> Prop} (h : evK s x k) : k (a.eval x) /\ ∀ t, a.eval x = (Eng.ev s.fr x).den (s.r ++ t) := by
 unfold evK at h;split at h
 ·exact h.elim
 ·rename_i hj
  rw [denK_eq] at h;have h1 : ∀ t, a.eval x = (Eng.ev s.fr x).den (s.r ++ t) := hR.ev1 rfl hj;have h2 := h1 [];rw [List.append_nil] at h2;rw [h2];exact ⟨h, fun t => by rw [<- h2]; exact h1 t⟩
theorem evO_sound (hR : Rel w0 s a w) {x : Option Operand} {k : Option Value -> Prop} (h : evO s x k) : k (x.map a.eval) := by
 cases x with
 | none => exact h
 | some x => exact (evK_sound hR h).1
theorem evL_sound (hR : Rel w0 s a w) : ∀ {l : List Operand} {k : List Value -> Prop}, evL s l k -> k (l.map a.eval)
 | [], k, h => h
 | x :: l, k, h => by
   simp only [evL] at h;have h1 := (evK_sound hR h).1;exact evL_sound hR (l := l) (k := fun vs => k (a.eval x :: vs)) h1
theorem genI_sound {kp : List Nat -> World -> World -> Prop} (hkp : ∀ w2, kp s.r w w2 -> Keep w0 s.r w w2 /\ Hd w w2) {K : SV -> St -> Prop} {m : Sem Value} (h : genI cx w0 kp m s K) (hR : Rel w0 s a w) (hp : plainOp o.op = true) (hm : execOp a.eval o = (do pure (.value (<- m))))
 (hk : ∀ v sv s' w', K sv s' -> Rel w0 s' a w' -> Is s'.r v sv -> Hd w w' -> (s'.r = s.r \/ s'.r = s.r ++ [w.heap.size]) -> next v w') : OpRes cx.P o a w next := by
 unfold genI at h;rw [St.on_eq] at h;obtain ⟨v, w2, hrun, hkeep, hK⟩ := h.h w hR.at_;refine wpIn_val hp (v := v) (w' := w2) ?_ (hk v _ _ w2 hK (hR.keep (hkp _ hkeep).1) (fun _ => .inr rfl) (hkp _ hkeep).2 (.inl rfl));rw [hm]; simp [Sem.run_bind, hrun, Result.andThen]
theorem genN_sound {kp : List Nat -> World -> World -> Prop} (hkp : ∀ w2, kp s.r w w2 -> Keep w0 s.r w w2 /\ Hd w w2) {K : SV -> St -> Prop} {m : Sem Next} (h : genN cx w0 kp m s K) (hR : Rel w0 s a w) (hp : plainOp o.op = true) (hm : ∀ w, (execOp a.eval o).run cx.P w = m.run cx.P w)
 (hk : ∀ v sv s' w', K sv s' -> Rel w0 s' a w' -> Is s'.r v sv -> Hd w w' -> (s'.r = s.r \/ s'.r = s.r ++ [w.heap.size]) -> next v w') : OpRes cx.P o a w next := by
 unfold genN at h;rw [St.on_eq] at h;obtain ⟨v, w2, hrun, hkeep, hK⟩ := h.h w hR.at_;exact wpIn_val hp (v := v) (w' := w2) (by rw [hm]; exact hrun) (hk v _ _ w2 hK (hR.keep (hkp _ hkeep).1) (fun _ => .inr rfl) (hkp _ hkeep).2 (.inl rfl))
theorem genU_sound {kp : List Nat -> World -> World -> Prop} (hkp : ∀ w2, kp s.r w w2 -> Keep w0 s.r w w2 /\ Hd w w2) {K : SV -> St -> Prop} {m : Sem Unit} (h : genU cx w0 kp m s K) (hR : Rel w0 s a w) (hp : plainOp o.op = true) (hm : execOp a.eval o = (do m; pure .skip))
 (hk : ∀ v sv s' w', K sv s' -> Rel w0 s' a w' -> Is s'.r v sv -> Hd w w' -> (s'.r = s.r \/ s'.r = s.r ++ [w.heap.size]) -> next v w') : OpRes cx.P o a w next := by
 unfold genU at h;rw [St.on_eq] at h;obtain ⟨w2, hrun, hkeep, hK⟩ := h.h w hR.at_;refine wpIn_skip' hp (w' := w2) ?_ (hk undef (.val undef) _ w2 hK (hR.keep (hkp _ hkeep).1) (fun _ => .inr rfl) (hkp _ hkeep).2 (.inl rfl));rw [hm]; simp [Sem.run_bind, hrun, Result.andThen]
theorem callI_sound {kp : List Nat -> World -> World -> Prop} (hkp : ∀ w2, kp s.r w w2 -> Keep w0 s.r w w2 /\ Hd w w2) {K : SV -> St -> Prop} {g : FuncId} {args : List SV} (h : callI cx w0 kp g args s K) (hR : Rel w0 s a w)
 (hk : ∀ v sv s' w', K sv s' -> Rel w0 s' a w' -> Is s'.r v sv -> Hd w w' -> (s'.r = s.r \/ s'.r = s.r ++ [w.heap.size]) -> next v w') :
 Calls cx.P g (denL s.r args).toArray w fun e w2 => ∃ v, e = .returned v /\ next v w2 := by
 unfold callI at h;rw [St.on_eq, denLK_eq] at h;refine (h.h w hR.at_).mono ?_;rintro e w2 ⟨hkeep, v, rfl, hK⟩;exact ⟨v, rfl, hk v _ _ w2 hK (hR.keep (hkp _ hkeep).1) (fun _ => .inr rfl) (hkp _ hkeep).2 (.inl rfl)⟩
theorem callV_sound {kp : List Nat -> World -> World -> Prop} (hkp : ∀ w2, kp s.r w w2 -> Keep w0 s.r w w2 /\ Hd w w2) {K : SV -> St -> Prop} {g : FuncId} {args : List SV} {first caps : Array Value} (h : callV cx w0 kp g args first caps s K) (hR : Rel w0 s a w)
 (hk : ∀ v sv s' w', K sv s' -> Rel w0 s' a w' -> Is s'.r v sv -> Hd w w' -> (s'.r = s.r \/ s'.r = s.r ++ [w.heap.size]) -> next v w') :
 Calls cx.P g (first.toList ++ (denL s.r args ++ caps.toList)).toArray w fun e w2 => ∃ v, e = .returned v /\ next v w2 := by
 unfold callV at h;rw [St.on_eq, denLK_eq] at h;refine (h.h w hR.at_).mono ?_;rintro e w2 ⟨hkeep, v, rfl, hK⟩;exact ⟨v, rfl, hk v _ _ w2 hK (hR.keep (hkp _ hkeep).1) (fun _ => .inr rfl) (hkp _ hkeep).2 (.inl rfl)⟩
theorem lget_eq (l : List SV) (i : Nat) : lget l i = l[i]? := by
 induction l generalizing i with
 | nil => simp [lget]
 | cons a l ih => cases i <;> simp [lget, ih]
theorem hget_eq (l : List LB) (i : Nat) : hget l i = l[i]? := by
 induction l generalizing i with
 | nil => simp [hget]
 | cons a l ih => cases i <;> simp [hget, ih]
theorem hset_eq (l : List LB) (i : Nat) (v : LB) : hset l i v = l.set i v := by
 induction l generalizing i with
 | nil => simp [hset]
 | cons a l ih => cases i <;> simp [hset, ih]
theorem fset_eq (l : List SV) (i : Nat) (v : SV) : fset l i v = l.set i v := by
 induction l generalizing i with
 | nil => simp [fset]
 | cons a l ih => cases i <;> simp [fset, ih]
theorem ltake_eq {l : List SV} {n : Nat} {r : List SV} (h : ltake l n = some r) : r = l.take n /\ n <= l.length := by
 induction n generalizing l r with
 | zero => simp [ltake] at h; subst h; simp
 | succ n ih =>
   cases l with
   | nil => simp [ltake] at h
   | cons a l =>
     simp only [ltake] at h;split at h
     ·rename_i r' hr
      obtain ⟨h1, h2⟩ := ih hr;injection h with h; subst h; simp [h1, h2]
     ·cases h
theorem lsub_eq {l : List SV} {o n : Nat} {r : List SV} (h : lsub l o n = some r) : r.length = n /\ ∀ j v, r[j]? = some v -> l[o + j]? = some v := by
 induction o generalizing l with
 | zero =>
   cases l with
   | nil =>
     obtain ⟨rfl, h2⟩ := ltake_eq (l := []) (n := n) (by simpa [lsub] using h);have : n = 0 := by simpa using h2
     subst this; simp
   | cons b l =>
     obtain ⟨rfl, h2⟩ := ltake_eq (by simpa [lsub] using h);refine ⟨by simp only [List.length_take]; exact Nat.min_eq_left h2, fun j v hj => ?_⟩;rw [List.getElem?_take] at hj;split at hj
     ·simpa using hj
     ·cases hj
 | succ o ih =>
   cases l with
   | nil => simp [lsub] at h
   | cons b l =>
     obtain ⟨h1, h2⟩ := ih (l := l) (by simpa [lsub] using h);exact ⟨h1, fun j v hj => by rw [show o + 1 + j = (o + j) + 1 by omega]; simpa using h2 j v hj⟩
theorem getD_of {r : List Nat} {i b : Nat} (h : r[i]? = some b) (t : List Nat) : (r ++ t).getD i 0 = b := by
 have hl := (List.getElem?_eq_some_iff.1 h).1;rw [List.getD_eq_getElem?_getD, List.getElem?_append_left hl, h]; rfl
theorem Rel.has (h : Rel w0 s a w) {i : Nat} {lb : LB} (hi : hget s.hp i = some lb) : ∃ b, s.r[i]? = some b := by
 rw [hget_eq] at hi;have hl := (List.getElem?_eq_some_iff.1 hi).1;exact ⟨_, List.getElem?_eq_getElem (by rw [h.len]; exact hl)⟩
theorem Rel.cell (h : Rel w0 s a w) {i b o : Nat} {lb : LB} {v : SV} (hb : s.r[i]? = some b) (hi : hget s.hp i = some lb) (hv : lb.cells[o]? = some v) (t : List Nat) : w.cell? ⟨b, o, none⟩ = some (v.den (s.r ++ t)) := by
 have h1 := h.blk t i b lb hb hi;simp only [World.cell?, h1];simp [denL_eq, hv]
theorem addr_add (b o j : Nat) : (⟨b, o, none⟩ : Addr).add j = ⟨b, o + j, none⟩ := by
 unfold Addr.add; split <;> simp_all
theorem run_load_one {t : TypeId} {i : TI} (hT : TyOk cx.P t i) (hag : i.ag = false) {ad : Addr} {v : Value} (hc : w.cell? ad = some v) : (Instr.loadAt t (.pointer (some ad))).run cx.P w = .ok v w := by
 have h1 := hT.agg w;rw [hag] at h1;simp [Instr.loadAt, Instr.sureAddr, loadVar, Sem.run_bind, h1, Result.andThen, Go.load, Sem.run, hc]
theorem run_load_agg {t : TypeId} {i : TI} (hT : TyOk cx.P t i) (hag : i.ag = true) {ad : Addr} {vs : List Value} (hl : vs.length = i.zero.length) (hc : ∀ j c, vs[j]? = some c -> w.cell? (ad.add j) = some c) : (Instr.loadAt t (.pointer (some ad))).run cx.P w = .ok (.agg vs.toArray) w := by
 have h1 := hT.agg w;have h2 := hT.size w;rw [hag] at h1;have h3 := run_loadCells_list (P := cx.P) w ad vs hc;rw [hl] at h3;simp [Instr.loadAt, Instr.sureAddr, loadVar, Sem.run_bind, h1, h2, Result.andThen, h3]
theorem setR_eq (vs cs : List SV) (o : Nat) (h : o + vs.length <= cs.length) : setR cs o vs = cs.take o ++ vs ++ cs.drop (o + vs.length) := by
 induction vs generalizing cs o with
 | nil => simp [setR]
 | cons v vs ih =>
   simp only [setR, fset_eq];simp only [List.length_cons] at h;rw [ih _ _ (by simp; omega)];have h1 : (cs.set o v).take (o + 1) = cs.take o ++ [v] := by
    apply List.ext_getElem?;intro j;rcases Nat.lt_trichotomy j o with hj | hj | hj
    ·rw [List.getElem?_append_left (by simp; omega), List.getElem?_take, List.getElem?_take, if_pos (by omega), if_pos hj, List.getElem?_set_ne (by omega)]
    ·subst hj
     rw [List.getElem?_take, if_pos (by omega), List.getElem?_append_right (by simp; omega)];have h1 : min j cs.length = j := by omega
     simp [h1, show j < cs.length by omega]
    ·rw [List.getElem?_eq_none (by simp; omega), List.getElem?_eq_none (by simp; omega)]
   have h2 : (cs.set o v).drop (o + 1 + vs.length) = cs.drop (o + (vs.length + 1)) := by
    apply List.ext_getElem?;intro j;rw [List.getElem?_drop, List.getElem?_drop, List.getElem?_set_ne (by omega)]
    congr 1; omega
   rw [h1, h2];simp
theorem oneL_of {l : List SV} (h : oneL l = true) (r : List Nat) : ∀ v ∈ denL r l, v.oneCell' = true := by
 induction l with
 | nil => intro v hv; cases hv
 | cons b l ih =>
   simp only [oneL] at h;split at h
   ·rename_i hb
    intro v hv;simp only [denL, List.mem_cons] at hv;rcases hv with rfl | hv
    ·cases b <;> first | (cases hb; done) | exact hb | rfl
    ·exact ih h v hv
   ·cases h
theorem cells_den {sv : SV} {vs : List SV} (h : sv.cells = some vs) (r : List Nat) : (sv.den r).cells.toList = denL r vs := by
 cases sv with
 | junk => cases h
 | agg l => injection h with h; subst h; simp [SV.den, Value.cells]
 | tup l => cases h
 | kb b => injection h with h; subst h; rfl
 | loc i o => injection h with h; subst h; rfl
 | fn f c => injection h with h; subst h; rfl
 | lsl i o n c => injection h with h; subst h; rfl
 | val v =>
   simp only [SV.cells] at h;split at h
   ·rename_i h1
    injection h with h; subst h;cases v <;> first | rfl | (cases h1; done)
   ·split at h
    ·rename_i cs
     injection h with h; subst h;simp [SV.den, Value.cells, denL_eq, Function.comp_def]
    ·cases h
theorem SV.cells_ne_junk {sv : SV} {vs : List SV} (h : sv.cells = some vs) : sv ≠ .junk := by rintro rfl; cases h
theorem newB_sound (hR : Rel w0 s a w) {K : St -> Prop} {cs : List SV} {t : TypeId} {vs : Array Value} (hv : ∀ t, vs.toList = denL (s.r ++ t) cs) {K2 : Nat -> St -> Prop} (h : newB w0 cs t s K K2) :
 (K ⟨s.fr, s.hp ++ [⟨cs, t⟩], s.r ++ [w.heap.size], s.L, s.w, s.df⟩ /\ Rel w0 ⟨s.fr, s.hp ++ [⟨cs, t⟩], s.r ++ [w.heap.size], s.L, s.w, s.df⟩ a (w.alloc (.cells vs t)) /\
   Is (s.r ++ [w.heap.size]) (.pointer (some ⟨w.heap.size, 0, none⟩)) (.loc s.hp.length 0)) \/
 (K2 w.heap.size ⟨s.fr, s.hp, s.r, [], w.alloc (.cells vs t), s.df⟩ /\ Rel w0 ⟨s.fr, s.hp, s.r, [], w.alloc (.cells vs t), s.df⟩ a (w.alloc (.cells vs t))) := by
 unfold newB at h;rw [St.on_eq, denLK_eq] at h;rcases h.h with h | h
 case inr =>
  right;have e1 : (denL s.r cs).toArray = vs := by have := hv []; rw [List.append_nil] at this; rw [<- this]
  have h2 := h w hR.at_;rw [e1] at h2;exact ⟨h2, hR.keep ⟨(Below.refl _ _).alloc (Nat.le_trans w0.le hR.at_.below.size) _, fun b hb => Below.heap_alloc w _ b (hR.at_.lt b hb)⟩⟩
 left;have h1 := h w.heap.size hR.at_.size;simp only [forceL_eq, force_eq] at h1;have hnew : (w.alloc (.cells vs t)).heap[w.heap.size]? = some (.cells vs t (0, 0)) := World.alloc_heap_new w _;have hold : ∀ k, k < w.heap.size -> (w.alloc (.cells vs t)).heap[k]? = w.heap[k]? := fun k hk => Below.heap_alloc w _ k hk
 have blk : ∀ (u : List Nat) (i b : Nat) (c : LB), (s.r ++ [w.heap.size])[i]? = some b -> hget (s.hp ++ [⟨cs, t⟩]) i = some c ->
  (w.alloc (.cells vs t)).heap[b]? = some (.cells (denL (s.r ++ [w.heap.size] ++ u) c.cells).toArray c.ty (0, 0)) := by
  intro u i b c hi hc;rw [hget_eq] at hc;rcases Nat.lt_or_ge i s.r.length with hl | hl
  ·rw [List.getElem?_append_left hl] at hi
   rw [List.getElem?_append_left (by rw [<- hR.len]; exact hl)] at hc;rw [hold b (hR.at_.lt b (List.mem_of_getElem? hi)), List.append_assoc];exact hR.blk _ i b c hi (by rw [hget_eq]; exact hc)
  ·rw [List.getElem?_append_right hl] at hi
   rw [List.getElem?_append_right (by rw [<- hR.len]; exact hl)] at hc;rw [List.getElem?_singleton] at hi hc;split at hi
   ·injection hi with hi; subst hi
    split at hc
    ·injection hc with hc; subst hc
     rw [hnew, List.append_assoc, <- hv]
    ·cases hc
   ·cases hi
 refine ⟨h1, ⟨hR.df, fun u => by rw [List.append_assoc]; exact hR.fits _, ⟨hR.at_.below.alloc (Nat.le_trans w0.le hR.at_.below.size) _, Nat.le_trans hR.at_.size (by simp), fun k hk hm => ?_, fun i b c hi hc => ?_, fun b hb => ?_, fun b hb => ?_, hR.at_.base⟩, blk, ?_, by simp [hR.len]⟩, fun u => .inr ?_⟩
 ·rw [hold k (Nat.lt_of_lt_of_le hk hR.at_.size)]; exact hR.at_.step k hk hm
 ·have := blk [] i b c hi hc
  rwa [List.append_nil] at this
 ·rcases List.mem_append.1 hb with hb | hb
  ·exact hR.at_.fresh b hb
  ·rw [List.mem_singleton.1 hb]; exact (Nat.le_trans w0.le hR.at_.below.size)
 ·rcases List.mem_append.1 hb with hb | hb
  ·have := hR.at_.lt b hb; simp; omega
  ·rw [List.mem_singleton.1 hb]; simp
 ·exact List.nodup_append.2 ⟨hR.nod, by simp, fun x hx y hy => by rw [List.mem_singleton.1 hy]; exact Nat.ne_of_lt (hR.at_.lt x hx)⟩
 ·simp only [SV.den]
  rw [getD_of (i := s.hp.length) (b := w.heap.size) (by rw [<- hR.len]; simp)]
theorem run_store_loc {t : TypeId} {i : TI} (hT : TyOk cx.P t i) {b o : Nat} {cs : Array Value} {ty : TypeId} {v : Value} (hb : w.heap[b]? = some (.cells cs ty (0, 0))) (hs : v.cells.toList.length = i.zero.length) (ho : o + v.cells.toList.length <= cs.size)
 (h1 : ∀ u ∈ v.cells.toList, u.oneCell' = true) :
 (Instr.storeAt t (.pointer (some ⟨b, o, none⟩)) v).run cx.P w = .ok () (w.setRow b (cs.toList.take o ++ v.cells.toList ++ cs.toList.drop (o + v.cells.toList.length)).toArray) := by
 have h2 := hT.size w;have h3 := run_storeCells_at cx.P b o ty v.cells.toList 0 cs w hb (by simpa using ho) h1;have h4 : v.cells.size = i.zero.length := by simpa using hs
 simp [Instr.storeAt, Instr.sureAddr, storeVar, Sem.run_bind, h2, Result.andThen, h4]
 simpa [h4] using h3
def setV : List Value -> Nat -> List Value -> List Value
 | cs, _, [] => cs
 | cs, o, v :: vs => setV (cs.set o v) (o + 1) vs
theorem denL_setR (r : List Nat) (vs cs : List SV) (o : Nat) : denL r (setR cs o vs) = setV (denL r cs) o (denL r vs) := by
 induction vs generalizing cs o with
 | nil => rfl
 | cons v vs ih =>
   simp only [setR, denL, setV, ih, fset_eq]
   congr 1
   simp [denL_eq, List.map_set]
theorem foldl_setV (off : Nat) (vs : List Value) (k : Nat) (arr : Array Value) :
 (vs.zipIdx k).foldl (fun cs (x : Value × Nat) => cs.setIfInBounds (off + x.2) x.1) arr = (setV arr.toList (off + k) vs).toArray := by
 induction vs generalizing k arr with
 | nil => simp [setV]
 | cons v vs ih =>
   simp only [List.zipIdx_cons, List.foldl_cons, setV];rw [ih];simp [Nat.add_assoc]
theorem pget_eq (l : List (Nat × Nat)) (i : Nat) : pget l i = l[i]? := by
 induction l generalizing i with
 | nil => simp [pget]
 | cons a l ih => cases i <;> simp [pget, ih]
theorem bldS_sound (hR : Rel w0 s a w) (pl : List (Nat × Nat)) (t : List Nat) : ∀ (parts : List (Nat × Operand)) (cs cs' : List SV), bldS pl s.fr parts cs = some cs' ->
 Instr.fill (fun j => pl[j]?) (denL (s.r ++ t) cs).toArray (parts.map fun p => (p.1, a.eval p.2)) = some (denL (s.r ++ t) cs').toArray
 | [], cs, cs', h => by simp [bldS] at h; subst h; rfl
 | (j, x) :: rest, cs, cs', h => by
   simp only [bldS] at h;split at h
   ·cases h
   ·rename_i off size hp
    split at h
    ·cases h
    ·rename_i vs hvs
     split at h
     ·rename_i hb1 hb2
      have hx := hR.ev1 (x := x) rfl (SV.cells_ne_junk hvs) t;have hc := cells_den hvs (s.r ++ t);rw [<- hx] at hc;have hlen : (a.eval x).cells.size = vs.length := by rw [<- Array.length_toList, hc, denL_len]
      have h1 : vs.length = size := Nat.eq_of_beq_eq_true hb1;have h2 : off + vs.length <= cs.length := Nat.le_of_ble_eq_true hb2;have ih := bldS_sound hR pl t rest _ _ h;rw [pget_eq] at hp;simp only [List.map_cons, Instr.fill, hp];rw [if_neg (by simp [hlen, h1, denL_len]; omega)];rw [denL_setR] at ih;have h3 : (a.eval x).cells.zipIdx.foldl (fun cs (x : Value × Nat) => cs.setIfInBounds (off + x.2) x.1) (denL (s.r ++ t) cs).toArray = (setV (denL (s.r ++ t) cs) off (denL (s.r ++ t) vs)).toArray := by
       rw [<- Array.foldl_toList, Array.toList_zipIdx, hc]
       simpa using foldl_setV off (denL (s.r ++ t) vs) 0 (denL (s.r ++ t) cs).toArray
      rw [<- h3] at ih;exact ih
     ·cases h
theorem fill_le {p q : Nat -> Option (Nat × Nat)} (hpq : ∀ j x, p j = some x -> q j = some x) : ∀ (l : List (Nat × Value)) (cs cs' : Array Value), Instr.fill p cs l = some cs' -> Instr.fill q cs l = some cs'
 | [], cs, cs', h => h
 | (i, v) :: l, cs, cs', h => by
   simp only [Instr.fill] at h ⊢;split at h
   ·cases h
   ·rename_i off size hp
    rw [hpq _ _ hp];simp only;split at h
    ·cases h
    ·rename_i hc
     rw [if_neg hc];exact fill_le hpq l _ _ h
theorem zero_cells {P : Program} {t : TypeId} {i : TI} (h : TyOk P t i) : (if i.ag then Value.agg i.zero.toArray else i.zero.getD 0 undef).cells = i.zero.toArray := by
 cases hag : i.ag with
 | true => rfl
 | false =>
   obtain ⟨z, hz⟩ := List.length_eq_one_iff.1 (h.one hag);have ho := h.ones z (by rw [hz]; simp);rw [hz];cases z <;> first | rfl | (cases ho; done)
theorem denL_zerosN (r : List Nat) (zs : List Value) (n : Nat) : denL r (zerosN zs n) = (List.replicate n zs).flatten := by
 induction n with
 | zero => rfl
 | succ n ih =>
   have h1 : denL r (zs.map SV.of) = zs := by
    rw [denL_eq, List.map_map]
    conv => rhs; rw [<- List.map_id zs]
    exact List.map_congr_left fun x _ => SV.of_den _ x
   rw [denL_eq] at ih h1 ⊢;simp only [zerosN, List.map_append, List.replicate_succ, List.flatten_cons, ih, h1]
theorem placesN_get (size : Nat) : ∀ (n i j : Nat) (x : Nat × Nat), (placesN size i n)[j]? = some x -> x = ((i + j) * size, size)
 | 0, i, j, x, h => by simp [placesN] at h
 | n + 1, i, 0, x, h => by simp [placesN] at h; rw [<- h]; simp
 | n + 1, i, j + 1, x, h => by
   simp only [placesN, List.getElem?_cons_succ] at h;rw [placesN_get size n (i + 1) j x h, show i + 1 + j = i + (j + 1) by omega]
theorem range_flat (zs : List Value) (h : 0 < zs.length) (n : Nat) : (List.range (n * zs.length)).map (fun x => zs.toArray[x % zs.toArray.size]!) = (List.replicate n zs).flatten := by
 induction n with
 | zero => simp
 | succ n ih =>
   rw [List.replicate_succ, List.flatten_cons, <- ih, Nat.succ_mul, Nat.add_comm, List.range_add, List.map_append, List.map_map]
   congr 1
   ·apply List.ext_getElem?
    intro j;rw [List.getElem?_map];rcases Nat.lt_or_ge j zs.length with hj | hj
    ·rw [List.getElem?_range hj]
     simp [Nat.mod_eq_of_lt hj, hj]
    ·rw [List.getElem?_eq_none (by simpa using hj), List.getElem?_eq_none hj]; rfl
   ·refine List.map_congr_left fun x _ => ?_
    simp [Function.comp_def]
theorem run_equal_bool {P : Program} {t : TypeId} (hu : P.underlying t = some .bool) (a b : Bool) (w : World) : (Op.equal t (.bool a) (.bool b)).run P w = .ok (a == b) w := by
 obtain ⟨d, hd⟩ : ∃ d, Op.maxDepth = d + 1 := ⟨_, rfl⟩;unfold Op.equal;rw [hd];simp [Op.equalIn, run_underlying hu, Sem.run_bind, Result.andThen]
theorem run_bool_eq {P : Program} {t : TypeId} (hu : P.underlying t = some .bool) (a b : Bool) (w : World) : (binOp .eql t (.bool a) (.bool b)).run P w = .ok (.bool (a == b)) w := by
 have h1 : binOp .eql t (.bool a) (.bool b) = (do pure (.bool (<- Op.equal t (.bool a) (.bool b)))) := rfl;rw [h1];simp only [Sem.run_bind, run_equal_bool hu, Result.andThen, Sem.run_pure]
theorem run_bool_ne {P : Program} {t : TypeId} (hu : P.underlying t = some .bool) (a b : Bool) (w : World) : (binOp .neq t (.bool a) (.bool b)).run P w = .ok (.bool (!(a == b))) w := by
 have h1 : binOp .neq t (.bool a) (.bool b) = (do pure (.bool (!(<- Op.equal t (.bool a) (.bool b))))) := rfl;rw [h1];simp only [Sem.run_bind, run_equal_bool hu, Result.andThen, Sem.run_pure]
theorem run_sliceBound {P : Program} (k : IntKind) {i : Int} {y : Nat} (h : 0 <= i /\ i <= (y : Int)) (c : BoundsCode) (w : World) : (Instr.sliceBound (.int k i) y c).run P w = .ok i.toNat w := by
 simp [Instr.sliceBound, asIntOf, Sem.run_bind, Result.andThen, h]
theorem intsL_den {l : List SV} {k : IntKind} {ns : List Int} (h : intsL l = some (k, ns)) {r : List Nat} : denL r l = ns.map (Value.int k) := by
 induction l generalizing k ns with
 | nil => simp [intsL] at h
 | cons a l ih =>
   unfold intsL at h;split at h
   ·cases h
   ·rename_i e
    injection e with e1 e2;subst e1 e2;injection h with h; injection h with h1 h2;subst h1 h2
    rfl
   ·rename_i k0 n l' hne e
    injection e with e1 e2;subst e1 e2;split at h
    ·rename_i k' ns' hl
     split at h
     ·rename_i hk
      injection h with h; injection h with h1 h2;subst h1 h2;have := kEq_eq hk;subst this;simp only [denL, ih hl, List.map_cons]; rfl
     ·cases h
    ·cases h
   ·cases h
theorem intsL_junk {l : List SV} {k : IntKind} {ns : List Int} (h : intsL l = some (k, ns)) : junkyL l = false := by
 induction l generalizing k ns with
 | nil => rfl
 | cons a l ih =>
   unfold intsL at h;split at h
   ·cases h
   ·rename_i e
    injection e with e1 e2;subst e1 e2
    rfl
   ·rename_i k0 n l' hne e
    injection e with e1 e2;subst e1 e2;split at h
    ·rename_i k' ns' hl
     simp only [junkyL, SV.junky]; exact ih hl
    ·cases h
   ·cases h
theorem run_min {P : Program} (k : IntKind) (ns : List Int) : ∀ (n : Int) (w : World), (List.foldlM Builtin.min2 (.int k n) (ns.map (Value.int k))).run P w = .ok (.int k (minL n ns)) w := by
 induction ns with
 | nil => intro n w; simp [minL]
 | cons m ns ih => intro n w; simp [minL, Builtin.min2, Sem.run_bind, Result.andThen, ih]
theorem run_max {P : Program} (k : IntKind) (ns : List Int) : ∀ (n : Int) (w : World), (List.foldlM Builtin.max2 (.int k n) (ns.map (Value.int k))).run P w = .ok (.int k (maxL n ns)) w := by
 induction ns with
 | nil => intro n w; simp [maxL]
 | cons m ns ih => intro n w; simp [maxL, Builtin.max2, Sem.run_bind, Result.andThen, ih]
theorem pureD_sound (hcx : CxOk cx) {K : SV -> Prop} {E : Prop} (hR : Rel w0 s a w) (h : pureD cx o.op s.fr K E) :
 E \/ ∃ v sv, K sv /\ Is s.r v sv /\ plainOp o.op = true /\ ∀ w', (execOp a.eval o).run cx.P w' = .ok (.value v) w' := by
 obtain ⟨dst, op, ty, pos, after, guard⟩ := o
 have pure1 : ∀ sv, (∀ t w, (execOp a.eval (⟨dst, op, ty, pos, after, guard⟩ : Oper)).run cx.P w = .ok (.value (sv.den (s.r ++ t))) w) -> plainOp op = true -> K sv ->
  E \/ ∃ v sv, K sv /\ Is s.r v sv /\ plainOp op = true /\ ∀ w', (execOp a.eval (⟨dst, op, ty, pos, after, guard⟩ : Oper)).run cx.P w' = .ok (.value v) w' := fun sv h1 hp hK =>
  .inr ⟨_, sv, hK, fun t => .inr (by
   have h2 := (h1 [] w).symm.trans (h1 t w);injection h2 with h2 _;injection h2), hp, h1 []⟩
 cases op
 case move x =>
  exact .inr ⟨a.eval x, _, h, fun t => hR.ev t x, rfl, fun w' => by simp [execOp]⟩
 case assign x =>
  exact .inr ⟨a.eval x, _, h, fun t => hR.ev t x, rfl, fun w' => by simp [execOp]⟩
 case pick c x y =>
  simp only [pureD] at h;have key : ∀ b, a.eval c = .bool b -> K (Eng.ev s.fr (if b then x else y)) -> E \/ ∃ v sv, K sv /\ Is s.r v sv /\ plainOp (.pick c x y) = true /\ ∀ w', (execOp a.eval (⟨dst, .pick c x y, ty, pos, after, guard⟩ : Oper)).run cx.P w' = .ok (.value v) w' := fun b hb hK => by
   refine .inr ⟨a.eval (if b then x else y), _, hK, fun t => hR.ev t _, rfl, fun w' => ?_⟩;cases b <;> simp [execOp, hb, asBool, Sem.run_bind, Result.andThen] <;> rfl
  split at h
  ·rename_i hc; exact key true (hR.ev1 hc (by simp) []) h
  ·rename_i hc; exact key false (hR.ev1 hc (by simp) []) h
  ·rename_i b hc
   have hb := hR.ev1 hc (by simp) [];cases b
   ·exact key false hb (h.2 rfl)
   ·exact key true hb (h.1 rfl)
  ·exact .inl h
 case extract x i =>
  simp only [pureD] at h;split at h
  ·rename_i l hc
   split at h
   ·rename_i v hv
    rw [lget_eq] at hv;refine pure1 v (fun t w => ?_) rfl h;have hx := hR.ev1 hc (by simp) t;simp [execOp, hx, SV.den, Instr.extract, denL_eq, hv, Sem.run_bind, Result.andThen]
   ·exact .inl h
  ·rename_i vs hc
   split at h
   ·rename_i v hv
    rw [vget_eq, Array.getElem?_toList] at hv;refine pure1 _ (fun t w => ?_) rfl h;have hx := hR.ev1 hc (by simp) t;simp [execOp, hx, SV.den, Instr.extract, hv, Sem.run_bind, Result.andThen]
   ·exact .inl h
  ·exact .inl h
 case fieldAddr t x j =>
  simp only [pureD] at h;split at h
  ·rename_i off b o hf hx
   refine pure1 _ (fun t w => ?_) rfl h;have hx := hR.ev1 hx (by simp) t;simp only [SV.den] at hx;simp [execOp, hx, SV.den, hcx.fld _ _ _ hf, Sem.run_bind, Result.andThen, addr_add]
  ·rename_i off ad hf hx
   refine pure1 _ (fun t w => ?_) rfl h;have hx := hR.ev1 hx (by simp) t;simp only [SV.den] at hx;simp [execOp, hx, SV.den, hcx.fld _ _ _ hf, Sem.run_bind, Result.andThen]
  ·exact .inl h
 case nilCheck x =>
  simp only [pureD] at h;split at h
  ·rename_i b o hx
   refine pure1 _ (fun t w => ?_) rfl h;have hx := hR.ev1 hx (by simp) t;simp only [SV.den] at hx ⊢;simp [execOp, hx]
  ·rename_i f caps hx
   refine pure1 _ (fun t w => ?_) rfl h;have hx := hR.ev1 hx (by simp) t;simp only [SV.den] at hx ⊢;simp [execOp, hx]
  ·rename_i ad hx
   refine pure1 _ (fun t w => ?_) rfl h;have hx := hR.ev1 hx (by simp) t;simp only [SV.den] at hx ⊢;simp [execOp, hx]
  ·exact .inl h
 case makeFunc fn first captured =>
  simp only [pureD] at h;split at h
  ·rename_i f hfirst hj
   refine pure1 _ (fun t w => ?_) rfl h;have he := hR.evs hj t;have hfe : first = #[] := by simpa using hfirst
   subst hfe;have hce : captured.map a.eval = (denL (s.r ++ t) (List.map (Eng.ev s.fr) captured.toList)).toArray := by rw [<- he]; apply Array.ext'; simp
   simp [execOp, Instr.makeFunc, SV.den, Sem.run_bind, Result.andThen, hce]
  ·exact .inl h
 case unOp op t x =>
  simp only [pureD] at h;split at h
  ·rename_i b hx
   have hK : K (.kb !b) := by cases b <;> exact h
   refine pure1 _ (fun t w => ?_) rfl hK;have hx := hR.ev1 hx (by simp) t;simp only [SV.den] at hx ⊢;simp [execOp, hx, Op.unary, Sem.run_bind, Result.andThen]
  ·rename_i b hx
   refine pure1 _ (fun t w => ?_) rfl h;have hx := hR.ev1 hx (by simp) t;simp only [SV.den] at hx ⊢;simp [execOp, hx, Op.unary, Sem.run_bind, Result.andThen]
  ·rename_i k m hx
   refine pure1 _ (fun t w => ?_) rfl (fit_wrap h);have hx := hR.ev1 hx (by simp) t;simp only [SV.den] at hx ⊢;simp [execOp, hx, Op.unary, Op.intArith, Sem.run_bind, Result.andThen]
  ·exact .inl h
 case build t parts =>
  simp only [pureD] at h;split at h
  ·rename_i pl i hpl hi
   split at h
   ·rename_i cs hb
    refine pure1 _ (fun u w => ?_) rfl h;have h1 := bldS_sound hR pl u _ _ _ hb;have h2 : denL (s.r ++ u) (i.zero.map SV.of) = i.zero := by
     rw [denL_eq, List.map_map]
     conv => rhs; rw [<- List.map_id i.zero]
     exact List.map_congr_left fun x _ => SV.of_den _ x
    rw [h2] at h1;have h3 := hcx.lay t pl i hpl hi (parts.map fun p => (p.1, a.eval p.2)) _ w (by simpa using h1);simp [execOp, Sem.run_bind, h3, Result.andThen, SV.den]
   ·exact .inl h
  ·exact .inl h
 case indexAddr t x y =>
  simp only [pureD] at h;split at h
  ·rename_i sz ad len cap k i he hx hy
   obtain ⟨e, hu, hsz⟩ := hcx.el _ _ he;obtain ⟨ad, ⟨rfl, hi⟩, hK⟩ := h.h;refine pure1 _ (fun u w => ?_) rfl hK;have hx := hR.ev1 hx (by simp) u;have hy := hR.ev1 hy (by simp) u;simp only [SV.den] at hx hy ⊢;simp [execOp, hx, hy, Instr.indexAt, run_underlying hu, asIntOf, Sem.run_bind, Result.andThen, hi, hsz]
  ·rename_i sz b o len cap k i he hx hy
   obtain ⟨e, hu, hsz⟩ := hcx.el _ _ he;refine pure1 _ (fun u w => ?_) rfl h.k;have hx := hR.ev1 hx (by simp) u;have hy := hR.ev1 hy (by simp) u;simp only [SV.den] at hx hy ⊢;simp [execOp, hx, hy, Instr.indexAt, run_underlying hu, asIntOf, Sem.run_bind, Result.andThen, h.c, hsz, addr_add]
  ·rename_i b o k i he hx hy
   split at h
   ·rename_i len sz har
    obtain ⟨e, hu, hsz⟩ := hcx.ar _ _ _ har;refine pure1 _ (fun u w => ?_) rfl h.k;have hx := hR.ev1 hx (by simp) u;have hy := hR.ev1 hy (by simp) u;simp only [SV.den] at hx hy ⊢;simp [execOp, hx, hy, Instr.indexAt, Instr.sureAddr, run_underlying hu, asIntOf, Sem.run_bind, Result.andThen, h.c, hsz, addr_add]
   ·exact .inl h
  ·rename_i ad k i he hx hy
   split at h
   ·rename_i len sz har
    obtain ⟨e, hu, hsz⟩ := hcx.ar _ _ _ har;refine pure1 _ (fun u w => ?_) rfl h.k;have hx := hR.ev1 hx (by simp) u;have hy := hR.ev1 hy (by simp) u;simp only [SV.den] at hx hy ⊢;simp [execOp, hx, hy, Instr.indexAt, Instr.sureAddr, run_underlying hu, asIntOf, Sem.run_bind, Result.andThen, h.c, hsz]
   ·exact .inl h
  ·exact .inl h
 case slice t x lo hi mx =>
  simp only [pureD] at h;have bound : ∀ {x : Option Operand} {d : Int} {K' : Int -> Prop} {E : Prop}, bndD (oev s.fr x) d K' E -> E \/ ∃ i, K' i /\ ((x = none /\ i = d) \/ ∃ k, x.map a.eval = some (.int k i)) := fun {x} {d} {K'} {E} hb => by
   unfold bndD at hb;split at hb
   ·rename_i he
    cases x with
    | none => exact .inr ⟨d, hb, .inl ⟨rfl, rfl⟩⟩
    | some x => cases he
   ·rename_i k i he
    cases x with
    | none => cases he
    | some x =>
      simp only [oev] at he;injection he with he;exact .inr ⟨i, hb, .inr ⟨k, by rw [Option.map_some, hR.ev1 he (by simp) []]; rfl⟩⟩
   ·exact .inl hb
  -- the bounds, as the model reads them
  have three : ∀ (isS : Bool) (len cap : Nat) (K' : Int -> Int -> Int -> Prop), sliB s.fr lo hi mx len cap K' E -> E \/ ∃ l h m : Int, K' l h m /\ (lo = none -> l = 0) /\
   ∀ w, (Instr.sliceBounds isS len cap (lo.map a.eval) (hi.map a.eval) (mx.map a.eval)).run cx.P w = .ok (l.toNat, h.toNat, m.toNat) w := fun isS len cap K' hb => by
   unfold sliB at hb;split at hb
   ·rcases bound hb with hb | ⟨l, hb, hl⟩
    ·exact .inl hb
    rcases bound hb with hb | ⟨h, hb, hh⟩
    ·exact .inl hb
    obtain ⟨⟨h1, h2, h3⟩, hb⟩ := hb;refine .inr ⟨l, h, cap, hb, fun e => ?_, fun w => ?_⟩
    ·rcases hl with ⟨_, rfl⟩ | ⟨k, hk⟩
     ·rfl
     ·rw [e] at hk; cases hk
    have hl' : (lo.map a.eval = none /\ l = 0) \/ ∃ k, lo.map a.eval = some (.int k l) := hl.imp (fun ⟨x, y⟩ => ⟨by rw [x]; rfl, y⟩) id;have hh' : (hi.map a.eval = none /\ h = len) \/ ∃ k, hi.map a.eval = some (.int k h) := hh.imp (fun ⟨x, y⟩ => ⟨by rw [x]; rfl, y⟩) id;rw [Option.map_none];generalize lo.map a.eval = lo' at hl';generalize hi.map a.eval = hi' at hh';have r1 : ∀ (k : IntKind) (c : BoundsCode) w, (Instr.sliceBound (.int k l) h.toNat c).run cx.P w = .ok l.toNat w := fun k c w => run_sliceBound k ⟨h1, by omega⟩ c w;have r2 : ∀ (k : IntKind) (c : BoundsCode) w, (Instr.sliceBound (.int k h) cap c).run cx.P w = .ok h.toNat w := fun k c w => run_sliceBound k ⟨by omega, h3⟩ c w;rcases hh' with ⟨rfl, rfl⟩ | ⟨k, rfl⟩ <;> rcases hl' with ⟨rfl, rfl⟩ | ⟨k', rfl⟩ <;> simp only [Instr.sliceBounds, Sem.run_bind, Sem.run_pure, Result.andThen, r1, r2, Int.toNat_natCast, Int.toNat_zero]
    have r3 := run_sliceBound (P := cx.P) k' (i := l) (y := len) ⟨h1, by omega⟩ .sliceB w;simp only [Sem.run_bind, Sem.run_pure, Result.andThen, r3, Option.isSome_none, Bool.false_eq_true, if_false]
   ·rename_i mo
    split at hb
    ·exact .inl hb
    ·rename_i ho
     rcases bound hb with hb | ⟨l, hb, hl⟩
     ·exact .inl hb
     rcases bound (x := some ho) hb with hb | ⟨h, hb, hh⟩
     ·exact .inl hb
     rcases bound (x := some mo) hb with hb | ⟨m, hb, hm⟩
     ·exact .inl hb
     obtain ⟨⟨h1, h2, h3, h4⟩, hb⟩ := hb;refine .inr ⟨l, h, m, hb, fun e => ?_, fun w => ?_⟩
     ·rcases hl with ⟨_, rfl⟩ | ⟨k, hk⟩
      ·rfl
      ·rw [e] at hk; cases hk
     have hl' : (lo.map a.eval = none /\ l = 0) \/ ∃ k, lo.map a.eval = some (.int k l) := hl.imp (fun ⟨x, y⟩ => ⟨by rw [x]; rfl, y⟩) id;obtain ⟨k1, hk1⟩ : ∃ k, (some ho).map a.eval = some (.int k h) := hh.resolve_left (fun e => by cases e.1);obtain ⟨k2, hk2⟩ : ∃ k, (some mo).map a.eval = some (.int k m) := hm.resolve_left (fun e => by cases e.1);rw [hk1, hk2];generalize lo.map a.eval = lo' at hl';have r1 : ∀ (k : IntKind) (c : BoundsCode) w, (Instr.sliceBound (.int k l) h.toNat c).run cx.P w = .ok l.toNat w := fun k c w => run_sliceBound k ⟨h1, by omega⟩ c w;have r2 : ∀ (k : IntKind) (c : BoundsCode) w, (Instr.sliceBound (.int k h) m.toNat c).run cx.P w = .ok h.toNat w := fun k c w => run_sliceBound k ⟨by omega, by omega⟩ c w;have r4 : ∀ (k : IntKind) (c : BoundsCode) w, (Instr.sliceBound (.int k m) cap c).run cx.P w = .ok m.toNat w := fun k c w => run_sliceBound k ⟨by omega, h4⟩ c w;rcases hl' with ⟨rfl, rfl⟩ | ⟨k', rfl⟩ <;> simp only [Instr.sliceBounds, Sem.run_bind, Sem.run_pure, Result.andThen, r1, r2, r4, Int.toNat_zero]
  have oA : ∀ (ad : Option Addr) (l : Int) (m sz : Nat), (lo = none -> l = 0) -> (if m = l.toNat then ad else ad.map (·.add (l.toNat * sz))) = offA lo ad l.toNat m sz := fun ad l m sz hl => by
   unfold offA;cases lo with
   | some _ => rfl
   | none =>
     rw [hl rfl];have h0 : ∀ q : Addr, q.add 0 = q := fun q => by simp [Addr.add]
     simp [h0]
  have oN : ∀ (b o : Nat) (l : Int) (m sz : Nat), (lo = none -> l = 0) -> (if m = l.toNat then (some ⟨b, o, none⟩ : Option Addr) else (some (⟨b, o, none⟩ : Addr)).map (·.add (l.toNat * sz))) = some ⟨b, offN lo o l.toNat m sz, none⟩ := fun b o l m sz hl => by
   rw [oA _ _ _ _ hl];unfold offA offN;cases lo with
   | none => rfl
   | some _ => by_cases hm : m = l.toNat <;> simp [hm, addr_add]
  split at h
  ·rename_i sz ad len cap he hx
   obtain ⟨e, hu, hsz⟩ := hcx.el _ _ he;rcases three true len cap _ h with h | ⟨l, hh, m, h, hl, hrun⟩
   ·exact .inl h
   refine pure1 _ (fun u w => ?_) rfl h;have hx := hR.ev1 hx (by simp) u;simp only [SV.den] at hx ⊢;have e1 := oA ad l m.toNat sz hl;simp only [execOp, hx, Instr.sliceAt, Instr.slice, run_underlying hu, Sem.run_bind, hrun w, Result.andThen, hsz, Sem.run_pure];rw [e1]
  ·rename_i sz b o len cap he hx
   obtain ⟨e, hu, hsz⟩ := hcx.el _ _ he;rcases three true len cap _ h with h | ⟨l, hh, m, h, hl, hrun⟩
   ·exact .inl h
   refine pure1 _ (fun u w => ?_) rfl h;have hx := hR.ev1 hx (by simp) u;simp only [SV.den] at hx ⊢;have e1 := oN ((s.r ++ u).getD b 0) o l m.toNat sz hl;simp only [execOp, hx, Instr.sliceAt, Instr.slice, run_underlying hu, Sem.run_bind, hrun w, Result.andThen, hsz, Sem.run_pure];rw [e1]
  ·rename_i b o he hx
   split at h
   ·rename_i n sz har
    obtain ⟨e, hu, hsz⟩ := hcx.ar _ _ _ har;rcases three false n n _ h with h | ⟨l, hh, m, h, hl, hrun⟩
    ·exact .inl h
    refine pure1 _ (fun u w => ?_) rfl h;have hx := hR.ev1 hx (by simp) u;simp only [SV.den] at hx ⊢;have hrun' := hrun w;have e1 := oN ((s.r ++ u).getD b 0) o l m.toNat sz hl;simp only [execOp, hx, Instr.sliceAt, Instr.sureAddr, run_underlying hu, Sem.run_bind, hrun', Result.andThen, hsz, Sem.run_pure];have e2 : (some (if m.toNat = l.toNat then (⟨(s.r ++ u).getD b 0, o, none⟩ : Addr) else (⟨(s.r ++ u).getD b 0, o, none⟩ : Addr).add (l.toNat * sz))) = some ⟨(s.r ++ u).getD b 0, offN lo o l.toNat m.toNat sz, none⟩ := by
     rw [<- e1]
     by_cases hm : m.toNat = l.toNat <;> simp [hm]
    rw [e2]
   ·exact .inl h
  ·exact .inl h
 case field t x j =>
  simp only [pureD] at h;split at h
  ·rename_i off size ag l hf hx
   obtain ⟨fs, f, hu, hj, ho, hs, hag⟩ := hcx.fv _ _ _ _ _ hf;subst ho;split at h
   ·split at h
    ·rename_i l' hl
     refine pure1 _ (fun u w => ?_) rfl h;have hx := hR.ev1 hx (by simp) u;simp only [SV.den] at hx ⊢;obtain ⟨h1, h2⟩ := lsub_eq hl;have e1 : List.take size (List.drop f.offset (denL (s.r ++ u) l)) = denL (s.r ++ u) l' := by
      have hsz : l'.length = size := h1;have hle : f.offset + size <= l.length \/ size = 0 := by
       rcases Nat.eq_zero_or_pos size with h0 | h0
       ·exact .inr h0
       ·left
        have h3 := h2 (size - 1) (l'[size - 1]'(by omega)) (List.getElem?_eq_getElem _);have := (List.getElem?_eq_some_iff.1 h3).1;omega
      simp only [denL_eq];apply List.ext_getElem?;intro i;rcases Nat.lt_or_ge i size with hi | hi
      ·have h3 := h2 i (l'[i]'(by omega)) (List.getElem?_eq_getElem _)
       rw [List.getElem?_take, if_pos (by omega), List.getElem?_drop, List.getElem?_map, h3, List.getElem?_map, List.getElem?_eq_getElem (by omega)]
      ·rw [List.getElem?_eq_none (by simp; omega), List.getElem?_eq_none (by simp; omega)]
     simp [execOp, hx, Instr.field, run_underlying hu, hj, asAgg, part, hag, hs, Sem.run_bind, Result.andThen, e1]
    ·exact .inl h
   ·split at h
    ·rename_i v hv
     rw [lget_eq] at hv;refine pure1 _ (fun u w => ?_) rfl h;have hx := hR.ev1 hx (by simp) u;simp only [SV.den] at hx ⊢;simp [execOp, hx, Instr.field, run_underlying hu, hj, asAgg, part, hag, hs, Sem.run_bind, Result.andThen, denL_eq, hv]
    ·exact .inl h
  ·exact .inl h
 case convert src dstT x =>
  simp only [pureD] at h;split at h
  ·rename_i k0 k k1 m hs hdk hx
   refine pure1 _ (fun u w => ?_) rfl (fitC_wrap h);have hx := hR.ev1 hx (by simp) u;simp only [SV.den] at hx ⊢;simp [execOp, hx, convert, run_underlying (hcx.ik _ _ hs), run_underlying (hcx.ik _ _ hdk), Conv.intToInt, Sem.run_bind, Result.andThen]
  ·exact .inl h
 case binOp op t x y u =>
  simp only [pureD] at h;have bools : ∀ a0 b0 : Bool, a.eval x = .bool a0 -> a.eval y = .bool b0 -> boolD cx op t a0 b0 K E -> E \/ ∃ v sv, K sv /\ Is s.r v sv /\ plainOp (.binOp op t x y u) = true /\ ∀ w', (execOp a.eval (⟨dst, .binOp op t x y u, ty, pos, after, guard⟩ : Oper)).run cx.P w' = .ok (.value v) w' := fun a0 b0 hx hy hb => by
   unfold boolD at hb;have hg : ∀ w, (eqGuard op t x y (.bool a0) (.bool b0)).run cx.P w = .ok () w := fun w => by
    unfold eqGuard;cases op <;> simp [Sem.run_bind, Result.andThen]
   split at hb
   ·rename_i hbo
    have hu := hcx.bo _ hbo;refine pure1 _ (fun u w => ?_) rfl hb;simp [execOp, hx, hy, Sem.run_bind, hg, Result.andThen, run_bool_eq hu, SV.den]
   ·rename_i hbo
    have hu := hcx.bo _ hbo;refine pure1 _ (fun u w => ?_) rfl hb;simp [execOp, hx, hy, Sem.run_bind, hg, Result.andThen, run_bool_ne hu, SV.den]
   ·exact .inl hb
  split at h
  ·rename_i k a0 k' b0 hx hy
   have hx := hR.ev1 hx (by simp) [];have hy := hR.ev1 hy (by simp) [];simp only [SV.den] at hx hy;have key : (shifts op = true \/ k = k') -> binI cx.wr op k a0 b0 K -> E \/ ∃ v sv, K sv /\ Is s.r v sv /\ plainOp (.binOp op t x y u) = true /\ ∀ w', (execOp a.eval (⟨dst, .binOp op t x y u, ty, pos, after, guard⟩ : Oper)).run cx.P w' = .ok (.value v) w' := fun hs hb => by
    obtain ⟨v, hK, hrun⟩ := binI_sound (P := cx.P) hb;refine .inr ⟨v, _, hK, fun t => .inr rfl, rfl, fun w => ?_⟩;have hrun' : (binOp op t (.int k a0) (.int k' b0)).run cx.P w = .ok v w := by
     rcases hs with hs | rfl
     ·rw [<- hrun t w]; cases op <;> first | (cases hs; done) | simp [binOp, Op.shift]
     ·exact hrun t w
    have hg : (eqGuard op t x y (.int k a0) (.int k' b0)).run cx.P w = .ok () w := by
     unfold eqGuard;cases op <;> simp [Sem.run_bind, Result.andThen]
    simp [execOp, hx, hy, Sem.run_bind, hg, Result.andThen, hrun']
   cases hs : shifts op with
   | true => exact key (.inl hs) (by simpa [hs] using h)
   | false =>
     cases hkk : kEq k k' with
     | false => exact .inl (by simpa [hs, hkk] using h)
     | true => exact key (.inr (kEq_eq hkk)) (by simpa [hs, hkk] using h)
  ·rename_i a0 b0 hx hy; exact bools a0 b0 (hR.ev1 hx (by simp) []) (hR.ev1 hy (by simp) []) h
  ·rename_i a0 b0 hx hy; exact bools a0 b0 (hR.ev1 hx (by simp) []) (hR.ev1 hy (by simp) []) h
  ·rename_i a0 b0 hx hy; exact bools a0 b0 (hR.ev1 hx (by simp) []) (hR.ev1 hy (by simp) []) h
  ·rename_i a0 b0 hx hy; exact bools a0 b0 (hR.ev1 hx (by simp) []) (hR.ev1 hy (by simp) []) h
  ·exact .inl h
 case call c =>
  simp only [pureD] at h;split at h
  ·rename_i b hcal
   have lenCase : ∀ t m sv, c.argTypes.toList = [t] -> b = .len -> c.args.toList.map (Eng.ev s.fr) = [sv] -> (cx.el t).isSome = true -> (∀ u, ∃ a0 c0, sv.den (s.r ++ u) = .slice a0 m c0) -> sv ≠ .junk -> K (.val (.int .i64 m)) ->
    E \/ ∃ v sv, K sv /\ Is s.r v sv /\ plainOp (.call c) = true /\ ∀ w', (execOp a.eval (⟨dst, .call c, ty, pos, after, guard⟩ : Oper)).run cx.P w' = .ok (.value v) w' := fun t m sv ht hb he hel hs hj hK => by
    subst hb;obtain ⟨sz, hsz⟩ := Option.isSome_iff_exists.1 hel;obtain ⟨e, hu, _⟩ := hcx.el _ _ hsz;refine pure1 _ (fun u w => ?_) rfl hK;have hx : c.args.map a.eval = #[sv.den (s.r ++ u)] := by
     have h1 := hR.evs (l := c.args.toList) (by rw [he]; cases sv <;> first | rfl | exact absurd rfl hj) u;rw [he] at h1;apply Array.ext';rw [Array.toList_map, h1]; rfl
    have ht' : c.argTypes = #[t] := by apply Array.ext'; simpa using ht
    obtain ⟨a0, c0, hv⟩ := hs u;rw [hv] at hx;simp [execOp, resolve, hcal, hx, ht', invoke, builtin, Builtin.len_, run_underlying hu, goInt, SV.den, Sem.run_bind, Result.andThen]
   split at h
   ·rename_i t a0 m m0 ht ha
    split at h
    ·rename_i sz hsz
     exact lenCase t m _ ht rfl ha (by rw [hsz]; rfl) (fun u => ⟨_, _, rfl⟩) (by simp) h
    ·exact .inl h
   ·rename_i t i0 o0 m m0 ht ha
    split at h
    ·rename_i sz hsz
     exact lenCase t m _ ht rfl ha (by rw [hsz]; rfl) (fun u => ⟨_, _, rfl⟩) (by simp) h
    ·exact .inl h
   ·rename_i ha
    split at h
    ·rename_i k n ns hl
     have he := intsL_den (r := s.r ++ []) hl;have hx := hR.evs (l := c.args.toList) (intsL_junk hl) [];refine pure1 _ (fun u w => ?_) rfl h;have hx' : c.args.map a.eval = ((n :: ns).map (Value.int k)).toArray := by
      apply Array.ext';rw [Array.toList_map, hx, he]
     simp [execOp, resolve, hcal, hx', invoke, builtin, Builtin.min_, Sem.run_bind, Result.andThen, run_min, SV.den]
    ·exact .inl h
   ·rename_i ha
    split at h
    ·rename_i k n ns hl
     have he := intsL_den (r := s.r ++ []) hl;have hx := hR.evs (l := c.args.toList) (intsL_junk hl) [];refine pure1 _ (fun u w => ?_) rfl h;have hx' : c.args.map a.eval = ((n :: ns).map (Value.int k)).toArray := by
      apply Array.ext';rw [Array.toList_map, hx, he]
     simp [execOp, resolve, hcal, hx', invoke, builtin, Builtin.max_, Sem.run_bind, Result.andThen, run_max, SV.den]
    ·exact .inl h
   ·exact .inl h
  ·exact .inl h
 all_goals exact .inl h
theorem opD_sound (hcx : CxOk cx) {kp : List Nat -> World -> World -> Prop} (hkp : ∀ w2, kp s.r w w2 -> Keep w0 s.r w w2 /\ Hd w w2)
 (hH0 : ∀ w, Hd w w) (hHa : ∀ w o, Hd w (w.alloc o)) (hHs : ∀ t x y b off g cs, o.op = .store t x y -> Eng.ev s.fr x = .loc b off -> s.r[b]? = some g -> Hd w (w.setRow g cs))
 {K : SV -> St -> Prop} (h : opD cx w0 kp o s K) (hR : Rel w0 s a w)
 (hk : ∀ v sv s' w', K sv s' -> Rel w0 s' a w' -> Is s'.r v sv -> Hd w w' -> (s'.r = s.r \/ s'.r = s.r ++ [w.heap.size]) -> next v w') : OpRes cx.P o a w next := by
 have h0 := pureD_sound hcx hR h;clear h;rcases h0 with h | ⟨v, sv, hK, hv, hp, hrun⟩
 case inr => exact wpIn_val hp (hrun w) (hk v sv s w hK hR hv (hH0 w) (.inl rfl))
 obtain ⟨dst, op, ty, pos, after, guard⟩ := o
 have pure1 : ∀ sv, (∀ t, (execOp a.eval (⟨dst, op, ty, pos, after, guard⟩ : Oper)).run cx.P w = .ok (.value (sv.den (s.r ++ t))) w) -> plainOp op = true -> K sv s ->
  OpRes cx.P ⟨dst, op, ty, pos, after, guard⟩ a w next := fun sv h1 hp hK => wpIn_val hp (h1 []) (hk _ sv s w hK hR (fun t => .inr (by
   have h2 := (h1 []).symm.trans (h1 t);injection h2 with h2 _;injection h2)) (hH0 w) (.inl rfl))
 cases op
 case binOp op t x y u => exact genI_sound hkp (evK_sound hR (evK_sound hR h).1).1 hR rfl rfl hk
 case unOp op t x => exact genI_sound hkp (evK_sound hR h).1 hR rfl rfl hk
 case convert src dstT x => exact genI_sound hkp (evK_sound hR h).1 hR rfl rfl hk
 case alloc t =>
  simp only at h;split at h
  ·rename_i i hi
   have hT := hcx.T _ _ hi;have hz : ∀ u, (if i.ag then Value.agg i.zero.toArray else i.zero.getD 0 undef).cells.toList = denL (s.r ++ u) (i.zero.map SV.of) := fun u => by
    have h1 : denL (s.r ++ u) (i.zero.map SV.of) = i.zero := by
     rw [denL_eq, List.map_map]
     conv => rhs; rw [<- List.map_id i.zero]
     exact List.map_congr_left fun x _ => SV.of_den _ x
    rw [h1];cases hag : i.ag with
    | true => simp [Value.cells]
    | false =>
      obtain ⟨z, hz⟩ := List.length_eq_one_iff.1 (hT.one hag);have ho := hT.ones z (by rw [hz]; simp);rw [hz];cases z <;> first | rfl | (cases ho; done)
   rw [natK_eq] at h;rcases newB_sound hR hz h with ⟨h1, h2, h3⟩ | ⟨h1, h2⟩
   ·refine wpIn_val rfl (v := .pointer (some ⟨w.heap.size, 0, none⟩)) (w' := w.alloc (.cells (if i.ag then Value.agg i.zero.toArray else i.zero.getD 0 undef).cells t)) ?_ (hk _ _ _ _ h1 h2 h3 (hHa _ _) (.inr rfl))
    have hz0 := hT.zero w;simp [execOp, Instr.alloc, Sem.run_bind, hz0, Result.andThen, newVar, newRow]
   ·refine wpIn_val rfl (v := .pointer (some ⟨w.heap.size, 0, none⟩)) (w' := w.alloc (.cells (if i.ag then Value.agg i.zero.toArray else i.zero.getD 0 undef).cells t)) ?_ (hk _ _ _ _ h1 h2 (fun _ => .inr rfl) (hHa _ _) (.inl rfl))
    have hz0 := hT.zero w;simp [execOp, Instr.alloc, Sem.run_bind, hz0, Result.andThen, newVar, newRow]
  ·exact h.elim
 case box t x =>
  simp only at h;split at h
  ·rename_i cs hcs
   rw [natK_eq] at h;rcases newB_sound hR (vs := (a.eval x).cells) (fun u => by rw [hR.ev1 rfl (SV.cells_ne_junk hcs) u]; exact cells_den hcs _) h with ⟨h1, h2, h3⟩ | ⟨h1, h2⟩
   ·refine wpIn_val rfl (v := .pointer (some ⟨w.heap.size, 0, none⟩)) (w' := w.alloc (.cells (a.eval x).cells t)) ?_ (hk _ _ _ _ h1 h2 h3 (hHa _ _) (.inr rfl))
    simp [execOp, Instr.box, Sem.run_bind, Result.andThen, newVar, newRow]
   ·refine wpIn_val rfl (v := .pointer (some ⟨w.heap.size, 0, none⟩)) (w' := w.alloc (.cells (a.eval x).cells t)) ?_ (hk _ _ _ _ h1 h2 (fun _ => .inr rfl) (hHa _ _) (.inl rfl))
    simp [execOp, Instr.box, Sem.run_bind, Result.andThen, newVar, newRow]
  ·exact h.elim
 case load t x =>
  simp only [loadD] at h;split at h
  ·rename_i i b o hi hx
   have hT := hcx.T _ _ hi;split at h
   ·rename_i lb hlb
    obtain ⟨g, hg⟩ := hR.has hlb;have ha : ∀ u, a.eval x = .pointer (some ⟨g, o, none⟩) := fun u => by
     have := hR.ev1 hx (by simp) u;simp only [SV.den] at this
     rwa [getD_of hg] at this
    split at h
    ·rename_i hag
     split at h
     ·rename_i v hv
      rw [lget_eq] at hv;refine pure1 _ (fun u => ?_) rfl h;have h1 := run_load_one (w := w) hT hag (hR.cell hg hlb hv u);simp [execOp, ha u, Sem.run_bind, h1, Result.andThen]
     ·exact h.elim
    ·rename_i hag
     split at h
     ·rename_i l hl
      obtain ⟨hll, hlc⟩ := lsub_eq hl;refine pure1 _ (fun u => ?_) rfl h
      have h1 := run_load_agg (w := w) hT hag (ad := ⟨g, o, none⟩) (vs := denL (s.r ++ u) l) (by rw [denL_len, hll]) (fun j c hj => by
       rw [denL_eq, List.getElem?_map] at hj;cases hlj : l[j]? with
       | none => rw [hlj] at hj; cases hj
       | some z =>
         rw [hlj] at hj;injection hj with hj; subst hj;rw [addr_add];exact hR.cell hg hlb (hlc j z hlj) u)
      simp [execOp, ha u, Sem.run_bind, h1, Result.andThen, SV.den]
     ·exact h.elim
   ·exact h.elim
  ·split at h
   ·rename_i i ad hi hx
    have hT := hcx.T _ _ hi;have ha := hR.ev1 hx (by simp) [];simp only [SV.den] at ha;split at h
    ·rename_i hag
     rw [St.on_eq] at h;obtain ⟨v, ⟨hv, hm⟩, hK⟩ := h.h;refine wpIn_val rfl (v := v) (w' := w) ?_ (hk _ _ _ _ hK hR (fun u => .inr rfl) (hH0 w) (.inl rfl));simp [execOp, ha, Sem.run_bind, run_load_one (w := w) hT hag (hR.at_.cell hv hm), Result.andThen]
    ·rename_i hag
     rw [St.on_eq] at h;obtain ⟨vs, ⟨hl, _, hm, hc⟩, hK⟩ := h.h;have hblk : ∀ j, (ad.add j).block = ad.block := fun j => by unfold Addr.add; split <;> rfl
     refine wpIn_val rfl (v := .agg vs.toArray) (w' := w) ?_ (hk _ _ _ _ hK hR (fun u => .inr ?_) (hH0 w) (.inl rfl))
     ·simp [execOp, ha, Sem.run_bind, run_load_agg (w := w) hT hag hl (fun j c hj => hR.at_.cell (hc j c hj) (by rw [hblk]; exact hm)), Result.andThen]
     ·simp [SV.den, denL_eq, Function.comp_def]
   ·exact h.elim
 case store t x y =>
  simp only at h;split at h
  ·rename_i i b o vs hi hx hvs
   have hT := hcx.T _ _ hi;split at h
   ·rename_i lb hlb
    obtain ⟨g, hg⟩ := hR.has hlb;split at h
    ·rename_i h1 h2 h3
     have h1 := Nat.eq_of_beq_eq_true h1;have h2 := Nat.le_of_ble_eq_true h2;simp only [St.on_eq, forceL_eq, force_eq, rgetK_eq] at h;have ha : a.eval x = .pointer (some ⟨g, o, none⟩) := by
      have := hR.ev1 hx (by simp) [];simp only [SV.den] at this
      rwa [getD_of hg] at this
     have hy : ∀ u, (a.eval y).cells.toList = denL (s.r ++ u) vs := fun u => by
      rw [hR.ev1 rfl (SV.cells_ne_junk hvs) u]; exact cells_den hvs _
     have hb := fun u => hR.blk u _ _ _ hg hlb;have hL : ∀ u, (denL (s.r ++ u) lb.cells).take o ++ denL (s.r ++ u) vs ++ (denL (s.r ++ u) lb.cells).drop (o + vs.length) = denL (s.r ++ u) (setR lb.cells o vs) := fun u => by
      rw [setR_eq _ _ _ h2];simp [denL_eq, List.map_append, List.map_take, List.map_drop]
     have hst := run_store_loc (w := w) hT (hb []) (v := a.eval y) (by rw [hy []]; simpa [denL_len] using h1) (by rw [hy []]; simpa [denL_len] using h2) (by rw [hy []]; exact oneL_of h3 _);rw [hy []] at hst;simp only [denL_len] at hst;rw [hL []] at hst;have hglt := hR.at_.lt g (List.mem_of_getElem? hg);have hw0 := hR.at_.fresh g (List.mem_of_getElem? hg);have hgd : s.r.getD b 0 = g := by have := getD_of hg []; rwa [List.append_nil] at this
     have blk : ∀ (u : List Nat) (j b' : Nat) (c : LB), s.r[j]? = some b' -> hget (hset s.hp b ⟨setR lb.cells o vs, lb.ty⟩) j = some c ->
      (w.setRow g (denL (s.r ++ []) (setR lb.cells o vs)).toArray).heap[b']? = some (.cells (denL (s.r ++ u) c.cells).toArray c.ty (0, 0)) := by
      intro u j b' c hj hc;rw [hget_eq, hset_eq] at hc
      by_cases hjb : b = j
      ·subst hjb
       rw [hg] at hj; injection hj with hj; subst hj;rw [List.getElem?_set_self (by rw [hget_eq] at hlb; exact (List.getElem?_eq_some_iff.1 hlb).1)] at hc;injection hc with hc; subst hc;rw [setRow_heap w g _ _ _ _ (hb [])];have : denL (s.r ++ []) (setR lb.cells o vs) = denL (s.r ++ u) (setR lb.cells o vs) := by
        rw [<- hL [], <- hL u, <- hy [], <- hy u];have e1 := (hb []).symm.trans (hb u);injection e1 with e1;injection e1 with e1 _;rw [show denL (s.r ++ []) lb.cells = denL (s.r ++ u) lb.cells from by simpa using e1]
       rw [this]
      ·rw [List.getElem?_set_ne hjb] at hc
       have hne : b' ≠ g := fun e => by
        subst e;exact hjb ((List.getElem?_inj (List.getElem?_eq_some_iff.1 hg).1 hR.nod).1 (hg.trans hj.symm))
       rw [setRow_other w g b' _ hne];exact hR.blk u j b' c hj (by rw [hget_eq]; exact hc)
     refine wpIn_skip' rfl (w' := w.setRow g (denL (s.r ++ []) (setR lb.cells o vs)).toArray) ?_ (hk undef (.val undef) _ _ h ⟨hR.df, hR.fits, ⟨below_setRow hR.at_.below hw0 _, by simpa using hR.at_.size, fun k hk' hm => ?_, fun j b' c hj hc => ?_, hR.at_.fresh, fun b' hb' => by simpa using hR.at_.lt b' hb', hR.at_.base⟩, blk, hR.nod, by rw [hset_eq]; simpa using hR.len⟩ (fun u => .inr rfl) (hHs _ _ _ _ _ _ _ rfl hx hg) (.inl rfl))
     ·simp [execOp, ha, Sem.run_bind, hst, Result.andThen]
     ·rw [hgd] at hm
      have hm' : ¬ (k = g \/ k ∈ s.L) := fun e => hm (List.mem_cons.2 e);rw [setRow_other w g k _ (fun e => hm' (.inl e))];exact hR.at_.step k hk' (fun e => hm' (.inr e))
     ·have := blk [] j b' c hj hc
      rw [List.append_nil] at this
      simpa using this
    ·exact h.elim
   ·exact h.elim
  ·rename_i i ad vs hi hx hvs
   have hT := hcx.T _ _ hi;split at h
   ·rename_i hag h1
    rw [St.on_eq, denLK_eq] at h;split at h
    case h_2 => exact h.elim
    rename_i v0 hv0;obtain ⟨v, rfl⟩ : ∃ v, vs = [v] := by
     cases vs with
     | nil => cases hv0
     | cons v l => cases l with
       | nil => exact ⟨v, rfl⟩
       | cons _ _ => simp [denL] at hv0
    have hv1 : v.den s.r = v0 := by simpa [denL] using hv0
    subst hv1;obtain ⟨⟨⟨u, hu⟩, hfz⟩, hkeep, hK⟩ := h.h w hR.at_;have ha := hR.ev1 hx (by simp) [];simp only [SV.den] at ha;have hy : ∀ u, (a.eval y).cells.toList = [v.den (s.r ++ u)] := fun u => by
     rw [hR.ev1 rfl (SV.cells_ne_junk hvs) u]; exact cells_den hvs _
    have hy0 := hy [];rw [List.append_nil] at hy0;have ho : (v.den s.r).oneCell' = true := oneL_of h1 s.r _ (by simp [denL]);have hsz := hT.size w;rw [hT.one hag] at hsz;have hsize : (a.eval y).cells.size = 1 := by rw [<- Array.length_toList, hy0]; rfl
    have hst : (Instr.storeAt t (.pointer (some ad)) (a.eval y)).run cx.P w = .ok () (w.setCell ad (v.den s.r)) := by
     have hadd : ad.add 0 = ad := by simp [Addr.add]
     simp [Instr.storeAt, Instr.sureAddr, storeVar, Sem.run_bind, hsz, Result.andThen, hsize, hy0, storeCells, run_store cx.P w _ _ _ ho, hadd, hu, hfz]
    have hblt := World.block_lt_of_cell? w ad hu;refine wpIn_skip' rfl (w' := w.setCell ad (v.den s.r)) ?_ (hk undef (.val undef) _ _ hK (hR.keep (w2 := w.setCell ad (v.den s.r)) (hkp _ hkeep).1) (fun u => .inr rfl) (hkp _ hkeep).2 (.inl rfl));simp [execOp, ha, Sem.run_bind, hst, Result.andThen]
   ·rename_i hag h1
    rw [St.on_eq, denLK_eq] at h;obtain ⟨hlen, h⟩ := h;obtain ⟨b, o, cs, cty, rfl, hb, hle, hkeep, hK⟩ := h.h w hR.at_;have ha := hR.ev1 hx (by simp) [];simp only [SV.den] at ha;have hy : (a.eval y).cells.toList = denL s.r vs := by
     have h2 := hR.ev1 (x := y) rfl (SV.cells_ne_junk hvs) [];rw [List.append_nil] at h2;rw [h2]; exact cells_den hvs _
    have hst := run_store_loc (w := w) hT hb (v := a.eval y) (by rw [hy]; exact hlen) (by rw [hy]; exact hle) (by rw [hy]; exact oneL_of h1 s.r);rw [hy] at hst;refine wpIn_skip' rfl (w' := _) ?_ (hk undef (.val undef) _ _ hK (hR.keep (hkp _ hkeep).1) (fun u => .inr rfl) (hkp _ hkeep).2 (.inl rfl));simp [execOp, ha, Sem.run_bind, hst, Result.andThen]
   ·exact h.elim
  ·exact h.elim
 case call c =>
  simp only at h;split at h
  ·rename_i f hcal
   split at h
   ·rename_i g caps hj hf
    split at h
    ·rename_i hg
     have hen := hcx.fn g hg;have hfe := hR.ev1 hf (by simp) [];have hargs := hR.evs hj [];simp only [SV.den, List.append_nil] at hfe hargs;have hrun : (execOp a.eval (⟨dst, .call c, ty, pos, after, guard⟩ : Oper)).run cx.P w = .ok (.enter g (denL s.r (List.map (Eng.ev s.fr) c.args.toList ++ caps)).toArray) w := by
      have e1 : (c.args.map a.eval) ++ (denL s.r caps).toArray = (denL s.r (List.map (Eng.ev s.fr) c.args.toList ++ caps)).toArray := by
       apply Array.ext';rw [Array.toList_append, Array.toList_map, hargs];simp [denL_eq]
      have e2 := hen ((c.args.map a.eval) ++ (denL s.r caps).toArray) w;rw [e1] at e2;simp only [execOp, resolve, hcal, hfe, Deferred.ofValue, Sem.run_bind, Sem.run_pure, Result.andThen, invoke, Array.empty_append];simp [Sem.run_bind, Result.andThen, invoke, e1, e2]
     exact ⟨rfl, .inr (.inr ⟨_, _, hrun, callI_sound hkp h hR hk⟩)⟩
    ·rename_i hg
     have hfe := hR.ev1 hf (by simp) [];have hargs := hR.evs hj [];simp only [SV.den, List.append_nil] at hfe hargs;have h' : genN cx w0 kp (callFunc g (denL s.r (List.map (Eng.ev s.fr) c.args.toList ++ caps)).toArray) s K := by
      unfold callX at h;unfold genN;rw [St.on_eq] at h ⊢;rw [denLK_eq] at h;exact h
     refine genN_sound hkp h' hR rfl (fun w => ?_) hk;have e1 : (c.args.map a.eval) ++ (denL s.r caps).toArray = (denL s.r (List.map (Eng.ev s.fr) c.args.toList ++ caps)).toArray := by
      apply Array.ext';rw [Array.toList_append, Array.toList_map, hargs];simp [denL_eq]
     simp only [execOp, resolve, hcal, hfe, Deferred.ofValue, Sem.run_bind, Sem.run_pure, Result.andThen, invoke, Array.empty_append];simp [Sem.run_bind, Result.andThen, invoke, e1]
   ·rename_i g first caps hj hf
    obtain ⟨hen, h⟩ := h;have hfe := hR.ev1 hf (by simp) [];have hargs := hR.evs hj [];simp only [SV.den, List.append_nil] at hfe hargs;have hrun : (execOp a.eval (⟨dst, .call c, ty, pos, after, guard⟩ : Oper)).run cx.P w = .ok (.enter g (first.toList ++ (denL s.r (List.map (Eng.ev s.fr) c.args.toList) ++ caps.toList)).toArray) w := by
     have e1 : first ++ (c.args.map a.eval) ++ caps = (first.toList ++ (denL s.r (List.map (Eng.ev s.fr) c.args.toList) ++ caps.toList)).toArray := by
      apply Array.ext';rw [Array.toList_append, Array.toList_append, Array.toList_map, hargs];simp
     have e2 := hen (first ++ (c.args.map a.eval) ++ caps) w;rw [e1] at e2;simp only [execOp, resolve, hcal, hfe, Deferred.ofValue, Sem.run_bind, Sem.run_pure, Result.andThen, invoke, e1, e2]
    exact ⟨rfl, .inr (.inr ⟨_, _, hrun, callV_sound hkp h hR hk⟩)⟩
   ·exact h.elim
  ·rename_i b hcal
   have blt : gBlt cx w0 kp b c ty s K -> OpRes cx.P ⟨dst, .call c, ty, pos, after, guard⟩ a w next := fun h => by
    have h1 := evL_sound hR h;refine genN_sound hkp h1 hR rfl (fun w => ?_) hk;have e1 : (List.map a.eval c.args.toList).toArray = c.args.map a.eval := by apply Array.ext'; simp
    have e2 : (c.args.map fun | .const _ => true | _ => false) = c.args.map isConst := by
     congr 1
    rw [e1];simp only [execOp, resolve, hcal, Sem.run_bind, Sem.run_pure, Result.andThen, invoke];rw [<- e2]
    rfl
   exact blt h
  ·exact h.elim
 case slice t x lo hi mx =>
  exact genI_sound hkp (evO_sound hR (evO_sound hR (evO_sound hR (evK_sound hR h).1))) hR rfl rfl hk
 case makeFunc fn first captured =>
  have h1 := evL_sound hR (evL_sound hR h);have e1 : (List.map a.eval first.toList).toArray = first.map a.eval := by apply Array.ext'; simp
  have e2 : (List.map a.eval captured.toList).toArray = captured.map a.eval := by apply Array.ext'; simp
  rw [e1, e2] at h1;exact genI_sound hkp h1 hR rfl rfl hk
 case makeSlice t x y => exact genI_sound hkp (evK_sound hR (evK_sound hR h).1).1 hR rfl rfl hk
 case index t x y => exact genI_sound hkp (evK_sound hR (evK_sound hR h).1).1 hR rfl rfl hk
 case field t x j => exact genI_sound hkp (evK_sound hR h).1 hR rfl rfl hk
 case lookup t x y ok => exact genI_sound hkp (evK_sound hR (evK_sound hR h).1).1 hR rfl rfl hk
 case mapUpdate t m k x => exact genU_sound hkp (evK_sound hR (evK_sound hR (evK_sound hR h).1).1).1 hR rfl rfl hk
 case insert t m k x => exact genU_sound hkp (evK_sound hR (evK_sound hR (evK_sound hR h).1).1).1 hR rfl rfl hk
 case makeMap t x => exact genI_sound hkp (evO_sound hR (x := x) (k := fun vx => genI cx w0 kp (Instr.makeMap t vx) s K) h) hR rfl rfl hk
 case range t x => exact genI_sound hkp (evK_sound hR h).1 hR rfl rfl hk
 case next x str => exact genI_sound hkp (evK_sound hR h).1 hR rfl rfl hk
 case entry x => exact genI_sound hkp (evK_sound hR h).1 hR rfl rfl hk
 case buildSlice t len parts =>
  simp only at h;split at h
  ·rename_i e i hsl hble
   obtain ⟨hu, hT, hpos, h64⟩ := hcx.sl t e i hsl;have hble := Nat.le_of_ble_eq_true hble;split at h
   ·rename_i cs hb
    have hbs := fun u => bldS_sound hR _ u _ _ _ hb;have hz : ∀ u, denL (s.r ++ u) (zerosN i.zero len) = (List.replicate len i.zero).flatten := fun u => denL_zerosN _ _ _;have hsz := hT.size w;have hzr := hT.zero w;have hzc := zero_cells hT;have hfill : Instr.fill (fun j => some (j * i.zero.length, i.zero.length)) ((List.replicate len i.zero).flatten).toArray (parts.map fun p => (p.1, a.eval p.2)).toList = some (denL (s.r ++ []) cs).toArray := by
     have h1 := hbs [];rw [hz] at h1;refine fill_le (fun j x hj => ?_) _ _ _ (by simpa using h1);have := placesN_get i.zero.length len 0 j x (by simpa using hj);rw [this]; simp
    rw [natK_eq] at h
    have hor := newB_sound hR (vs := (denL (s.r ++ []) cs).toArray) (fun u => by
     have e1 := hbs [];have e2 := hbs u;rw [hz] at e1 e2;rw [e1] at e2;injection e2 with e2
     simpa using e2) h
    obtain ⟨h1, h2, h3⟩ := hor.resolve_right (fun h => h.1);refine wpIn_val rfl (v := .slice (some ⟨w.heap.size, 0, none⟩) len len) (w' := w.alloc (.cells (denL (s.r ++ []) cs).toArray e)) ?_ (hk _ _ _ _ h1 h2 ?_ (hHa _ _) (.inr rfl))
    ·have hle : ¬ len * i.zero.length > 2 ^ 24 := by
      have := Nat.mul_le_mul_left len h64;omega
     have hrow : (Array.range (len * i.zero.length)).map (fun x => i.zero.toArray[x % i.zero.toArray.size]!) = ((List.replicate len i.zero).flatten).toArray := by
      apply Array.ext';simp only [Array.toList_map, Array.toList_range];exact range_flat i.zero hpos len
     have hrun : (Instr.buildSlice t len (parts.map fun p => (p.1, a.eval p.2))).run cx.P w = .ok (.slice (some ⟨w.heap.size, 0, none⟩) len len) (w.alloc (.cells (denL (s.r ++ []) cs).toArray e)) := by
      unfold Instr.buildSlice;simp only [Sem.run_bind, run_underlying hu, hsz, Result.andThen];rw [if_neg hle]
      by_cases h0 : len * i.zero.length = 0
      ·have hl0 : len = 0 := by
        rcases Nat.mul_eq_zero.1 h0 with h0 | h0
        ·exact h0
        ·omega
       subst hl0;have hA : (Array.range (0 * i.zero.length)).map (fun x => (#[] : Array Value)[x % (#[] : Array Value).size]!) = ((List.replicate 0 i.zero).flatten).toArray := by
        rw [Nat.zero_mul]; apply Array.ext'; simp
       rw [if_pos h0];show Sem.run cx.P (match Instr.fill _ ((Array.range (0 * i.zero.length)).map (fun x => (#[] : Array Value)[x % (#[] : Array Value).size]!)) _ with | some cells => _ | x => _) w = _;rw [hA, hfill]
       rfl
      ·rw [if_neg h0]
       simp only [Sem.run_bind, hzr, Result.andThen, Sem.run_pure, hzc];rw [hrow, hfill]
       rfl
     simp [execOp, Sem.run_bind, hrun, Result.andThen]
    ·intro u
     right;simp only [SV.den];rw [getD_of (i := s.hp.length) (b := w.heap.size) (by rw [<- hR.len]; simp)]
   ·exact h.elim
  ·exact h.elim
 all_goals exact h.elim
end sound
def fsetK : Fr -> Nat -> SV -> (Fr -> Prop) -> Prop
 | [], _, _, k => k []
 | _ :: l, 0, v, k => k (v :: l)
 | a :: l, n + 1, v, k => fsetK l n v fun l => k (a :: l)
theorem fsetK_eq (fr : Fr) (n : Nat) (v : SV) (k : Fr -> Prop) : fsetK fr n v k = k (fset fr n v) := by
 induction fr generalizing n k with
 | nil => rfl
 | cons a l ih => cases n with
   | zero => rfl
   | succ n => simp only [fsetK, fset, ih]
def putD (s : St) (d : Option Tmp) (v : SV) (k : St -> Prop) : Prop :=
 forceV v fun v => s.on fun fr hp r L w df =>
 match d with
 | none => k ⟨fr, hp, r, L, w, df⟩
 | some d => fsetK fr d v fun fr => k ⟨fr, hp, r, L, w, df⟩
theorem putD_eq (s : St) (d : Option Tmp) (v : SV) (k : St -> Prop) : putD s d v k = k (s.put d v) := by
 cases d <;> simp only [putD, forceV_eq, St.on_eq, fsetK_eq] <;> rfl
def guardD (all : List Oper) (o : Oper) (s : St) (yes no : St -> Prop) : Prop :=
 match o.guard with
 | none => yes s
 | some (j, want) =>
   match (all[j]?).bind (·.dst) with
   | none => False
   | some t =>
     match fget s.fr t, want with
     | .kb true, true => yes s
     | .kb false, false => yes s
     | .kb true, false => no s
     | .kb false, true => no s
     | .tup _, _ => no s
     | .val (.bool b), true => Branch b (putD s (some t) (.kb true) yes) (putD s (some t) (.kb false) no)
     | .val (.bool b), false => Branch b (putD s (some t) (.kb true) no) (putD s (some t) (.kb false) yes)
     | _, _ => False
def yieldOf (op : Op) (fr : Fr) : Option (Nat × Array Value × Array Value × List SV) :=
 match op with
 | .call c =>
   (match c.callee with
   | .value f =>
     (match ev fr f with
     | .val (.func (.yield l) first caps) => (match junkyL (c.args.toList.map (ev fr)) with | false => some (l, first, caps, c.args.toList.map (ev fr)) | true => none)
     | _ => none)
   | _ => none)
 | _ => none
def valsL : List SV -> Bool
 | [] => true
 | .val _ :: l => valsL l
 | _ => false
def forgetV : SV -> SV
 | .val v => .val v
 | .kb b => .kb b
 | .agg l => (match valsL l with | true => .agg l | false => .junk)
 | _ => .junk
def forgetK : Fr -> (Fr -> Prop) -> Prop
 | [], k => k []
 | .val v :: l, k => forgetK l fun l => k (.val v :: l)
 | .kb b :: l, k => forgetK l fun l => k (.kb b :: l)
 | .agg m :: l, k => (match valsL m with | true => forgetK l fun l => k (.agg m :: l) | false => forgetK l fun l => k (.junk :: l))
 | _ :: l, k => forgetK l fun l => k (.junk :: l)
theorem forgetK_eq (fr : Fr) (k : Fr -> Prop) : forgetK fr k = k (fr.map forgetV) := by
 induction fr generalizing k with
 | nil => rfl
 | cons a l ih =>
   cases a <;> simp only [forgetK, List.map_cons, forgetV, ih]
   split <;> simp only [ih]
structure YieldI (F : Fence) (n : Nat) (P : Program) (w0 : Base) (l : Nat) (args : List Value) (hp : List LB) (r L : List Nat) (w : World) (K : Value -> World -> Prop) : Prop where
 h : ∀ w1, At w0 hp r L w w1 -> YieldAt F (n - 1) P l args.toArray w1 fun e w2 => ∃ v, e = .returned v /\ Below w0.B w0.W w2 /\ K v w2
def opsD (F : Fence) (n : Nat) (cx : Cx) (w0 : Base) (kp : List Nat -> World -> World -> Prop) (all : List Oper) : List Oper -> (St -> Prop) -> St -> Prop
 | [], K, s => K s
 | o :: rest, K, s => guardD all o s (fun s => (match yieldOf o.op s.fr with
    | some (l, first, caps, vs) => s.on fun fr hp r L w df => denLK r vs fun vs => YieldI F n cx.P w0 l (first.toList ++ vs) hp r L w fun v w2 => forgetK fr fun fr => putD ⟨fr, [], [], [], w2, df⟩ o.dst (.val v) (opsD F n cx w0 kp all rest K)
    | none => opD cx w0 kp o s fun v s' => putD s' o.dst v (opsD F n cx w0 kp all rest K))) (fun s => putD s o.dst (.tup []) (opsD F n cx w0 kp all rest K))
def wrsO : List Oper -> List Nat
 | [] => []
 | o :: l => match o.dst with | some d => d :: wrsO l | none => wrsO l
def wrs : Code -> List Nat
 | .region _ ops _ => wrsO ops.toList
 | .seq a b => wrs a ++ wrs b
 | .cond _ a b => wrs a ++ wrs b
 | .block _ b => wrs b
 | .loop b => wrs b
 | .rangeFunc _ ps a b => ps.toList ++ wrs a ++ wrs b
 | .scope b => wrs b
 | _ => []
def junkM (fr : Fr) : List Nat -> Fr
 | [] => fr
 | d :: l => junkM (fset fr d .junk) l
def setM (fr : Fr) : List (Nat × SV) -> Fr
 | [] => fr
 | (d, v) :: l => setM (fset fr d v) l
theorem junkM_append (fr : Fr) (l m : List Nat) : junkM fr (l ++ m) = junkM (junkM fr l) m := by
 induction l generalizing fr with
 | nil => rfl
 | cons a l ih => simp only [List.cons_append, junkM, ih]
def junkO : List Oper -> Fr -> (Fr -> Prop) -> Prop
 | [], fr, k => k fr
 | o :: l, fr, k => match o.dst with | some d => fsetK fr d .junk fun fr => junkO l fr k | none => junkO l fr k
def junkN : List Nat -> Fr -> (Fr -> Prop) -> Prop
 | [], fr, k => k fr
 | d :: l, fr, k => fsetK fr d .junk fun fr => junkN l fr k
def junkC : Code -> Fr -> (Fr -> Prop) -> Prop
 | .region _ ops _, fr, k => junkO ops.toList fr k
 | .seq a b, fr, k => junkC a fr fun fr => junkC b fr k
 | .cond _ a b, fr, k => junkC a fr fun fr => junkC b fr k
 | .block _ b, fr, k => junkC b fr k
 | .loop b, fr, k => junkC b fr k
 | .rangeFunc _ ps a b, fr, k => junkN ps.toList fr fun fr => junkC a fr fun fr => junkC b fr k
 | .scope b, fr, k => junkC b fr k
 | _, fr, k => k fr
theorem junkO_eq (l : List Oper) (fr : Fr) (k : Fr -> Prop) : junkO l fr k = k (junkM fr (wrsO l)) := by
 induction l generalizing fr with
 | nil => rfl
 | cons o l ih =>
   simp only [junkO, wrsO];cases o.dst with
   | none => exact ih fr
   | some d => simp only [fsetK_eq, ih, junkM]
theorem junkN_eq (l : List Nat) (fr : Fr) (k : Fr -> Prop) : junkN l fr k = k (junkM fr l) := by
 induction l generalizing fr with
 | nil => rfl
 | cons o l ih => simp only [junkN, fsetK_eq, ih, junkM]
theorem junkC_eq (c : Code) (fr : Fr) (k : Fr -> Prop) : junkC c fr k = k (junkM fr (wrs c)) := by
 induction c generalizing fr k with
 | region id ops d => exact junkO_eq _ _ _
 | seq a b iha ihb => simp only [junkC, wrs, iha, ihb, junkM_append]
 | cond c a b iha ihb => simp only [junkC, wrs, iha, ihb, junkM_append]
 | block id b ih => exact ih _ _
 | loop b ih => exact ih _ _
 | rangeFunc f ps a b iha ihb => simp only [junkC, wrs, junkN_eq, iha, ihb, junkM_append]
 | scope b ih => exact ih _ _
 | _ => rfl
def setK : List (Nat × SV) -> Fr -> (Fr -> Prop) -> Prop
 | [], fr, k => k fr
 | (d, v) :: l, fr, k => fsetK fr d v fun fr => setK l fr k
theorem setK_eq (l : List (Nat × SV)) (fr : Fr) (k : Fr -> Prop) : setK l fr k = k (setM fr l) := by
 induction l generalizing fr with
 | nil => rfl
 | cons o l ih => simp only [setK, fsetK_eq, ih, setM]
def headK (c : Code) (vals : List (Nat × SV)) (fr : Fr) (k : Fr -> Prop) : Prop := junkC c fr fun fr => setK vals fr k
theorem headK_eq (c : Code) (vals : List (Nat × SV)) (fr : Fr) (k : Fr -> Prop) : headK c vals fr k = k (setM (junkM fr (wrs c)) vals) := by
 simp only [headK, junkC_eq, setK_eq]
mutual
def SV.wf (m : Nat) : SV -> Bool
 | .loc i _ => Nat.blt i m
 | .lsl i _ _ _ => Nat.blt i m
 | .agg l => wfL m l
 | .tup l => wfL m l
 | .fn _ l => wfL m l
 | _ => true
def wfL (m : Nat) : List SV -> Bool
 | [] => true
 | a :: l => match a.wf m with | true => wfL m l | false => false
end
def wfH (m : Nat) : List LB -> Bool
 | [] => true
 | c :: l => match wfL m c.cells with | true => wfH m l | false => false
def SV.nf (ρ : List Nat) : SV -> SV
 | .kb b => .val (.bool b)
 | .lsl i o n c => .val (.slice (some ⟨ρ.getD i 0, o, none⟩) n c)
 | a => a
def nfL (ρ : List Nat) : List SV -> List SV
 | [] => []
 | a :: l => a.nf ρ :: nfL ρ l
def nfH (ρ : List Nat) : List LB -> List LB
 | [] => []
 | c :: l => ⟨nfL ρ c.cells, c.ty⟩ :: nfH ρ l
theorem SV.den_nf (ρ : List Nat) (a : SV) : (a.nf ρ).den ρ = a.den ρ := by cases a <;> rfl
theorem denL_nf (ρ : List Nat) (l : List SV) : denL ρ (nfL ρ l) = denL ρ l := by
 induction l with
 | nil => rfl
 | cons a l ih => simp only [nfL, denL, SV.den_nf, ih]
theorem nf_junk {ρ : List Nat} {a : SV} (h : a.nf ρ = .junk) : a = .junk := by cases a <;> first | rfl | cases h
theorem nfH_len (ρ : List Nat) (l : List LB) : (nfH ρ l).length = l.length := by
 induction l with
 | nil => rfl
 | cons a l ih => simp [nfH, ih]
theorem nfH_get (ρ : List Nat) (l : List LB) (i : Nat) : (nfH ρ l)[i]? = (l[i]?).map fun c => ⟨nfL ρ c.cells, c.ty⟩ := by
 induction l generalizing i with
 | nil => simp [nfH]
 | cons a l ih => cases i <;> simp [nfH, ih]
def covFr (ρ : List Nat) : Fr -> Fr -> Prop
 | [], [] => True
 | .junk :: l, _ :: l' => covFr ρ l l'
 | a :: l, b :: l' => a.nf ρ = b.nf ρ /\ covFr ρ l l'
 | _, _ => False
structure Cov (fr : Fr) (hp : List LB) (r : List Nat) (df : List Deferred) (s : St) : Prop where
 cfr : covFr s.r fr s.fr
 chp : nfH s.r (s.hp.take r.length) = nfH s.r hp
 cr : s.r.take r.length = r
 wf : wfL r.length fr = true
 wfh : wfH r.length hp = true
 cdf : s.df = df
theorem Cov.au {fr : Fr} {hp : List LB} {r : List Nat} {df : List Deferred} {s : St} (h2 : nfH s.r (s.hp.take r.length) = nfH s.r hp) (h3 : s.r.take r.length = r) (h4 : wfL r.length fr = true) (h5 : wfH r.length hp = true) (h6 : s.df = df) (h1 : covFr s.r fr s.fr := by repeat' (first | exact trivial | refine And.intro rfl ?_)) : Cov fr hp r df s := ⟨h1, h2, h3, h4, h5, h6⟩
mutual
theorem SV.den_wf {m : Nat} {ρ ρ' : List Nat} (h : ∀ i, i < m -> ρ.getD i 0 = ρ'.getD i 0) : ∀ (v : SV), v.wf m = true -> v.den ρ = v.den ρ'
 | .junk, _ => rfl
 | .val _, _ => rfl
 | .kb _, _ => rfl
 | .loc i o, hw => by simp only [SV.den]; rw [h i (by simpa [SV.wf, Nat.blt_eq] using hw)]
 | .lsl i o a b, hw => by simp only [SV.den]; rw [h i (by simpa [SV.wf, Nat.blt_eq] using hw)]
 | .agg l, hw => by simp only [SV.den]; rw [denL_wf h l (by simpa [SV.wf] using hw)]
 | .tup l, hw => by simp only [SV.den]; rw [denL_wf h l (by simpa [SV.wf] using hw)]
 | .fn f l, hw => by simp only [SV.den]; rw [denL_wf h l (by simpa [SV.wf] using hw)]
theorem denL_wf {m : Nat} {ρ ρ' : List Nat} (h : ∀ i, i < m -> ρ.getD i 0 = ρ'.getD i 0) : ∀ (l : List SV), wfL m l = true -> denL ρ l = denL ρ' l
 | [], _ => rfl
 | a :: l, hw => by
   simp only [wfL] at hw;split at hw
   ·rename_i ha
    simp only [denL];rw [SV.den_wf h a ha, denL_wf h l hw]
   ·cases hw
end
theorem wfL_get {m : Nat} {l : List SV} (h : wfL m l = true) (i : Nat) : (fget l i).wf m = true := by
 induction l generalizing i with
 | nil => rfl
 | cons a l ih =>
   simp only [wfL] at h;split at h
   ·rename_i ha
    cases i with
    | zero => exact ha
    | succ i => exact ih h i
   ·cases h
theorem wfH_get {m : Nat} {l : List LB} (h : wfH m l = true) {i : Nat} {c : LB} (hc : hget l i = some c) : wfL m c.cells = true := by
 induction l generalizing i with
 | nil => cases hc
 | cons a l ih =>
   simp only [wfH] at h;split at h
   ·rename_i ha
    cases i with
    | zero => injection hc with hc; subst hc; exact ha
    | succ i => exact ih h hc
   ·cases h
theorem covFr_get {ρ : List Nat} {fr fr' : Fr} (h : covFr ρ fr fr') : fr.length = fr'.length /\ ∀ i, fget fr i = .junk \/ (fget fr i).nf ρ = (fget fr' i).nf ρ := by
 induction fr generalizing fr' with
 | nil =>
   cases fr' with
   | nil => exact ⟨rfl, fun i => .inr rfl⟩
   | cons b l => exact h.elim
 | cons a l ih =>
   cases fr' with
   | nil => cases a <;> exact h.elim
   | cons b l' =>
     have h2 : (a = .junk \/ a.nf ρ = b.nf ρ) /\ covFr ρ l l' := by
      cases a <;> first | exact ⟨.inl rfl, h⟩ | exact ⟨.inr h.1, h.2⟩
     obtain ⟨h3, h4⟩ := ih h2.2;refine ⟨by simp [h3], fun i => ?_⟩;cases i with
     | zero => exact h2.1
     | succ i => exact h4 i
theorem cov_rel {w0 : Base} {s : St} {a : Act} {w : World} {fr : Fr} {hp : List LB} {r : List Nat} {df : List Deferred} (hR : Rel w0 s a w) (hc : Cov fr hp r df s) : Rel w0 ⟨fr, hp, r, [], w, df⟩ a w := by
 obtain ⟨c1, c2, c3, c4, c5, rfl⟩ := hc;obtain ⟨l1, l2⟩ := covFr_get c1;have hle : r.length <= s.r.length := by
  have := congrArg List.length c3;simp only [List.length_take] at this;omega
 have hg : ∀ (t t' : List Nat) i, i < r.length -> (r ++ t).getD i 0 = (s.r ++ t').getD i 0 := fun t t' i hi => by
  rw [List.getD_eq_getElem?_getD, List.getD_eq_getElem?_getD, List.getElem?_append_left hi, List.getElem?_append_left (by omega)]
  conv => lhs; rw [<- c3]
  rw [List.getElem?_take, if_pos hi]
 have hget' : ∀ {i : Nat} {c : LB}, hget hp i = some c -> ∃ c', hget s.hp i = some c' /\ denL s.r c'.cells = denL s.r c.cells /\ c'.ty = c.ty := fun {i c} hi => by
  rw [hget_eq] at hi;have h1 : (nfH s.r hp)[i]? = some ⟨nfL s.r c.cells, c.ty⟩ := by rw [nfH_get, hi]; rfl
  rw [<- c2, nfH_get, List.getElem?_take] at h1;split at h1
  ·cases h2 : s.hp[i]? with
   | none => rw [h2] at h1; cases h1
   | some c' =>
     rw [h2] at h1;simp only [Option.map_some, Option.some.injEq, LB.mk.injEq] at h1;exact ⟨c', by rw [hget_eq]; exact h2, by rw [<- denL_nf s.r c'.cells, h1.1, denL_nf], h1.2⟩
  ·cases h1
 have rget : ∀ {i b : Nat}, r[i]? = some b -> s.r[i]? = some b := fun {i b} hi => by
  rw [<- c3, List.getElem?_take] at hi;split at hi
  ·exact hi
  ·cases hi
 have blk : ∀ (t : List Nat) (i b : Nat) (c : LB), r[i]? = some b -> hget hp i = some c -> w.heap[b]? = some (.cells (denL (r ++ t) c.cells).toArray c.ty (0, 0)) := fun t i b c hi hc => by
  rw [denL_wf (hg t []) c.cells (wfH_get c5 hc)];obtain ⟨c', k1, k2, k3⟩ := hget' hc;rw [List.append_nil, <- k2, <- k3];have := hR.blk [] i b c' (rget hi) k1
  rwa [List.append_nil] at this
 have sub : ∀ b, b ∈ r -> b ∈ s.r := fun b hb => by rw [<- c3] at hb; exact List.mem_of_mem_take hb
 refine ⟨hR.df, fun t => ⟨by rw [l1]; exact (hR.fits []).1, fun n => ?_⟩, ⟨hR.at_.below, Nat.le_refl _, fun _ _ _ => rfl, fun i b c hi hc => ?_, fun b hb => hR.at_.fresh b (sub b hb), fun b hb => hR.at_.lt b (sub b hb), hR.at_.below⟩, blk, ?_, ?_⟩
 ·show fget fr n = .junk \/ _
  rcases l2 n with h1 | h1
  ·exact .inl h1
  ·rcases (hR.fits []).2 n with h2 | h2
   ·rw [h2] at h1; exact .inl (nf_junk h1)
   ·right
    rw [h2, List.append_nil, <- SV.den_nf, <- h1, SV.den_nf];have e0 : s.r = s.r ++ [] := (List.append_nil _).symm
    conv => lhs; rw [e0]
    exact (SV.den_wf (hg t []) _ (wfL_get c4 n)).symm
 ·have := blk [] i b c hi hc
  rwa [List.append_nil] at this
 ·show r.Nodup
  rw [<- c3]; exact List.Nodup.sublist (List.take_sublist _ _) hR.nod
 ·show r.length = hp.length
  have k := congrArg List.length c2;rw [nfH_len, nfH_len, List.length_take] at k;have := hR.len; omega
def elemB (n : Nat) : List Nat -> Bool
 | [] => false
 | a :: l => match Nat.beq a n with | true => true | false => elemB n l
def oget : List Oper -> Nat -> Option Oper
 | [], _ => none
 | a :: _, 0 => some a
 | _ :: l, n + 1 => oget l n
theorem oget_eq (l : List Oper) (i : Nat) : oget l i = l[i]? := by
 induction l generalizing i with
 | nil => simp [oget]
 | cons a l ih => cases i <;> simp [oget, ih]
def Held (wr : World) (M : List Nat) (w : World) : Prop := wr.heap.size <= w.heap.size /\ ∀ k, k < wr.heap.size -> k ∉ M -> w.heap[k]? = wr.heap[k]?
def kpD (w0 : Base) (wr : World) (M : List Nat) (r : List Nat) (w1 w2 : World) : Prop := wr.heap.size <= w1.heap.size -> Keep w0 r w1 w2 /\ ∀ k, k < wr.heap.size -> k ∉ M -> w2.heap[k]? = w1.heap[k]?
class KpOk (w0 : Base) (kp : List Nat -> World -> World -> Prop) : Prop where
 ok : ∀ {hp r L w w1 w2}, At w0 hp r L w w1 -> Below w1.heap.size w1 w2 -> kp r w1 w2
instance kpOk_keep {w0 : Base} : KpOk w0 (Keep w0) := ⟨fun h hb => h.keep hb⟩
instance kpOk_kpD {w0 : Base} {wr : World} {M : List Nat} : KpOk w0 (kpD w0 wr M) := ⟨fun h hb hs => ⟨h.keep hb, fun k hk _ => hb.block k (Nat.lt_of_lt_of_le hk hs)⟩⟩
def takeD (cx : Cx) (wr : World) (M Ml : List Nat) (m0 : Nat) (o : Oper) (s : St) (K : SV -> Prop) : Prop :=
 pureD cx o.op s.fr K <|
 match o.op with
 | .load t x =>
   (match cx.T t, ev s.fr x with
   | some i, .loc b off =>
     (match Nat.blt b m0, elemB b Ml, hget s.hp b with
     | true, false, some lb =>
       (match i.ag with
       | false => (match lget lb.cells off with | some v => K v | none => False)
       | true => (match lsub lb.cells off i.zero.length with | some l => K (.agg l) | none => False))
     | _, _, _ => False)
   | some i, .val (.pointer (some a)) =>
     (match i.ag with
     | false => LoadI wr M a fun v => K (.val v)
     | true => LoadA wr M i.zero.length a fun vs => K (.agg (vs.map .val)))
   | _, _ => False)
 | _ => False
def safeSt (o : Oper) (s : St) (Ml : List Nat) (m0 : Nat) : Bool :=
 match o.op with
 | .store _ x _ => (match ev s.fr x with | .loc b _ => (match elemB b Ml, Nat.blt b m0 with | false, true => false | _, _ => true) | _ => true)
 | _ => true
def stepD (cx : Cx) (w0 : Base) (wr : World) (M Ml : List Nat) (m0 : Nat) (o : Oper) (tk : Bool) (s : St) (K : SV -> St -> Prop) : Prop :=
 match tk with
 | true => takeD cx wr M Ml m0 o s fun v => K v s
 | false => (match safeSt o s Ml m0 with | true => opD cx w0 (kpD w0 wr M) o s K | false => False)
inductive Sch where
 | done
 | tk (i : Nat) (t : Sch)
 | ev (i : Nat) (t : Sch)
 | two (i : Nat) (t : Sch) (j : Nat) (u : Sch)
def drawD (cx : Cx) (w0 : Base) (wr : World) (M Ml : List Nat) (m0 : Nat) (all : List Oper) (K : St -> Prop) : Sch -> St -> Prop
 | .done, s => K s
 | .tk i t, s =>
   (match oget all i with
   | none => False
   | some o => guardD all o s
      (fun s => stepD cx w0 wr M Ml m0 o true s fun v s' => putD s' o.dst v (drawD cx w0 wr M Ml m0 all K t))
      (fun s => putD s o.dst (.tup []) (drawD cx w0 wr M Ml m0 all K t)))
 | .ev i t, s =>
   (match oget all i with
   | none => False
   | some o => guardD all o s
      (fun s => stepD cx w0 wr M Ml m0 o false s fun v s' => putD s' o.dst v (drawD cx w0 wr M Ml m0 all K t))
      (fun s => putD s o.dst (.tup []) (drawD cx w0 wr M Ml m0 all K t)))
 | .two i t j u, s =>
   (match oget all i, oget all j with
   | some o, some p => Both (guardD all o s
      (fun s => stepD cx w0 wr M Ml m0 o false s fun v s' => putD s' o.dst v (drawD cx w0 wr M Ml m0 all K t))
      (fun s => putD s o.dst (.tup []) (drawD cx w0 wr M Ml m0 all K t)))
      (guardD all p s
      (fun s => stepD cx w0 wr M Ml m0 p false s fun v s' => putD s' p.dst v (drawD cx w0 wr M Ml m0 all K u))
      (fun s => putD s p.dst (.tup []) (drawD cx w0 wr M Ml m0 all K u)))
   | _, _ => False)
def schedOk (ops : Array Oper) : Nat -> Array Bool -> Sch -> Bool
 | 0, listed, .done => (Region.ready .any ops listed).isEmpty
 | n + 1, listed, .tk i t => (Region.ready .any ops listed).contains i && Region.free .any ops listed i && schedOk ops n (listed.setIfInBounds i true) t
 | n + 1, listed, .ev i t => decide (Region.ready .any ops listed = [i]) && schedOk ops n (listed.setIfInBounds i true) t
 | n + 1, listed, .two i t j u => decide (Region.ready .any ops listed = [i, j]) && schedOk ops n (listed.setIfInBounds i true) t && schedOk ops n (listed.setIfInBounds j true) u
 | _, _, _ => false
def noDefer (o : Oper) : Bool := match o.op with | .defer _ => false | _ => true
def ltAll (m : Nat) : List Nat -> Bool
 | [] => true
 | i :: l => match Nat.blt i m with | true => ltAll m l | false => false
theorem ltAll_mem {m : Nat} {l : List Nat} (h : ltAll m l = true) {i : Nat} (hi : i ∈ l) : i < m := by
 induction l with
 | nil => cases hi
 | cons a l ih =>
   simp only [ltAll] at h;split at h
   ·rename_i h1
    rcases List.mem_cons.1 hi with rfl | hi
    ·simpa [Nat.blt_eq] using h1
    ·exact ih h hi
   ·cases h
def schedAll (ops : Array Oper) (sched : Sch) : Bool :=
 Region.noSelect ops && ops.all noDefer && schedOk ops ops.size (Array.replicate ops.size false) sched
def locs (r : List Nat) : List Nat -> List Nat
 | [] => []
 | i :: l => r.getD i 0 :: locs r l
def LoopInv (w0 : Base) (body : (Exit -> St -> Prop) -> St -> Prop) (cb : Code) (K : Exit -> St -> Prop) (s : St) : Prop :=
 s.on fun fr hp r L w df => ∃ (α : Type) (vals : α -> List (Nat × SV)) (hpf : α -> List LB) (wd : α -> World) (dff : α -> List Deferred) (Φ : α -> Prop) (μ : α -> Nat),
  (∀ w1, At w0 hp r L w w1 -> ∃ x, headK cb (vals x) fr (fun fr' => Cov fr' (hpf x) r (dff x) ⟨fr, hp, r, L, w, df⟩) /\ wd x = w1 /\ Φ x) /\
  ∀ x, Φ x -> headK cb (vals x) fr fun fr' => body
   (fun e s2 => match e with
     | .normal => s2.on fun fr2 hp2 r2 L2 w2 df2 => EndI w0 hp2 r2 L2 w2 undef fun _ w1 => ∃ y, headK cb (vals y) fr (fun fr' => Cov fr' (hpf y) r (dff y) ⟨fr2, hp2, r2, L2, w2, df2⟩) /\ wd y = w1 /\ Φ y /\ μ y < μ x
     | e => K e s2) ⟨fr', hpf x, r, [], wd x, dff x⟩
def unrD (w0 : Base) (body : (Exit -> St -> Prop) -> St -> Prop) (cb : Code) (K : Exit -> St -> Prop) : Nat -> St -> Prop
 | 0, s => LoopInv w0 body cb K s
 | n + 1, s => body (fun e s2 => match e with | .normal => unrD w0 body cb K n s2 | e => K e s2) s
structure LoopI (w0 : Base) (body : (Exit -> St -> Prop) -> St -> Prop) (cb : Code) (K : Exit -> St -> Prop) (s : St) : Prop where
 h : ∃ n, unrD w0 body cb K n s
structure DrawI (cx : Cx) (w0 : Base) (ops : Array Oper) (K : St -> Prop) (fr : Fr) (hp : List LB) (r L : List Nat) (w : World) (df : List Deferred) : Prop where
 h : ∃ (sched : Sch) (Ml Mf : List Nat), schedAll ops sched = true /\ ltAll r.length Ml = true /\
  ∀ w1, At w0 hp r L w w1 -> (∀ b, b ∈ r -> b ∉ Mf) /\ force (locs r Ml ++ Mf) fun M => drawD cx w0 w1 M Ml r.length ops.toList K sched ⟨fr, hp, r, [], w1, df⟩
structure RawI (F : Fence) (n : Nat) (cx : Cx) (w0 : Base) (c : Code) (K : Exit -> St -> Prop) (s : St) : Prop where
 h : ∀ a w1, Rel w0 s a w1 -> c.wpIn F n cx.P (fun e a' w' => ∃ s', Rel w0 s' a' w' /\ K e s') a w1
def codeD (F : Fence) (n : Nat) (cx : Cx) (w0 : Base) : Code -> (Exit -> St -> Prop) -> St -> Prop
 | .skip, K, s => K .normal s
 | .label _, K, s => K .normal s
 | .region _ ops false, K, s => opsD F n cx w0 (Keep w0) ops.toList ops.toList (K .normal) s
 | .region _ ops true, K, s => s.on fun fr hp r L w df => DrawI cx w0 ops (K .normal) fr hp r L w df
 | .seq a b, K, s => codeD F n cx w0 a (fun e s' => match e with | .normal => codeD F n cx w0 b K s' | e => K e s') s
 | .cond c x y, K, s =>
   (match ev s.fr c with
   | .kb true => codeD F n cx w0 x K s
   | .kb false => codeD F n cx w0 y K s
   | .val (.bool b) => Branch b (codeD F n cx w0 x K s) (codeD F n cx w0 y K s)
   | _ => False)
 | .block id b, K, s => codeD F n cx w0 b (fun e s' => match e with | .exit i => (match Nat.beq i id with | true => K .normal s' | false => K (.exit i) s') | e => K e s') s
 | .loop b, K, s => LoopI w0 (codeD F n cx w0 b) b K s
 | .exit id, K, s => K (.exit id) s
 | .goto l, K, s => K (.goto l) s
 | .ret, K, s => K .ret s
 | c, K, s => RawI F n cx w0 c K s
theorem wpIn_loop_wf {F : Fence} {n : Nat} {P : Program} {Q : Exit -> Act -> World -> Prop} {a : Act} {w : World} {c : Code} (I : Nat -> Nat -> Act -> World -> Prop) (n0 m0 : Nat) (h0 : I n0 m0 a w)
 (round : ∀ k m a w, I k m a w -> c.wpIn F n P (Exit.then (fun a' w' => ∃ k' m', (k' < k \/ (k' = k /\ m' < m)) /\ I k' m' a' w') Q) a w) : (Code.loop c).wpIn F n P Q a w := by
 intro b k cs hro hb hr
 have key : ∀ (j i : Nat) a w, I j i a w ->
  ∃ e a' w', Q e a' w' /\ ArrivesIn (Machine.fenced P F) P (lone (b.atR a (.code c :: .inLoop c :: k)) cs w) b k cs e a' w' := by
  intro j
  induction j using Nat.strongRecOn with
  | _ j ihj =>
    intro i
    induction i using Nat.strongRecOn with
    | _ i ihi =>
      intro a w hI;obtain ⟨e, a₁, w₁, hq, harr⟩ := round j i a w hI b (.inLoop c :: k) cs hro hb hr;cases e with
      | normal =>
        obtain ⟨k', m', hlt, hI₁⟩ := hq;have : ∃ e a' w', Q e a' w' /\ ArrivesIn (Machine.fenced P F) P (lone (b.atR a₁ (.code c :: .inLoop c :: k)) cs w₁) b k cs e a' w' := by
         rcases hlt with hlt | ⟨rfl, hlt⟩
         ·exact ihj k' hlt m' a₁ w₁ hI₁
         ·exact ihi m' hlt a₁ w₁ hI₁
        obtain ⟨e₂, a₂, w₂, hq₂, harr₂⟩ := this;exact ⟨e₂, a₂, w₂, hq₂, .of_steps (StepsIn.trans harr (.one (fenced_calm hb hr rfl) stepR_inLoop)) harr₂⟩
      | exit id => exact ⟨_, a₁, w₁, hq, .pass (x := .inLoop c) rfl (fun _ _ => .inl (by simp)) harr⟩
      | goto l => exact ⟨_, a₁, w₁, hq, .pass (x := .inLoop c) rfl (fun _ _ => .inl (by simp)) harr⟩
      | ret => exact ⟨_, a₁, w₁, hq, .pass (x := .inLoop c) rfl (fun _ _ => .inl (by simp)) harr⟩
      | panic ch => exact ⟨_, a₁, w₁, hq, .pass (x := .inLoop c) rfl (fun _ _ => .inl (by simp)) harr⟩
      | outgrown => exact ⟨_, a₁, w₁, hq, .pass (x := .inLoop c) rfl (fun _ _ => .inl (by simp)) harr⟩
 obtain ⟨e, a', w', hq, harr⟩ := key n0 m0 a w h0;exact ⟨e, a', w', hq, .of_steps (.one (fenced_calm hb hr rfl) stepR_loop) harr⟩
section sound2
variable {F : Fence} {n : Nat} {cx : Cx} {w0 : Base}
theorem guard_get {s : St} {a : Act} {w : World} (hR : Rel w0 s a w) {all : Array Oper} {o : Oper} {j : Nat} {want : Bool} {t : Nat} {b : Bool} (hg : o.guard = some (j, want)) (ht : (all.toList[j]?).bind (·.dst) = some t)
 (hv : fget s.fr t = .kb b \/ fget s.fr t = .val (.bool b)) : Region.wanted o (yielded all a.tmps) = (b == want) := by
 have h1 : a.tmps.getD t undef = .bool b := by
  rcases (hR.fits []).2 t with h | h
  ·rcases hv with hv | hv <;> (rw [hv] at h; cases h)
  ·rcases hv with hv | hv <;> (rw [h, hv]; rfl)
 have h2 : a.tmps[t]? = some (.bool b) := by
  rw [Array.getD_eq_getD_getElem?] at h1;cases hh : a.tmps[t]? with
  | none => rw [hh] at h1; cases h1
  | some v => rw [hh] at h1; rw [<- h1]; rfl
 have h3 : (all[j]?).bind (·.dst) = some t := by rw [<- Array.getElem?_toList]; exact ht
 simp only [Region.wanted, hg, yielded, h3, Option.bind_some, h2];cases b <;> cases want <;> rfl
theorem guard_tup {s : St} {a : Act} {w : World} (hR : Rel w0 s a w) {all : Array Oper} {o : Oper} {j : Nat} {want : Bool} {t : Nat} {l : List SV} (hg : o.guard = some (j, want)) (ht : (all.toList[j]?).bind (·.dst) = some t)
 (hv : fget s.fr t = .tup l) : Region.wanted o (yielded all a.tmps) = false := by
 have h1 : a.tmps.getD t undef = .tuple (denL s.r l).toArray := by
  rcases (hR.fits []).2 t with h | h
  ·rw [hv] at h; cases h
  ·rw [h, hv]; simp [SV.den]
 have h3 : (all[j]?).bind (·.dst) = some t := by rw [<- Array.getElem?_toList]; exact ht
 simp only [Region.wanted, hg, yielded, h3, Option.bind_some];rw [Array.getD_eq_getD_getElem?] at h1;cases hh : a.tmps[t]? with
 | none => rfl
 | some v => rw [hh] at h1; simp only [Option.getD_some] at h1; rw [h1]; rfl
theorem Rel.refine {s : St} {a : Act} {w : World} (hR : Rel w0 s a w) {t : Nat} {b : Bool} (hv : fget s.fr t = .val (.bool b)) : Rel w0 (s.put (some t) (.kb b)) a w := by
 have h1 := hR.put (a := a) (some t) (v := .bool b) (sv := .kb b) fun _ => .inr rfl;have h2 : a.put (some t) (.bool b) = a := by
  have h3 : a.tmps.getD t undef = .bool b := by
   rcases (hR.fits []).2 t with h | h
   ·rw [hv] at h; cases h
   ·rw [h, hv]; rfl
  have h4 : a.tmps.setIfInBounds t (.bool b) = a.tmps := by
   apply Array.ext
   ·simp
   ·intro i h5 h6
    rw [Array.getElem_setIfInBounds];split
    ·rename_i hti
     subst hti;rw [Array.getD_eq_getD_getElem?, Array.getElem?_eq_getElem h6] at h3;exact h3.symm
    ·rfl
  simp only [Act.put, h4]
 rwa [h2] at h1
theorem valsL_den {l : List SV} (h : valsL l = true) (r r' : List Nat) : denL r l = denL r' l := by
 induction l with
 | nil => rfl
 | cons a l ih =>
   cases a <;> simp only [valsL] at h <;> first | (cases h; done) | skip
   simp only [denL, SV.den, ih h]
theorem forgetV_den (x : SV) (r r' : List Nat) : forgetV x = .junk \/ x.den r = (forgetV x).den r' := by
 cases x with
 | junk => exact .inl rfl
 | val v => exact .inr rfl
 | kb b => exact .inr rfl
 | loc => exact .inl rfl
 | agg l =>
   show (match valsL l with | true => SV.agg l | false => .junk) = .junk \/ (SV.agg l).den r = (match valsL l with | true => SV.agg l | false => .junk).den r';cases h : valsL l with
   | true => exact .inr (by simp only [SV.den, valsL_den h r r'])
   | false => exact .inl rfl
 | tup => exact .inl rfl
 | fn => exact .inl rfl
 | lsl => exact .inl rfl
theorem fget_map (fr : Fr) (t : Nat) : fget (fr.map forgetV) t = forgetV (fget fr t) := by
 induction fr generalizing t with
 | nil => rfl
 | cons a l ih => cases t with
   | zero => rfl
   | succ t => exact ih t
theorem forget_rel {s : St} {a : Act} {w w2 : World} (hR : Rel w0 s a w) (hb : Below w0.B w0.W w2) : Rel w0 ⟨s.fr.map forgetV, [], [], [], w2, s.df⟩ a w2 := by
 refine ⟨hR.df, fun t => ⟨by simp [(hR.fits []).1], fun i => ?_⟩, ⟨hb, Nat.le_refl _, fun _ _ _ => rfl, fun i b c hi => by simp at hi, fun b hb => by simp at hb, fun b hb => by simp at hb, hb⟩, fun t i b c hi => by simp at hi, List.nodup_nil, rfl⟩;show fget (s.fr.map forgetV) i = .junk \/ a.tmps.getD i undef = (fget (s.fr.map forgetV) i).den ([] ++ t);rw [fget_map];rcases (hR.fits []).2 i with h | h
 ·rw [h]; exact .inl rfl
 ·rcases forgetV_den (fget s.fr i) (s.r ++ []) ([] ++ t) with h2 | h2
  ·exact .inl h2
  ·exact .inr (h.trans h2)
theorem yield_sound {P : Program} {o : Oper} {s : St} {a : Act} {w : World} {l : Nat} {first caps : Array Value} {vs : List SV} {next : Act -> World -> Prop} {Q : Exit -> Act -> World -> Prop} {K : Value -> St -> Prop} (hF : ∀ f, F.fn f) (hd : F.depth = none) (hy : yieldOf o.op s.fr = some (l, first, caps, vs))
 (h : s.on fun fr hp r L w df => denLK r vs fun vs => YieldI F n P w0 l (first.toList ++ vs) hp r L w fun v w2 => forgetK fr fun fr => K v ⟨fr, [], [], [], w2, df⟩) (hR : Rel w0 s a w)
 (hk : ∀ v w2, K v ⟨s.fr.map forgetV, [], [], [], w2, s.df⟩ -> Rel w0 ⟨s.fr.map forgetV, [], [], [], w2, s.df⟩ a w2 -> next (a.put o.dst v) w2) : o.wpIn F n P a w next Q := by
 obtain ⟨dst, op, ty, pos, after, guard⟩ := o;cases op with
 | call c =>
   simp only [yieldOf] at hy;split at hy
   ·rename_i f hcal
    split at hy
    ·rename_i l' first' caps' hf
     split at hy
     ·rename_i hj
      simp only [Option.some.injEq, Prod.mk.injEq] at hy;obtain ⟨rfl, rfl, rfl, rfl⟩ := hy;have hfe := hR.ev1 hf (by simp) [];have hargs := hR.evs hj [];simp only [SV.den, List.append_nil] at hfe hargs;rw [St.on_eq, denLK_eq] at h;obtain ⟨fn, tmps, assign, body, hrun, hround⟩ := h.h w hR.at_;refine ⟨fun f _ => hF f, ?_⟩;rw [Oper.semAt_eq _ _ _ (fun c e => by cases e)];have e1 : first' ++ (c.args.map a.eval) = (first'.toList ++ denL s.r (List.map (Eng.ev s.fr) c.args.toList)).toArray := by
       apply Array.ext';rw [Array.toList_append, Array.toList_map, hargs]
      have hrun2 : (execOp a.eval (⟨dst, .call c, ty, pos, after, guard⟩ : Oper)).run P w = .ok (.round l' fn tmps assign body) w := by
       rw [<- e1] at hrun;simp only [execOp, resolve, hcal, hfe, Deferred.ofValue, Sem.run_bind, Sem.run_pure, Result.andThen, invoke];exact hrun
      rw [hrun2, Oper.uponIn_round];refine ⟨fun e => (by rw [hd] at e; cases e), hround.mono ?_⟩;rintro e w2 ⟨v, rfl, hb, hK⟩;rw [forgetK_eq] at hK;exact hk v w2 hK (forget_rel hR hb)
     ·cases hy
    ·cases hy
   ·cases hy
 | _ => simp [yieldOf] at hy
theorem opsD_sound (hcx : CxOk cx) (hF : ∀ f, F.fn f) (hd : F.depth = none) (hw : ∀ (n : Nat) g args w (R : Ending -> World -> Prop), Calls cx.P g args w R -> CallsIn F n cx.P g args w R)
 {kp : List Nat -> World -> World -> Prop} (hkp : ∀ r w1 w2, kp r w1 w2 -> Keep w0 r w1 w2) {all : Array Oper} {Q : Exit -> Act -> World -> Prop} {K : St -> Prop} (hQ : ∀ s a w, K s -> Rel w0 s a w -> Q .normal a w) :
 ∀ (rest : List Oper) (k : Nat), rest = all.toList.drop k -> ∀ (s : St) (a : Act) (w : World), opsD F n cx w0 kp all.toList rest K s -> Rel w0 s a w ->
  wpOpsIn F n cx.P all Q (List.range' k rest.length) a w
 | [], k, hk, s, a, w, h, hR => hQ s a w h hR
 | o :: rest, k, hk, s, a, w, h, hR => by
   have ho : all[k]? = some o := by
    rw [<- Array.getElem?_toList];have := congrArg (·[0]?) hk;simp only [List.getElem?_cons_zero, List.getElem?_drop, Nat.add_zero] at this;exact this.symm
   have hrest : rest = all.toList.drop (k + 1) := by
    have := congrArg List.tail hk
    simpa using this
   simp only [opsD] at h;show wpOpsIn F n cx.P all Q (k :: List.range' (k + 1) rest.length) a w;simp only [wpOpsIn, ho]
   have yes : ∀ s, Rel w0 s a w -> Region.wanted o (yielded all a.tmps) = true -> (match yieldOf o.op s.fr with
    | some (l, first, caps, vs) => s.on fun fr hp r L w df => denLK r vs fun vs => YieldI F n cx.P w0 l (first.toList ++ vs) hp r L w fun v w2 => forgetK fr fun fr => putD ⟨fr, [], [], [], w2, df⟩ o.dst (.val v) (opsD F n cx w0 kp all.toList rest K)
    | none => opD cx w0 kp o s fun v s' => putD s' o.dst v (opsD F n cx w0 kp all.toList rest K)) ->
    (if Region.wanted o (yielded all a.tmps) = true then o.wpIn F n cx.P a w (wpOpsIn F n cx.P all Q (List.range' (k + 1) rest.length)) Q
      else (∀ f, o.about cx.P w a.eval = some f -> F.fn f) /\ wpOpsIn F n cx.P all Q (List.range' (k + 1) rest.length) (a.put o.dst undef) w) := fun s hR hwt hop => by
    rw [if_pos hwt];split at hop
    ·rename_i l first caps vs hy
     refine yield_sound (K := fun v s' => putD s' o.dst (.val v) (opsD F n cx w0 kp all.toList rest K)) hF hd hy hop hR fun v w2 hK hR' => ?_
     ·simp only [putD_eq] at hK
      exact opsD_sound hcx hF hd hw hkp hQ rest (k + 1) hrest _ _ _ hK (hR'.put _ fun _ => .inr rfl)
    refine (opD_sound (Hd := fun _ _ => True) (next := fun v w' => ∃ sv s', putD s' o.dst sv (opsD F n cx w0 kp all.toList rest K) /\ Rel w0 s' a w' /\ Is s'.r v sv) hcx (fun w2 h2 => ⟨hkp _ _ _ h2, trivial⟩) (fun _ => trivial) (fun _ _ => trivial) (fun _ _ _ _ _ _ _ _ _ _ => trivial) hop hR (fun v sv s' w' hK hR' hv _ _ => ⟨sv, s', hK, hR', hv⟩)).wpIn hF hd hw ?_;rintro v w' ⟨sv, s', hK, hR', hv⟩;rw [putD_eq] at hK;exact opsD_sound hcx hF hd hw hkp hQ rest (k + 1) hrest _ _ _ hK (hR'.put _ hv)
   have no : ∀ s, Rel w0 s a w -> Region.wanted o (yielded all a.tmps) = false -> putD s o.dst (.tup []) (opsD F n cx w0 kp all.toList rest K) ->
    (if Region.wanted o (yielded all a.tmps) = true then o.wpIn F n cx.P a w (wpOpsIn F n cx.P all Q (List.range' (k + 1) rest.length)) Q
      else (∀ f, o.about cx.P w a.eval = some f -> F.fn f) /\ wpOpsIn F n cx.P all Q (List.range' (k + 1) rest.length) (a.put o.dst undef) w) := fun s hR hwt hop => by
    rw [if_neg (by rw [hwt]; simp)];rw [putD_eq] at hop;exact ⟨fun f _ => hF f, opsD_sound hcx hF hd hw hkp hQ rest (k + 1) hrest _ _ _ hop (hR.put _ fun _ => .inr rfl)⟩
   unfold guardD at h;split at h
   ·rename_i hg
    exact yes s hR (by simp [Region.wanted, hg]) h
   ·rename_i j want hg
    split at h
    ·exact h.elim
    ·rename_i t ht
     have sub : ∀ b, fget s.fr t = .val (.bool b) -> Rel w0 (s.put (some t) (.kb b)) a w := fun b hv => hR.refine hv;split at h
     ·rename_i hv; exact yes s hR (by rw [guard_get hR hg ht (.inl hv)]; rfl) h
     ·rename_i hv; exact yes s hR (by rw [guard_get hR hg ht (.inl hv)]; rfl) h
     ·rename_i hv; exact no s hR (by rw [guard_get hR hg ht (.inl hv)]; rfl) h
     ·rename_i hv; exact no s hR (by rw [guard_get hR hg ht (.inl hv)]; rfl) h
     ·rename_i l hv; exact no s hR (guard_tup hR hg ht hv) h
     ·rename_i b hv
      cases b with
      | true => have h1 := h.1 rfl; rw [putD_eq] at h1; exact yes _ (sub _ hv) (by rw [guard_get hR hg ht (.inr hv)]; rfl) h1
      | false => have h1 := h.2 rfl; rw [putD_eq] at h1; exact no _ (sub _ hv) (by rw [guard_get hR hg ht (.inr hv)]; rfl) h1
     ·rename_i b hv
      cases b with
      | true => have h1 := h.1 rfl; rw [putD_eq] at h1; exact no _ (sub _ hv) (by rw [guard_get hR hg ht (.inr hv)]; rfl) h1
      | false => have h1 := h.2 rfl; rw [putD_eq] at h1; exact yes _ (sub _ hv) (by rw [guard_get hR hg ht (.inr hv)]; rfl) h1
     ·exact h.elim
theorem elemB_iff (n : Nat) (l : List Nat) : elemB n l = true ↔ n ∈ l := by
 induction l with
 | nil => simp [elemB]
 | cons a l ih =>
   simp only [elemB];split
   ·rename_i h; have := Nat.eq_of_beq_eq_true h; subst this; simp
   ·rename_i h
    have := Nat.ne_of_beq_eq_false h;rw [ih, List.mem_cons];constructor
    ·exact .inr
    ·rintro (h | h)
     ·exact absurd h.symm this
     ·exact h
theorem locs_mem {r l : List Nat} {b : Nat} : b ∈ locs r l ↔ ∃ i, i ∈ l /\ r.getD i 0 = b := by
 induction l with
 | nil => simp [locs]
 | cons i l ih =>
   simp only [locs, List.mem_cons, ih];constructor
   ·rintro (h | ⟨j, h1, h2⟩)
    ·exact ⟨i, .inl rfl, h.symm⟩
    ·exact ⟨j, .inr h1, h2⟩
   ·rintro ⟨j, h1 | h1, h2⟩
    ·subst h1; exact .inl h2.symm
    ·exact .inr ⟨j, h1, h2⟩
structure Own0 (wr : World) (M Ml : List Nat) (m0 : Nat) (r : List Nat) : Prop where
 old : ∀ i b, i < m0 -> r[i]? = some b -> b < wr.heap.size
 out : ∀ i b, i < m0 -> elemB i Ml = false -> r[i]? = some b -> b ∉ M
 inn : ∀ i b, elemB i Ml = true -> r[i]? = some b -> i < m0 -> b ∈ M
 new : ∀ i b, m0 <= i -> r[i]? = some b -> wr.heap.size <= b
theorem Own0.snoc {wr : World} {M Ml : List Nat} {m0 : Nat} {r : List Nat} (h : Own0 wr M Ml m0 r) (hm : m0 <= r.length) {b : Nat} (hb : wr.heap.size <= b) : Own0 wr M Ml m0 (r ++ [b]) := by
 have get : ∀ {i c}, (r ++ [b])[i]? = some c -> r[i]? = some c \/ (i = r.length /\ c = b) := fun {i c} hi => by
  rcases Nat.lt_or_ge i r.length with hl | hl
  ·rw [List.getElem?_append_left hl] at hi; exact .inl hi
  ·rw [List.getElem?_append_right hl, List.getElem?_singleton] at hi
   split at hi
   ·injection hi with hi; exact .inr ⟨by omega, hi.symm⟩
   ·cases hi
 refine ⟨fun i c hi hc => ?_, fun i c hi hl hc => ?_, fun i c hl hc hi => ?_, fun i c hi hc => ?_⟩
 ·rcases get hc with hc | ⟨rfl, rfl⟩
  ·exact h.old i c hi hc
  ·omega
 ·rcases get hc with hc | ⟨rfl, rfl⟩
  ·exact h.out i c hi hl hc
  ·omega
 ·rcases get hc with hc | ⟨rfl, rfl⟩
  ·exact h.inn i c hl hc hi
  ·omega
 ·rcases get hc with hc | ⟨rfl, rfl⟩
  ·exact h.new i c hi hc
  ·exact hb
theorem takeD_sound (hcx : CxOk cx) {wr : World} {M Ml : List Nat} {m0 : Nat} {o : Oper} {s : St} {a : Act} {w : World} {K : SV -> Prop} (h : takeD cx wr M Ml m0 o s K) (hR : Rel w0 s a w) (hH : Held wr M w) (hO : Own0 wr M Ml m0 s.r) :
 ∃ v sv, K sv /\ Is s.r v sv /\ ∀ w', Held wr M w' -> (execOp a.eval o).run cx.P w' = .ok (.value v) w' := by
 have h0 := pureD_sound hcx hR h;clear h;rcases h0 with h | ⟨v, sv, hK, hv, _, hrun⟩
 case inr => exact ⟨v, sv, hK, hv, fun w' _ => hrun w'⟩
 have far : ∀ w', Held wr M w' -> ∀ (b : Nat), b < wr.heap.size -> b ∉ M -> ∀ off, w'.cell? ⟨b, off, none⟩ = w.cell? ⟨b, off, none⟩ := fun w' hw' b hb hm off => by
  have h1 : w'.heap[b]? = w.heap[b]? := (hw'.2 b hb hm).trans (hH.2 b hb hm).symm;simp only [World.cell?, h1]
 obtain ⟨dst, op, ty, pos, after, guard⟩ := o;cases op
 case load t x =>
  simp only at h;split at h
  ·rename_i i b off hi hx
   have hT := hcx.T _ _ hi;split at h
   ·rename_i lb h1 h2 hlb
    have hblt : b < m0 := by simpa [Nat.blt_eq] using h1
    obtain ⟨g, hg⟩ := hR.has hlb;have hgw := hO.old b g hblt hg;have hgm := hO.out b g hblt h2 hg;have ha : ∀ u, a.eval x = .pointer (some ⟨g, off, none⟩) := fun u => by
     have := hR.ev1 hx (by simp) u;simp only [SV.den] at this
     rwa [getD_of hg] at this
    split at h
    ·rename_i hag
     split at h
     ·rename_i v hv
      rw [lget_eq] at hv;refine ⟨v.den (s.r ++ []), v, h, fun u => .inr ?_, fun w' hw' => ?_⟩
      ·have e1 := (hR.cell hg hlb hv []).symm.trans (hR.cell hg hlb hv u)
       injection e1
      ·have h3 := run_load_one (cx := cx) (w := w') hT hag ((far w' hw' g hgw hgm off).trans (hR.cell hg hlb hv []))
       simp [execOp, ha [], Sem.run_bind, h3, Result.andThen]
     ·exact h.elim
    ·rename_i hag
     split at h
     ·rename_i l hl
      obtain ⟨hll, hlc⟩ := lsub_eq hl;have cellU : ∀ u j c, (denL (s.r ++ u) l)[j]? = some c -> w.cell? ⟨g, off + j, none⟩ = some c := fun u j c hj => by
       rw [denL_eq, List.getElem?_map] at hj;cases hlj : l[j]? with
       | none => rw [hlj] at hj; cases hj
       | some z =>
         rw [hlj] at hj;injection hj with hj; subst hj;exact hR.cell hg hlb (hlc j z hlj) u
      have same : ∀ u, denL (s.r ++ []) l = denL (s.r ++ u) l := fun u => by
       apply List.ext_getElem?;intro j;rcases Nat.lt_or_ge j l.length with hj | hj
       ·have h3 : j < (denL (s.r ++ []) l).length := by rw [denL_len]; exact hj
        have h4 : j < (denL (s.r ++ u) l).length := by rw [denL_len]; exact hj
        have e1 := cellU [] j _ (List.getElem?_eq_getElem h3);have e2 := cellU u j _ (List.getElem?_eq_getElem h4);rw [e1] at e2;rw [List.getElem?_eq_getElem h3, List.getElem?_eq_getElem h4]; exact e2
       ·rw [List.getElem?_eq_none (by rw [denL_len]; exact hj), List.getElem?_eq_none (by rw [denL_len]; exact hj)]
      refine ⟨.agg (denL (s.r ++ []) l).toArray, .agg l, h, fun u => .inr ?_, fun w' hw' => ?_⟩
      ·simp only [SV.den]; rw [same u]
      ·have h3 := run_load_agg (cx := cx) (w := w') hT hag (ad := ⟨g, off, none⟩) (vs := denL (s.r ++ []) l) (by rw [denL_len, hll]) (fun j c hj => by
        rw [addr_add, far w' hw' g hgw hgm]; exact cellU [] j c hj)
       simp [execOp, ha [], Sem.run_bind, h3, Result.andThen]
     ·exact h.elim
   ·exact h.elim
  ·rename_i i ad hi hx
   have hT := hcx.T _ _ hi;have ha := hR.ev1 hx (by simp) [];simp only [SV.den] at ha;have farA : ∀ w', Held wr M w' -> ∀ {ad : Addr} {v : Value}, wr.cell? ad = some v -> ad.block ∉ M -> w'.cell? ad = some v := fun w' hw' {ad} {v} hc hm => by
    have hb := World.block_lt_of_cell? wr ad hc;have h1 := hw'.2 ad.block hb hm;rw [<- hc]; simp only [World.cell?, h1]
   split at h
   ·rename_i hag
    obtain ⟨v, ⟨hc, hm⟩, hK⟩ := h.h;refine ⟨v, _, hK, fun u => .inr rfl, fun w' hw' => ?_⟩;simp [execOp, ha, Sem.run_bind, run_load_one (cx := cx) (w := w') hT hag (farA w' hw' hc hm), Result.andThen]
   ·rename_i hag
    obtain ⟨vs, ⟨hl, _, hm, hc⟩, hK⟩ := h.h;refine ⟨.agg vs.toArray, _, hK, fun u => .inr ?_, fun w' hw' => ?_⟩
    ·simp [SV.den, denL_eq, Function.comp_def]
    ·have hblk : ∀ j, (ad.add j).block = ad.block := fun j => by unfold Addr.add; split <;> rfl
     simp [execOp, ha, Sem.run_bind, run_load_agg (cx := cx) (w := w') hT hag hl (fun j c hj => farA w' hw' (hc j c hj) (by rw [hblk]; exact hm)), Result.andThen]
  ·exact h.elim
 all_goals exact h.elim
theorem stepD_sound (hcx : CxOk cx) {wr : World} {M Ml : List Nat} {m0 : Nat} {o : Oper} {s : St} {a : Act} {w : World} {K : SV -> St -> Prop} (h : stepD cx w0 wr M Ml m0 o false s K) (hR : Rel w0 s a w) (hH : Held wr M w) (hO : Own0 wr M Ml m0 s.r) (hm : m0 <= s.r.length) :
 OpRes cx.P o a w fun v w' => Held wr M w' /\ ∃ sv s', K sv s' /\ Rel w0 s' a w' /\ Is s'.r v sv /\ Own0 wr M Ml m0 s'.r /\ m0 <= s'.r.length := by
 simp only [stepD] at h;split at h
 ·rename_i hsafe
  refine opD_sound (Hd := fun w1 w2 => w1.heap.size <= w2.heap.size /\ ∀ k, k < wr.heap.size -> k ∉ M -> k < w1.heap.size -> w2.heap[k]? = w1.heap[k]?) (next := fun v w' => Held wr M w' /\ ∃ sv s', K sv s' /\ Rel w0 s' a w' /\ Is s'.r v sv /\ Own0 wr M Ml m0 s'.r /\ m0 <= s'.r.length) hcx
   (fun w2 h2 => ⟨(h2 hH.1).1, (h2 hH.1).1.1.size, fun k hk hkm _ => (h2 hH.1).2 k hk hkm⟩) (fun w => ⟨Nat.le_refl _, fun _ _ _ _ => rfl⟩) (fun w o => ⟨by simp, fun k _ _ hk => Below.heap_alloc w o k hk⟩) ?_ h hR ?_
  ·intro t x y b off g cs hop hx hg
   refine ⟨by simp, fun k hk hkm _ => setRow_other w g k cs (fun e => ?_)⟩;subst e;have hs2 : safeSt o s Ml m0 = true := hsafe;simp only [safeSt, hop, hx] at hs2;cases he : elemB b Ml with
   | true =>
     rcases Nat.lt_or_ge b m0 with hb | hb
     ·exact hkm (hO.inn b k he hg hb)
     ·exact absurd (hO.new b k hb hg) (by omega)
   | false =>
     cases hbl : Nat.blt b m0 with
     | true => simp [he, hbl] at hs2
     | false =>
       have hb : m0 <= b := by
        rcases Nat.lt_or_ge b m0 with h1 | h1
        ·have : Nat.blt b m0 = true := by simpa [Nat.blt_eq] using h1
         rw [this] at hbl; cases hbl
        ·exact h1
       exact absurd (hO.new b k hb hg) (by omega)
  ·intro v sv s' w' hK hR' hv hHd hr
   refine ⟨⟨Nat.le_trans hH.1 hHd.1, fun k hk hkm => (hHd.2 k hk hkm (Nat.lt_of_lt_of_le hk hH.1)).trans (hH.2 k hk hkm)⟩, sv, s', hK, hR', hv, ?_, ?_⟩
   ·rcases hr with hr | hr
    ·rw [hr]; exact hO
    ·rw [hr]; exact hO.snoc hm hH.1
   ·rcases hr with hr | hr
    ·rw [hr]; exact hm
    ·rw [hr]; simp; omega
 ·exact h.elim
theorem guardD_sound {all : Array Oper} {o : Oper} {s : St} {a : Act} {w : World} {yes no : St -> Prop} {C : Prop} (h : guardD all.toList o s yes no) (hR : Rel w0 s a w)
 (hyes : ∀ s', Rel w0 s' a w -> s'.r = s.r -> Region.wanted o (yielded all a.tmps) = true -> yes s' -> C) (hno : ∀ s', Rel w0 s' a w -> s'.r = s.r -> Region.wanted o (yielded all a.tmps) = false -> no s' -> C) : C := by
 unfold guardD at h;split at h
 ·rename_i hg
  exact hyes s hR rfl (by simp [Region.wanted, hg]) h
 ·rename_i j want hg
  split at h
  ·exact h.elim
  ·rename_i t ht
   have sub : ∀ b, fget s.fr t = .val (.bool b) -> Rel w0 (s.put (some t) (.kb b)) a w := fun b hv => hR.refine hv;split at h
   ·rename_i hv; exact hyes s hR rfl (by rw [guard_get hR hg ht (.inl hv)]; rfl) h
   ·rename_i hv; exact hyes s hR rfl (by rw [guard_get hR hg ht (.inl hv)]; rfl) h
   ·rename_i hv; exact hno s hR rfl (by rw [guard_get hR hg ht (.inl hv)]; rfl) h
   ·rename_i hv; exact hno s hR rfl (by rw [guard_get hR hg ht (.inl hv)]; rfl) h
   ·rename_i l hv; exact hno s hR rfl (guard_tup hR hg ht hv) h
   ·rename_i b hv
    cases b with
    | true => have h1 := h.1 rfl; rw [putD_eq] at h1; exact hyes _ (sub _ hv) rfl (by rw [guard_get hR hg ht (.inr hv)]; rfl) h1
    | false => have h1 := h.2 rfl; rw [putD_eq] at h1; exact hno _ (sub _ hv) rfl (by rw [guard_get hR hg ht (.inr hv)]; rfl) h1
   ·rename_i b hv
    cases b with
    | true => have h1 := h.1 rfl; rw [putD_eq] at h1; exact hno _ (sub _ hv) rfl (by rw [guard_get hR hg ht (.inr hv)]; rfl) h1
    | false => have h1 := h.2 rfl; rw [putD_eq] at h1; exact hyes _ (sub _ hv) rfl (by rw [guard_get hR hg ht (.inr hv)]; rfl) h1
   ·exact h.elim
theorem drawD_sound (hcx : CxOk cx) {wr : World} {M Ml : List Nat} {m0 : Nat} {all : Array Oper} (hns : Region.noSelect all = true) {K : St -> Prop} :
 ∀ (sch : Sch) (n : Nat) (listed : Array Bool) (s : St) (a : Act) (w : World), schedOk all n listed sch = true -> drawD cx w0 wr M Ml m0 all.toList K sch s -> Rel w0 s a w -> Held wr M w -> Own0 wr M Ml m0 s.r -> m0 <= s.r.length ->
  wpAnyH cx.P .any all (fun e a w => e = .normal /\ ∃ s', Rel w0 s' a w /\ K s') (Held wr M) n listed a w := by
 have hQ : ∀ (o : Oper) (c : List PanicEntry) (a : Act) (w : World) (v : Value), (Exit.panic c = Exit.normal /\ ∃ s', Rel w0 s' (a.put o.dst v) w /\ K s') -> (Exit.panic c = Exit.normal /\ ∃ s', Rel w0 s' a w /\ K s') := fun o c a w v h => by cases h.1
 have put : ∀ {s : St} {d : Option Tmp} {sv : SV}, (s.put d sv).r = s.r := fun {s d sv} => by cases d <;> rfl
 -- an operation that is the only one ready, or one of two
 have event : ∀ (t : Sch) (n : Nat) (listed' : Array Bool) (o : Oper) (s : St) (a : Act) (w : World),
  (∀ (s : St) (a : Act) (w : World), drawD cx w0 wr M Ml m0 all.toList K t s -> Rel w0 s a w -> Held wr M w -> Own0 wr M Ml m0 s.r -> m0 <= s.r.length -> wpAnyH cx.P .any all (fun e a w => e = .normal /\ ∃ s', Rel w0 s' a w /\ K s') (Held wr M) n listed' a w) ->
  guardD all.toList o s (fun s => stepD cx w0 wr M Ml m0 o false s fun v s' => putD s' o.dst v (drawD cx w0 wr M Ml m0 all.toList K t)) (fun s => putD s o.dst (.tup []) (drawD cx w0 wr M Ml m0 all.toList K t)) ->
  Rel w0 s a w -> Held wr M w -> Own0 wr M Ml m0 s.r -> m0 <= s.r.length -> ∀ i, all[i]? = some o ->
  wpOp cx.P all (fun e a w => e = .normal /\ ∃ s', Rel w0 s' a w /\ K s') i (fun a w => Held wr M w /\ wpAnyH cx.P .any all (fun e a w => e = .normal /\ ∃ s', Rel w0 s' a w /\ K s') (Held wr M) n listed' a w) a w := by
  intro t n listed' o s a w ih h hR hH hO hm i ho;refine guardD_sound h hR (fun s' hR' hr hwt hst => ?_) (fun s' hR' hr hwt hst => ?_)
  ·unfold wpOp
   simp only [ho, hwt, if_true];refine .inl ((stepD_sound hcx hst hR' hH (by rw [hr]; exact hO) (by rw [hr]; exact hm)).wp ?_);rintro v w' ⟨hH', sv, s2, hK, hR2, hv, hO2, hm2⟩;rw [putD_eq] at hK;exact ⟨hH', ih _ _ _ hK (hR2.put _ hv) hH' (by rw [put]; exact hO2) (by rw [put]; exact hm2)⟩
  ·unfold wpOp
   simp only [ho, hwt, Bool.false_eq_true, if_false];rw [putD_eq] at hst;exact ⟨hH, ih _ _ _ hst (hR'.put _ fun _ => .inr rfl) hH (by rw [put, hr]; exact hO) (by rw [put, hr]; exact hm)⟩
 intro sch
 induction sch with
 | done =>
   intro n listed s a w hs h hR hH hO hm;cases n with
   | zero =>
     have : Region.ready .any all listed = [] := by simpa [schedOk] using hs
     exact ⟨this, rfl, s, hR, h⟩
   | succ n => cases hs
 | tk i t ih =>
   intro n listed s a w hs h hR hH hO hm;cases n with
   | zero => cases hs
   | succ n =>
   simp only [schedOk, Bool.and_eq_true] at hs;simp only [drawD] at h;split at h
   ·exact h.elim
   ·rename_i o ho
    rw [oget_eq, Array.getElem?_toList] at ho;refine guardD_sound h hR (fun s' hR' hr hwt hst => ?_) (fun s' hR' hr hwt hst => ?_)
    ·simp only [stepD] at hst
     obtain ⟨v, sv, hK, hv, hrun⟩ := takeD_sound hcx hst hR' hH (by rw [hr]; exact hO);rw [putD_eq] at hK;exact wpAnyH_take ho hns hs.1.2 hs.1.1 (fun c a w => hQ o c a w v) (.inl ⟨hwt, hrun⟩) hH (ih n _ _ _ _ hs.2 hK (hR'.put _ hv) hH (by rw [put, hr]; exact hO) (by rw [put, hr]; exact hm))
    ·rw [putD_eq] at hst
     exact wpAnyH_take ho hns hs.1.2 hs.1.1 (fun c a w => hQ o c a w undef) (.inr ⟨hwt, rfl⟩) hH (ih n _ _ _ _ hs.2 hst (hR'.put _ fun _ => .inr rfl) hH (by rw [put, hr]; exact hO) (by rw [put, hr]; exact hm))
 | ev i t ih =>
   intro n listed s a w hs h hR hH hO hm;cases n with
   | zero => cases hs
   | succ n =>
   simp only [schedOk, Bool.and_eq_true, decide_eq_true_eq] at hs;simp only [drawD] at h;split at h
   ·exact h.elim
   ·rename_i o ho
    rw [oget_eq, Array.getElem?_toList] at ho;refine wpAnyH_all hs.1 (by simp) fun j hj => ?_;rw [List.mem_singleton.1 hj];exact event t n _ o s a w (fun s a w h1 h2 h3 h4 h5 => ih n _ s a w hs.2 h1 h2 h3 h4 h5) h hR hH hO hm i ho
 | two i t j u iht ihu =>
   intro n listed s a w hs h hR hH hO hm;cases n with
   | zero => cases hs
   | succ n =>
   simp only [schedOk, Bool.and_eq_true, decide_eq_true_eq] at hs;simp only [drawD] at h;split at h
   ·rename_i o p ho hp
    rw [oget_eq, Array.getElem?_toList] at ho hp;refine wpAnyH_all hs.1.1 (by simp) fun j' hj => ?_;simp only [List.mem_cons, List.not_mem_nil, or_false] at hj;rcases hj with rfl | rfl
    ·exact event t n _ o s a w (fun s a w h1 h2 h3 h4 h5 => iht n _ s a w hs.1.2 h1 h2 h3 h4 h5) h.l hR hH hO hm _ ho
    ·exact event u n _ p s a w (fun s a w h1 h2 h3 h4 h5 => ihu n _ s a w hs.2 h1 h2 h3 h4 h5) h.r hR hH hO hm _ hp
   ·exact h.elim
theorem codeD_sound (hcx : CxOk cx) (hF : ∀ f, F.fn f) (hd : F.depth = none) (hw : ∀ (n : Nat) g args w (R : Ending -> World -> Prop), Calls cx.P g args w R -> CallsIn F n cx.P g args w R)
 (hdraw : ∀ (id : Nat) (ops : Array Oper) (a : Act) (w : World) {Q : Act -> World -> Prop}, ops.all noDefer = true -> wpAny cx.P .any ops (fun e a w => e = .normal /\ Q a w) ops.size (Array.replicate ops.size false) a w.drew -> (Code.region id ops true).wpIn F n cx.P (fun e a w => e = .normal /\ Q a w) a w) (c : Code) :
 ∀ (K : Exit -> St -> Prop) (s : St) (a : Act) (w : World) (Q : Exit -> Act -> World -> Prop), codeD F n cx w0 c K s -> Rel w0 s a w -> (∀ e s' a' w', K e s' -> Rel w0 s' a' w' -> Q e a' w') -> c.wpIn F n cx.P Q a w := by
 have raw : ∀ (c : Code) (K : Exit -> St -> Prop) (s : St) (a : Act) (w : World) (Q : Exit -> Act -> World -> Prop), RawI F n cx w0 c K s -> Rel w0 s a w -> (∀ e s' a' w', K e s' -> Rel w0 s' a' w' -> Q e a' w') -> c.wpIn F n cx.P Q a w :=
  fun c K s a w Q h hR hQ => wpIn_mono (h.h a w hR) fun e a' w' ⟨s', h1, h2⟩ => hQ e s' a' w' h2 h1
 induction c with
 | skip => exact fun K s a w Q h hR hQ => wpIn_skip (hQ _ _ _ _ h hR)
 | label l => exact fun K s a w Q h hR hQ => wpIn_label (hQ _ _ _ _ h hR)
 | exit id => exact fun K s a w Q h hR hQ => wpIn_exit (hQ _ _ _ _ h hR)
 | goto l => exact fun K s a w Q h hR hQ => wpIn_goto (hQ _ _ _ _ h hR)
 | ret => exact fun K s a w Q h hR hQ => wpIn_ret (hQ _ _ _ _ h hR)
 | region id ops draw =>
   intro K s a w Q h hR hQ;cases draw with
   | true =>
     simp only [codeD, St.on_eq] at h;obtain ⟨sched, Ml, Mf, hsch, hlt, h⟩ := h.h;obtain ⟨hMf, h⟩ := h w hR.at_;rw [force_eq] at h;simp only [schedAll, Bool.and_eq_true, decide_eq_true_eq] at hsch;have hR2 : Rel w0 ⟨s.fr, s.hp, s.r, [], w, s.df⟩ a w.drew := by
      have h1 := hR.keep (w2 := w.drew) ⟨(Below.refl _ _).drew, fun _ _ => rfl⟩;exact ⟨h1.df, h1.fits, ⟨h1.at_.below, h1.at_.size, h1.at_.step, h1.at_.blk, h1.at_.fresh, h1.at_.lt, hR.at_.below⟩, h1.blk, h1.nod, h1.len⟩
     have hO : Own0 w (locs s.r Ml ++ Mf) Ml s.r.length s.r := by
      refine ⟨fun i b _ hb => hR.at_.lt b (List.mem_of_getElem? hb), fun i b hi hl hb hm => ?_, fun i b hl hb hi => ?_, fun i b hi hb => ?_⟩
      ·rcases List.mem_append.1 hm with hm | hm
       ·obtain ⟨j, hj, hjb⟩ := locs_mem.1 hm
        have hjlt : j < s.r.length := ltAll_mem hlt hj;rw [List.getD_eq_getElem?_getD, List.getElem?_eq_getElem hjlt] at hjb;have : s.r[j]? = s.r[i]? := by rw [hb, List.getElem?_eq_getElem hjlt]; exact congrArg some hjb
        have := (List.getElem?_inj hjlt hR.nod).1 this;subst this;have := (elemB_iff j Ml).2 hj;rw [this] at hl; cases hl
       ·exact hMf b (List.mem_of_getElem? hb) hm
      ·exact List.mem_append.2 (.inl (locs_mem.2 ⟨i, (elemB_iff i Ml).1 hl, by rw [List.getD_eq_getElem?_getD, hb]; rfl⟩))
      ·exact absurd (List.getElem?_eq_some_iff.1 hb).1 (by omega)
     have hany := drawD_sound hcx hsch.1.1 sched _ _ _ a w.drew hsch.2 h hR2 ⟨Nat.le_refl _, fun _ _ _ => rfl⟩ hO (Nat.le_refl _);refine wpIn_mono (hdraw id ops a w hsch.1.2 (wpAny_of_held _ _ _ _ hany)) ?_;rintro e a' w' ⟨rfl, s', hR', hK⟩;exact hQ _ _ _ _ hK hR'
   | false =>
     refine wpIn_region ?_;have := opsD_sound (n := n) hcx hF hd hw (kp := Keep w0) (fun _ _ _ h => h) (all := ops) (Q := Q) (K := K .normal) (fun s a w h hR => hQ _ s a w h hR) ops.toList 0 (by simp) s a w h hR;rw [List.range_eq_range']
     simpa using this
 | seq x y ihx ihy =>
   intro K s a w Q h hR hQ;refine wpIn_seq (ihx _ s a w _ h hR fun e s' a' w' hK hR' => ?_);cases e with
   | normal => exact ihy K s' a' w' Q hK hR' hQ
   | exit id => exact hQ _ _ _ _ hK hR'
   | goto l => exact hQ _ _ _ _ hK hR'
   | ret => exact hQ _ _ _ _ hK hR'
   | panic ch => exact hQ _ _ _ _ hK hR'
   | outgrown => exact hQ _ _ _ _ hK hR'
 | cond c x y ihx ihy =>
   intro K s a w Q h hR hQ;simp only [codeD] at h;split at h
   ·rename_i hc; exact wpIn_cond_true (hR.ev1 hc (by simp) []) (ihx K s a w Q h hR hQ)
   ·rename_i hc; exact wpIn_cond_false (hR.ev1 hc (by simp) []) (ihy K s a w Q h hR hQ)
   ·rename_i b hc
    have hb := hR.ev1 hc (by simp) [];cases b with
    | true => exact wpIn_cond_true hb (ihx K s a w Q (h.1 rfl) hR hQ)
    | false => exact wpIn_cond_false hb (ihy K s a w Q (h.2 rfl) hR hQ)
   ·exact h.elim
 | block id b ih =>
   intro K s a w Q h hR hQ;refine wpIn_block (ih _ s a w _ h hR fun e s' a' w' hK hR' => ?_);cases e with
   | exit i =>
     simp only [Exit.inBlock];change (match Nat.beq i id with | true => K .normal s' | false => K (.exit i) s') at hK;split at hK
     ·rename_i hb; rw [if_pos (Nat.eq_of_beq_eq_true hb)]; exact hQ _ _ _ _ hK hR'
     ·rename_i hb; rw [if_neg (Nat.ne_of_beq_eq_false hb)]; exact hQ _ _ _ _ hK hR'
   | normal => exact hQ _ _ _ _ hK hR'
   | goto l => exact hQ _ _ _ _ hK hR'
   | ret => exact hQ _ _ _ _ hK hR'
   | panic ch => exact hQ _ _ _ _ hK hR'
   | outgrown => exact hQ _ _ _ _ hK hR'
 | loop b ih =>
   intro K s a w Q h hR hQ;obtain ⟨nn, h⟩ := h.h
   refine wpIn_loop_wf (fun k m a w => (m = 0 /\ 1 <= k /\ ∃ s, unrD w0 (codeD F n cx w0 b) b K (k - 1) s /\ Rel w0 s a w) \/
    (k = 0 /\ ∃ (fr : Fr) (r : List Nat) (α : Type) (vals : α -> List (Nat × SV)) (hpf : α -> List LB) (wd : α -> World) (dff : α -> List Deferred) (Φ : α -> Prop) (μ : α -> Nat),
      (∀ x, Φ x -> codeD F n cx w0 b (fun e s2 => match e with
        | .normal => ∀ w1, AtW w0 s2 w1 -> ∃ y, Cov (setM (junkM fr (wrs b)) (vals y)) (hpf y) r (dff y) s2 /\ wd y = w1 /\ Φ y /\ μ y < μ x
        | e => K e s2) ⟨setM (junkM fr (wrs b)) (vals x), hpf x, r, [], wd x, dff x⟩) /\
      ∃ x, μ x = m /\ Φ x /\ Rel w0 ⟨setM (junkM fr (wrs b)) (vals x), hpf x, r, [], wd x, dff x⟩ a w /\ wd x = w)) (nn + 1) 0 (.inl ⟨rfl, by omega, s, by simpa using h, hR⟩) ?_
   -- a round from a state that is told
   have told : ∀ (fr : Fr) (r : List Nat) (α : Type) (vals : α -> List (Nat × SV)) (hpf : α -> List LB) (wd : α -> World) (dff : α -> List Deferred) (Φ : α -> Prop) (μ : α -> Nat) (kk : Nat) (x : α) (a : Act) (w : World),
    (∀ x, Φ x -> codeD F n cx w0 b (fun e s2 => match e with
      | .normal => ∀ w1, AtW w0 s2 w1 -> ∃ y, Cov (setM (junkM fr (wrs b)) (vals y)) (hpf y) r (dff y) s2 /\ wd y = w1 /\ Φ y /\ μ y < μ x
      | e => K e s2) ⟨setM (junkM fr (wrs b)) (vals x), hpf x, r, [], wd x, dff x⟩) ->
    Φ x -> Rel w0 ⟨setM (junkM fr (wrs b)) (vals x), hpf x, r, [], wd x, dff x⟩ a w -> (∀ y, μ y < μ x -> 0 < kk \/ (kk = 0 /\ μ y < μ x)) ->
    b.wpIn F n cx.P (Exit.then (fun a' w' => ∃ y, μ y < μ x /\ Φ y /\ Rel w0 ⟨setM (junkM fr (wrs b)) (vals y), hpf y, r, [], wd y, dff y⟩ a' w' /\ wd y = w') Q) a w := by
    intro fr r α vals hpf wd dff Φ μ kk x a w hstep hΦ hRx _;refine ih _ _ a w _ (hstep x hΦ) hRx fun e s' a' w' hK hR' => ?_;cases e with
    | normal =>
      obtain ⟨y, hcy, hwy, hΦy, hμ⟩ := hK w' hR'.at_;exact ⟨y, hμ, hΦy, by rw [hwy]; exact cov_rel hR' hcy, hwy⟩
    | exit id => exact hQ _ _ _ _ hK hR'
    | goto l => exact hQ _ _ _ _ hK hR'
    | ret => exact hQ _ _ _ _ hK hR'
    | panic ch => exact hQ _ _ _ _ hK hR'
    | outgrown => exact hQ _ _ _ _ hK hR'
   rintro k m a w (⟨rfl, hk, s, hu, hR⟩ | ⟨rfl, fr, r, α, vals, hpf, wd, dff, Φ, μ, hstep, x, rfl, hΦ, hRx, hwx⟩)
   ·obtain ⟨k, rfl⟩ : ∃ k', k = k' + 1 := ⟨k - 1, by omega⟩
    simp only [Nat.add_sub_cancel] at hu;cases k with
    | zero =>
      unfold unrD LoopInv at hu;rw [St.on_eq] at hu;obtain ⟨α, vals, hpf, wd, dff, Φ, μ, h0, hstep⟩ := hu;obtain ⟨x0, hc0, hw0, hΦ0⟩ := h0 w hR.at_;rw [headK_eq] at hc0
      have hstep' : ∀ x, Φ x -> codeD F n cx w0 b (fun e s2 => match e with
       | .normal => ∀ w1, AtW w0 s2 w1 -> ∃ y, Cov (setM (junkM s.fr (wrs b)) (vals y)) (hpf y) s.r (dff y) s2 /\ wd y = w1 /\ Φ y /\ μ y < μ x
       | e => K e s2) ⟨setM (junkM s.fr (wrs b)) (vals x), hpf x, s.r, [], wd x, dff x⟩ := fun x hΦ => by
       have h1 := hstep x hΦ;rw [headK_eq] at h1;simp only [headK_eq] at h1
       have e1 : (fun (e : Exit) (s2 : St) => match e with
        | .normal => ∀ w1, AtW w0 s2 w1 -> ∃ y, Cov (setM (junkM s.fr (wrs b)) (vals y)) (hpf y) s.r (dff y) s2 /\ wd y = w1 /\ Φ y /\ μ y < μ x
        | e => K e s2) = (fun (e : Exit) (s2 : St) => match e with
        | .normal => s2.on fun fr2 hp2 r2 L2 w2 df2 => EndI w0 hp2 r2 L2 w2 undef fun _ w1 => ∃ y, Cov (setM (junkM s.fr (wrs b)) (vals y)) (hpf y) s.r (dff y) ⟨fr2, hp2, r2, L2, w2, df2⟩ /\ wd y = w1 /\ Φ y /\ μ y < μ x
        | e => K e s2) := by
        funext e s2
        cases e with
        | normal => simp only [St.on_eq]; exact propext ⟨fun h => ⟨h⟩, fun h => h.h⟩
        | exit id => rfl
        | goto l => rfl
        | ret => rfl
        | panic ch => rfl
        | outgrown => rfl
       rw [e1]; exact h1
      refine wpIn_mono (told s.fr s.r α vals hpf wd dff Φ μ 0 x0 a w hstep' hΦ0 (by rw [hw0]; exact cov_rel hR hc0) fun y hy => .inr ⟨rfl, hy⟩) ?_;intro e a' w' hq;cases e with
      | normal =>
        obtain ⟨y, hμ, hΦy, hRy, hwy⟩ := hq;exact ⟨0, μ y, .inl (by omega), .inr ⟨rfl, s.fr, s.r, α, vals, hpf, wd, dff, Φ, μ, hstep', y, rfl, hΦy, hRy, hwy⟩⟩
      | exit id => exact hq
      | goto l => exact hq
      | ret => exact hq
      | panic ch => exact hq
      | outgrown => exact hq
    | succ k =>
      unfold unrD at hu;refine ih _ _ a w _ hu hR fun e s' a' w' hK hR' => ?_;cases e with
      | normal => exact ⟨k + 1, 0, .inl (by omega), .inl ⟨rfl, by omega, s', by simpa using hK, hR'⟩⟩
      | exit id => exact hQ _ _ _ _ hK hR'
      | goto l => exact hQ _ _ _ _ hK hR'
      | ret => exact hQ _ _ _ _ hK hR'
      | panic ch => exact hQ _ _ _ _ hK hR'
      | outgrown => exact hQ _ _ _ _ hK hR'
   ·refine wpIn_mono (told fr r α vals hpf wd dff Φ μ 0 x a w hstep hΦ hRx fun y hy => .inr ⟨rfl, hy⟩) ?_
    intro e a' w' hq;cases e with
    | normal =>
      obtain ⟨y, hμ, hΦy, hRy, hwy⟩ := hq;exact ⟨0, μ y, .inr ⟨rfl, hμ⟩, .inr ⟨rfl, fr, r, α, vals, hpf, wd, dff, Φ, μ, hstep, y, rfl, hΦy, hRy, hwy⟩⟩
    | exit id => exact hq
    | goto l => exact hq
    | ret => exact hq
    | panic ch => exact hq
    | outgrown => exact hq
 | rangeFunc f ps x y _ _ => exact raw _
 | scope b _ => exact raw _
 | refuse why => exact raw _
end sound2
def resV (cx : Cx) (s : St) : ResultVar -> Option SV
 | .tmp t => (match fget s.fr t with | .junk => none | v => some v)
 | .cell t ty =>
   (match cx.T ty, fget s.fr t with
   | some i, .loc b o =>
     (match hget s.hp b with
     | some lb => (match i.ag with | false => lget lb.cells o | true => (match lsub lb.cells o i.zero.length with | some l => some (.agg l) | none => none))
     | none => none)
   | _, _ => none)
def resD (cx : Cx) (s : St) : List ResultVar -> Option (List SV)
 | [] => some []
 | x :: l => (match resV cx s x, resD cx s l with | some v, some r => some (v :: r) | _, _ => none)
section sound3
variable {F : Fence} {n : Nat} {cx : Cx} {w0 : Base}
def resOne (tm : Array Value) : ResultVar -> Sem Value
 | .tmp t => pure (tm.getD t undef)
 | .cell p t => do loadVar t (<- asAddr (tm.getD p undef))
theorem results_eq (fn : Func) (tm : Array Value) : results fn tm = (do let vs <- fn.results.mapM (resOne tm); pure (if h : vs.size = 1 then vs[0] else .tuple vs)) := by
 unfold results
 congr 1
theorem resV_sound (hcx : CxOk cx) {s : St} {a : Act} {w : World} (hR : Rel w0 s a w) {x : ResultVar} {v : SV} (h : resV cx s x = some v) :
 (resOne a.tmps x).run cx.P w = .ok (v.den s.r) w := by
 cases x with
 | tmp t =>
   simp only [resV] at h;have h1 := (hR.fits []).2 t;rw [List.append_nil] at h1;split at h
   ·cases h
   ·rename_i hj
    injection h with h;rcases h1 with h1 | h1
    ·exact absurd h1 hj
    ·simp only [resOne, Sem.run_pure, h1, h]
 | cell p t =>
   simp only [resV] at h;split at h
   ·rename_i i b o hi hx
    have hT := hcx.T _ _ hi;split at h
    ·rename_i lb hlb
     obtain ⟨g, hg⟩ := hR.has hlb;have ha : a.tmps.getD p undef = .pointer (some ⟨g, o, none⟩) := by
      rcases (hR.fits []).2 p with h1 | h1
      ·rw [hx] at h1; cases h1
      ·rw [h1, hx]; simp only [SV.den]; rw [getD_of hg]
     split at h
     ·rename_i hag
      rw [lget_eq] at h;have h1 := run_load_one (cx := cx) (w := w) hT hag (hR.cell hg hlb h []);simp only [Instr.loadAt, Instr.sureAddr, List.append_nil] at h1;simp [resOne, ha, asAddr, Sem.run_bind, Result.andThen] at h1 ⊢;exact h1
     ·rename_i hag
      split at h
      ·rename_i l hl
       injection h with h; subst h;obtain ⟨hll, hlc⟩ := lsub_eq hl
       have h1 := run_load_agg (cx := cx) (w := w) hT hag (ad := ⟨g, o, none⟩) (vs := denL (s.r ++ []) l) (by rw [denL_len, hll]) (fun j c hj => by
        rw [denL_eq, List.getElem?_map] at hj;cases hlj : l[j]? with
        | none => rw [hlj] at hj; cases hj
        | some z =>
          rw [hlj] at hj;injection hj with hj; subst hj;rw [addr_add];exact hR.cell hg hlb (hlc j z hlj) [])
       simp only [Instr.loadAt, Instr.sureAddr, List.append_nil] at h1;simp [resOne, ha, asAddr, Sem.run_bind, Result.andThen] at h1 ⊢;rw [h1]; rfl
      ·cases h
    ·cases h
   ·cases h
theorem resD_sound (hcx : CxOk cx) {s : St} {a : Act} {w : World} (hR : Rel w0 s a w) : ∀ {l : List ResultVar} {r : List SV}, resD cx s l = some r ->
 (l.mapM (resOne a.tmps)).run cx.P w = .ok (denL s.r r) w
 | [], r, h => by injection h with h; subst h; simp; rfl
 | x :: l, r, h => by
   simp only [resD] at h;split at h
   ·rename_i v r' hv hr
    injection h with h; subst h;have h1 := resV_sound hcx hR hv;have h2 := resD_sound hcx hR hr;rw [List.mapM_cons];simp only [Sem.run_bind, h1, h2, Result.andThen, Sem.run_pure]
    rfl
   ·cases h
end sound3
def lookT {α : Type} : List (Nat × α) -> Nat -> Option α
 | [], _ => none
 | (k, v) :: l, n => match Nat.beq k n with | true => some v | false => lookT l n
def AllT {α : Type} (p : Nat -> α -> Prop) : List (Nat × α) -> Prop
 | [] => True
 | (k, v) :: l => p k v /\ AllT p l
theorem lookT_ok {α : Type} {p : Nat -> α -> Prop} : ∀ {l : List (Nat × α)}, AllT p l -> ∀ {n : Nat} {v : α}, lookT l n = some v -> p n v
 | [], _, n, v, h => by cases h
 | (k, u) :: l, ha, n, v, h => by
   simp only [lookT] at h;split at h
   ·rename_i hb
    injection h with h; subst h;have := Nat.eq_of_beq_eq_true hb;subst this;exact ha.1
   ·exact lookT_ok ha.2 h
structure LI where
 off : Nat
 size : Nat
structure Tabs where
 ty : List (Nat × TI)
 lay : List (Nat × List (Nat × Nat))
 fl : List (Nat × List (Nat × Nat))
 el : List (Nat × Nat)
 sl : List (Nat × (Nat × TI))
 ik : List (Nat × IntKind)
 bo : List (Nat × Unit)
 ar : List (Nat × (Nat × Nat))
 fv : List (Nat × List (Nat × Nat × Bool))
 fn : List (Nat × Unit)
def fvGet : List (Nat × Nat × Bool) -> Nat -> Option (Nat × Nat × Bool)
 | [], _ => none
 | a :: _, 0 => some a
 | _ :: l, n + 1 => fvGet l n
def fvOf (l : List (Nat × List (Nat × Nat × Bool))) (t j : Nat) : Option (Nat × Nat × Bool) :=
 match lookT l t with
 | some pl => fvGet pl j
 | none => none
def isSo (o : Option Unit) : Bool := match o with | some _ => true | none => false
def fldOf (l : List (Nat × List (Nat × Nat))) (t j : Nat) : Option Nat :=
 match lookT l t with
 | some pl => (match pget pl j with | some (off, size) => (match size with | 0 => none | _ + 1 => some off) | none => none)
 | none => none
def Tabs.cx (T : Tabs) (P : Program) : Cx :=
 { P := P, T := lookT T.ty, fld := fldOf T.fl, el := lookT T.el, sl := lookT T.sl, lay := lookT T.lay, ik := lookT T.ik, bo := fun t => isSo (lookT T.bo t), ar := lookT T.ar, fv := fvOf T.fv, fn := fun f => isSo (lookT T.fn f) }
theorem tyOk_one {P : Program} {t : TypeId} {z : Value} (h0 : ∀ w, (zeroValue t).run P w = .ok z w) (h1 : ∀ w, (sizeOf t).run P w = .ok 1 w) (h2 : ∀ w, (isAgg t).run P w = .ok false w) (ho : z.oneCell' = true) : TyOk P t ⟨[z], false⟩ :=
 ⟨h0, h1, h2, fun _ => rfl, fun v hv => by rw [List.mem_singleton.1 hv]; exact ho⟩
theorem tyOk_agg {P : Program} {t : TypeId} {zs : List Value} (h0 : ∀ w, (zeroValue t).run P w = .ok (.agg zs.toArray) w) (h1 : ∀ w, (sizeOf t).run P w = .ok zs.length w) (h2 : ∀ w, (isAgg t).run P w = .ok true w) (ho : zs.all (·.oneCell') = true) : TyOk P t ⟨zs, true⟩ :=
 ⟨h0, h1, h2, fun h => (by cases h), fun v hv => by rw [List.all_eq_true] at ho; exact ho v hv⟩
def AllF (P : Program) : List Field -> List (Nat × Nat) -> Prop
 | [], [] => True
 | f :: l, (off, size) :: pl => (f.offset = off /\ ∀ w, (sizeOf f.type).run P w = .ok size w) /\ AllF P l pl
 | _, _ => False
theorem allF_get {P : Program} : ∀ {l : List Field} {pl : List (Nat × Nat)}, AllF P l pl -> ∀ {j off size : Nat}, pget pl j = some (off, size) -> ∃ f, l[j]? = some f /\ f.offset = off /\ ∀ w, (sizeOf f.type).run P w = .ok size w
 | [], [], _, j, off, size, h => by cases h
 | f :: l, (o, s) :: pl, ha, j, off, size, h => by
   cases j with
   | zero => injection h with h; injection h with h1 h2; subst h1; subst h2; exact ⟨f, rfl, ha.1⟩
   | succ j => exact allF_get ha.2 h
 | [], _ :: _, ha, _, _, _, _ => ha.elim
 | _ :: _, [], ha, _, _, _, _ => ha.elim
def FlOk (P : Program) (t : TypeId) (pl : List (Nat × Nat)) : Prop := ∃ fs : Array Field, P.underlying t = some (.struct fs) /\ AllF P fs.toList pl
theorem FlOk.fld {P : Program} {t : TypeId} {pl : List (Nat × Nat)} (h : FlOk P t pl) {j off size : Nat} (hj : pget pl j = some (off, size)) (hs : size ≠ 0) (a : Addr) (w : World) :
 (Instr.fieldAt t (.pointer (some a)) j).run P w = .ok (.pointer (some (a.add off))) w := by
 obtain ⟨fs, hu, ha⟩ := h;obtain ⟨f, hf, ho, hsz⟩ := allF_get ha hj;have hf' : fs[j]? = some f := by rw [<- Array.getElem?_toList]; exact hf
 have h0 : (fieldPlace a f).run P w = .ok (a.add off) w := by
  unfold fieldPlace;simp only [Sem.run_bind, hsz, Result.andThen];rw [if_neg hs];simp [ho]
 simp [Instr.fieldAt, run_underlying hu, Sem.run_bind, Result.andThen, hf', Instr.sureAddr, h0]
theorem run_mapM_fields {P : Program} (w : World) : ∀ {l : List Field} {pl : List (Nat × Nat)}, AllF P l pl -> (l.mapM (fun f : Field => do pure (f.offset, <- sizeOf f.type) : Field -> Sem (Nat × Nat))).run P w = .ok pl w
 | [], [], _ => by simp
 | f :: l, (o, s) :: pl, ha => by
   rw [List.mapM_cons];simp only [Sem.run_bind, ha.1.2, Result.andThen, Sem.run_pure, run_mapM_fields w ha.2, ha.1.1]
 | [], _ :: _, ha => ha.elim
 | _ :: _, [], ha => ha.elim
def LayOk (P : Program) (t : TypeId) (pl : List (Nat × Nat)) : Prop :=
 FlOk P t pl \/ ∃ n e size, P.underlying t = some (.array n e) /\ (∀ w, (sizeOf e).run P w = .ok size w) /\ ∀ j x, pl[j]? = some x -> x = (j * size, size)
theorem LayOk.build {P : Program} {t : TypeId} {pl : List (Nat × Nat)} {i : TI} (h : LayOk P t pl) (hT : TyOk P t i) (parts : Array (Nat × Value)) (cells : Array Value) (w : World)
 (hf : Instr.fill (fun j => pl[j]?) i.zero.toArray parts.toList = some cells) : (Instr.build t parts).run P w = .ok (.agg cells) w := by
 have hz := hT.zero w;have hc := zero_cells hT;rcases h with ⟨fs, hu, ha⟩ | ⟨n, e, size, hu, hsz, hpl⟩
 ·have h1 := run_mapM_fields w ha
  have h2 : (fs.mapM (fun f : Field => do pure (f.offset, <- sizeOf f.type) : Field -> Sem (Nat × Nat))).run P w = .ok pl.toArray w := by
   rw [<- Array.toArray_toList (xs := fs), List.mapM_toArray];simp only [map_eq_pure_bind, Sem.run_bind, h1, Result.andThen, Sem.run_pure]
  unfold Instr.build;simp only [Sem.run_bind, hz, run_underlying hu, Result.andThen, hc, h2];have h3 : Instr.fill (fun x => pl.toArray[x]?) i.zero.toArray parts.toList = some cells := fill_le (fun j x hj => by simpa using hj) _ _ _ hf;rw [h3]; rfl
 ·unfold Instr.build
  simp only [Sem.run_bind, hz, run_underlying hu, Result.andThen, hc, hsz];have h3 : Instr.fill (fun i => some (i * size, size)) i.zero.toArray parts.toList = some cells := fill_le (fun j x hj => by rw [hpl j x hj]) _ _ _ hf;rw [h3]; rfl
def AllV (P : Program) : List Field -> List (Nat × Nat × Bool) -> Prop
 | [], [] => True
 | f :: l, (off, size, ag) :: pl => (f.offset = off /\ (∀ w, (sizeOf f.type).run P w = .ok size w) /\ ∀ w, (isAgg f.type).run P w = .ok ag w) /\ AllV P l pl
 | _, _ => False
theorem allV_get {P : Program} : ∀ {l : List Field} {pl : List (Nat × Nat × Bool)}, AllV P l pl -> ∀ {j off size : Nat} {ag : Bool}, fvGet pl j = some (off, size, ag) -> ∃ f, l[j]? = some f /\ f.offset = off /\ (∀ w, (sizeOf f.type).run P w = .ok size w) /\ ∀ w, (isAgg f.type).run P w = .ok ag w
 | [], [], _, j, off, size, ag, h => by cases h
 | f :: l, (o, s, g) :: pl, ha, j, off, size, ag, h => by
   cases j with
   | zero => injection h with h; injection h with h1 h2; injection h2 with h2 h3; subst h1; subst h2; subst h3; exact ⟨f, rfl, ha.1⟩
   | succ j => exact allV_get ha.2 h
 | [], _ :: _, ha, _, _, _, _, _ => ha.elim
 | _ :: _, [], ha, _, _, _, _, _ => ha.elim
structure TabsOk (T : Tabs) (P : Program) : Prop where
 mix : P.follows .mixedOrders = true
 ty : AllT (TyOk P) T.ty
 lay : AllT (LayOk P) T.lay
 fl : AllT (FlOk P) T.fl
 el : AllT (fun t sz => ∃ e, P.underlying t = some (.slice e) /\ ∀ w, (sizeOf e).run P w = .ok sz w) T.el
 sl : AllT (fun t p => P.underlying t = some (.slice p.1) /\ TyOk P p.1 p.2 /\ 0 < p.2.zero.length /\ p.2.zero.length <= 64) T.sl
 ik : AllT (fun t k => P.underlying t = some (.int k)) T.ik
 bo : AllT (fun t _ => P.underlying t = some .bool) T.bo
 ar : AllT (fun t p => ∃ e, P.underlying t = some (.array p.1 e) /\ ∀ w, (sizeOf e).run P w = .ok p.2 w) T.ar
 fv : AllT (fun t pl => ∃ fs : Array Field, P.underlying t = some (.struct fs) /\ AllV P fs.toList pl) T.fv
 fn : AllT (fun f _ => Enters P f) T.fn
theorem TabsOk.cx {T : Tabs} {P : Program} (h : TabsOk T P) : CxOk (T.cx P) where
 mix := h.mix
 T := fun t i hi => lookT_ok h.ty hi
 fld := fun t j off hj a w => by
  have hj' : fldOf T.fl t j = some off := hj;unfold fldOf at hj';split at hj'
  ·rename_i pl hpl
   split at hj'
   ·rename_i o s hp
    split at hj'
    ·cases hj'
    ·injection hj' with e; subst e
     exact (lookT_ok h.fl hpl).fld hp (by simp) a w
   ·cases hj'
  ·cases hj'
 el := fun t sz hs => lookT_ok h.el hs
 sl := fun t e i hs => lookT_ok h.sl hs
 ik := fun t k hk => lookT_ok h.ik hk
 bo := fun t ht => by
  have ht' : isSo (lookT T.bo t) = true := ht;cases hl : lookT T.bo t with
  | none => rw [hl] at ht'; cases ht'
  | some u => exact lookT_ok h.bo hl
 ar := fun t n sz hk => lookT_ok h.ar hk
 fv := fun t j off size ag hj => by
  have hj' : fvOf T.fv t j = some (off, size, ag) := hj;unfold fvOf at hj';split at hj'
  ·rename_i pl hpl
   obtain ⟨fs, hu, ha⟩ := lookT_ok h.fv hpl;obtain ⟨f, hf, h1⟩ := allV_get ha hj';exact ⟨fs, f, hu, by rw [<- Array.getElem?_toList]; exact hf, h1⟩
  ·cases hj'
 lay := fun t pl i hp hi parts cells w hf => (lookT_ok h.lay hp).build (lookT_ok h.ty hi) parts cells w hf
 fn := fun g hg => by
  have hg' : isSo (lookT T.fn g) = true := hg;cases hl : lookT T.fn g with
  | none => rw [hl] at hg'; cases hg'
  | some u => exact lookT_ok h.fn hl
end Go.Proofs.YtanhnllkccldhaaGreat.Eng
namespace Go.Proofs.YtanhnllkccldhaaGreat
set_option linter.unusedVariables false
set_option linter.unusedSimpArgs false
set_option maxRecDepth 100000
section
open Go.Proofs.YtanhnllkccldhaaGreat.Eng
def tabs : Tabs where
 ty := [
  (3, ⟨[(.int .i64 0)], false⟩),
  (22, ⟨[(.slice .none 0 0)], false⟩),
  (86, ⟨[.int .i64 0, .int .i64 0, .int .i64 0, .int .i64 0, .int .i64 0, .int .i64 0], true⟩),
  (81, ⟨[.int .i64 0, .slice .none 0 0], true⟩),
  (36, ⟨[.int .i64 0, .int .i64 0], true⟩),
  (84, ⟨[(.int .i64 0)], false⟩),
  (28, ⟨[(.int .i64 0)], false⟩),
  (32, ⟨[.int .i64 0, .bool false, .int .i64 0, .bool false, .bool false], true⟩),
  (79, ⟨[(.slice .none 0 0)], false⟩),
  (48, ⟨[(.slice .none 0 0)], false⟩),
  (38, ⟨[.int .i64 0, .int .i64 0, .int .i64 0, .int .i64 0], true⟩),
  (24, ⟨[.slice .none 0 0, .slice .none 0 0], true⟩),
  (26, ⟨[(.slice .none 0 0)], false⟩),
  (4, ⟨[(.bool false)], false⟩),
  (58, ⟨[(.slice .none 0 0)], false⟩),
  (54, ⟨[.int .i64 0, .int .i64 0], true⟩),
  (233, ⟨[.int .i64 0, .bool false], true⟩),
  (128, ⟨[(.slice .none 0 0)], false⟩),
  (5, ⟨[(.int .u8 0)], false⟩),
  (182, ⟨[.nilFunc], false⟩),
  (160, ⟨[(.pointer .none)], false⟩),
  (169, ⟨[(.int .u64 0)], false⟩),
  (269, ⟨[(.int .u64 0)], false⟩),
  (98, ⟨[(.slice .none 0 0)], false⟩),
  (227, ⟨[(.slice .none 0 0)], false⟩),
  (163, ⟨[.int .i64 0, .slice .none 0 0], true⟩),
  (195, ⟨[.int .i64 0, .int .i64 0], true⟩),
  (200, ⟨[.int .i64 0, .int .i64 0, .int .i64 0], true⟩),
  (244, ⟨[(.int .u64 0)], false⟩),
  (206, ⟨[.int .i64 0, .int .i64 0], true⟩),
  (273, ⟨[(.pointer .none)], false⟩),
  (62, ⟨[(.slice .none 0 0)], false⟩),
  (91, ⟨[.nilFunc], false⟩),
  (148, ⟨[(.slice .none 0 0)], false⟩),
  (262, ⟨[(.int .u32 0)], false⟩),
  (166, ⟨[.int .i64 0, .int .i64 0, .int .i64 0, .int .i64 0, .int .i64 0, .int .i64 0], true⟩),
  (95, ⟨[.nilFunc], false⟩),
  (152, ⟨[.nilFunc], false⟩),
  (231, ⟨[(.slice .none 0 0)], false⟩),
  (149, ⟨[(.slice .none 0 0)], false⟩),
  (155, ⟨[.nilFunc], false⟩),
  (180, ⟨[.nilFunc], false⟩),
  (9, ⟨[(.string { data := #[] })], false⟩),
  (114, ⟨[.nilFunc], false⟩),
  (159, ⟨[.nilFunc], false⟩),
  (168, ⟨[.nilFunc], false⟩),
  (254, ⟨[(.int .i64 0)], false⟩),
  (186, ⟨[.nilFunc], false⟩),
  (220, ⟨[.nilFunc], false⟩)]
 lay := [
  (86, [(0, 1), (1, 1), (2, 1), (3, 1), (4, 1), (5, 1)]),
  (81, [(0, 1), (1, 1)]),
  (36, [(0, 1), (1, 1)]),
  (32, [(0, 1), (1, 1), (2, 1), (3, 1), (4, 1)]),
  (38, [(0, 2), (2, 2)]),
  (24, [(0, 1), (1, 1)]),
  (54, [(0, 1), (1, 1)]),
  (233, [(0, 1), (1, 1)]),
  (163, [(0, 2)]),
  (195, [(0, 1), (1, 1)]),
  (200, [(0, 1), (1, 1), (2, 1)]),
  (206, [(0, 1), (1, 1)]),
  (166, [(0, 1), (1, 1), (2, 1), (3, 1), (4, 1), (5, 1)])]
 fl := [
  (81, [(0, 1), (1, 1)]),
  (36, [(0, 1), (1, 1)]),
  (32, [(0, 1), (1, 1), (2, 1), (3, 1), (4, 1)]),
  (38, [(0, 2), (2, 2)]),
  (24, [(0, 1), (1, 1)]),
  (54, [(0, 1), (1, 1)]),
  (233, [(0, 1), (1, 1)]),
  (163, [(0, 2)]),
  (195, [(0, 1), (1, 1)]),
  (206, [(0, 1), (1, 1)])]
 el := [
  (22, 6),
  (79, 1),
  (48, 1),
  (26, 2),
  (58, 1),
  (128, 2),
  (98, 1),
  (227, 2),
  (62, 1),
  (148, 1),
  (231, 2),
  (149, 5)]
 sl := [
  (22, (86, ⟨[.int .i64 0, .int .i64 0, .int .i64 0, .int .i64 0, .int .i64 0, .int .i64 0], true⟩)),
  (79, (84, ⟨[(.int .i64 0)], false⟩)),
  (48, (3, ⟨[(.int .i64 0)], false⟩)),
  (26, (24, ⟨[.slice .none 0 0, .slice .none 0 0], true⟩)),
  (58, (22, ⟨[(.slice .none 0 0)], false⟩)),
  (128, (36, ⟨[.int .i64 0, .int .i64 0], true⟩)),
  (98, (4, ⟨[(.bool false)], false⟩)),
  (227, (195, ⟨[.int .i64 0, .int .i64 0], true⟩)),
  (62, (48, ⟨[(.slice .none 0 0)], false⟩)),
  (148, (28, ⟨[(.int .i64 0)], false⟩)),
  (231, (206, ⟨[.int .i64 0, .int .i64 0], true⟩)),
  (149, (32, ⟨[.int .i64 0, .bool false, .int .i64 0, .bool false, .bool false], true⟩))]
 ik := [
  (3, .i64),
  (84, .i64),
  (28, .i64),
  (5, .u8),
  (169, .u64),
  (269, .u64),
  (244, .u64),
  (262, .u32),
  (254, .i64)]
 bo := [
  (4, ())]
 ar := [
  (86, (6, 1)),
  (200, (3, 1)),
  (166, (6, 1))]
 fv := [
  (81, [(0, 1, false), (1, 1, false)]),
  (36, [(0, 1, false), (1, 1, false)]),
  (32, [(0, 1, false), (1, 1, false), (2, 1, false), (3, 1, false), (4, 1, false)]),
  (38, [(0, 2, true), (2, 2, true)]),
  (24, [(0, 1, false), (1, 1, false)]),
  (54, [(0, 1, false), (1, 1, false)]),
  (233, [(0, 1, false), (1, 1, false)]),
  (163, [(0, 2, true)]),
  (195, [(0, 1, false), (1, 1, false)]),
  (206, [(0, 1, false), (1, 1, false)])]
 fn := [(3, ()), (4, ()), (5, ()), (6, ()), (7, ()), (8, ()), (9, ()), (10, ()), (11, ()), (12, ()), (13, ()), (14, ()), (15, ()), (16, ()), (17, ()), (18, ()), (19, ()), (20, ()), (21, ()), (22, ()), (23, ()), (24, ()), (25, ()), (26, ()), (27, ()), (28, ()), (29, ()), (30, ()), (31, ()), (32, ()), (33, ()), (34, ()), (35, ()), (36, ()), (37, ()), (38, ()), (39, ()), (40, ()), (41, ()), (42, ()), (43, ()), (44, ()), (45, ()), (46, ()), (47, ()), (48, ()), (49, ()), (50, ()), (51, ()), (52, ()), (53, ()), (54, ()), (55, ()), (56, ()), (57, ()), (58, ()), (59, ()), (60, ()), (61, ()), (62, ()), (63, ()), (64, ()), (65, ()), (66, ()), (67, ()), (68, ()), (69, ()), (70, ()), (71, ()), (72, ()), (73, ()), (74, ()), (75, ()), (76, ()), (77, ()), (78, ()), (79, ()), (80, ()), (81, ()), (82, ()), (83, ()), (84, ()), (85, ()), (86, ()), (87, ()), (88, ()), (89, ()), (90, ()), (91, ()), (92, ()), (93, ()), (94, ()), (95, ()), (96, ()), (97, ()), (98, ()), (99, ()), (100, ()), (101, ()), (102, ()), (103, ()), (104, ()), (105, ()), (106, ()), (107, ()), (108, ()), (109, ()), (110, ()), (111, ()), (112, ()), (113, ()), (114, ()), (115, ()), (116, ()), (117, ()), (118, ()), (119, ()), (120, ()), (121, ()), (122, ()), (123, ()), (124, ()), (125, ()), (126, ()), (127, ()), (128, ()), (129, ()), (130, ()), (131, ()), (132, ()), (133, ()), (134, ()), (135, ()), (136, ()), (137, ()), (138, ()), (139, ()), (140, ()), (141, ()), (142, ()), (143, ()), (144, ()), (145, ()), (146, ()), (147, ()), (148, ()), (149, ()), (150, ()), (151, ()), (152, ()), (153, ()), (154, ()), (155, ()), (156, ()), (157, ()), (158, ()), (159, ()), (160, ()), (161, ()), (162, ()), (163, ()), (164, ()), (165, ()), (166, ()), (167, ()), (168, ()), (169, ()), (170, ()), (171, ()), (172, ()), (173, ()), (174, ()), (175, ()), (176, ()), (177, ()), (178, ()), (179, ()), (180, ()), (181, ()), (182, ()), (183, ()), (184, ()), (185, ()), (186, ()), (187, ()), (188, ()), (189, ()), (190, ()), (191, ()), (192, ()), (193, ()), (194, ()), (195, ()), (196, ()), (197, ()), (198, ()), (199, ()), (200, ()), (201, ()), (202, ()), (203, ()), (204, ()), (205, ()), (206, ()), (207, ()), (208, ()), (209, ()), (210, ()), (211, ()), (212, ()), (213, ()), (214, ()), (215, ()), (216, ()), (217, ()), (218, ()), (219, ()), (220, ()), (221, ()), (222, ()), (223, ()), (224, ()), (225, ()), (226, ()), (227, ()), (228, ()), (229, ()), (230, ()), (231, ()), (232, ()), (233, ()), (234, ()), (235, ()), (236, ()), (237, ()), (238, ()), (239, ()), (240, ()), (241, ()), (242, ()), (243, ()), (244, ()), (245, ()), (246, ()), (247, ()), (248, ())]
set_option maxRecDepth 100000 in
theorem tabsOk : TabsOk tabs Tryz.prog where
 mix := by kernel_rfl
 ty := ⟨tyOk_one Tryz.zeroValue3 Tryz.sizeOf3 Tryz.isAgg3 rfl,
  ⟨tyOk_one Tryz.zeroValue22 Tryz.sizeOf22 Tryz.isAgg22 rfl,
  ⟨tyOk_agg Tryz.zeroValue86 Tryz.sizeOf86 Tryz.isAgg86 rfl,
  ⟨tyOk_agg Tryz.zeroValue81 Tryz.sizeOf81 Tryz.isAgg81 rfl,
  ⟨tyOk_agg Tryz.zeroValue36 Tryz.sizeOf36 Tryz.isAgg36 rfl,
  ⟨tyOk_one Tryz.zeroValue84 Tryz.sizeOf84 Tryz.isAgg84 rfl,
  ⟨tyOk_one Tryz.zeroValue28 Tryz.sizeOf28 Tryz.isAgg28 rfl,
  ⟨tyOk_agg Tryz.zeroValue32 Tryz.sizeOf32 Tryz.isAgg32 rfl,
  ⟨tyOk_one Tryz.zeroValue79 Tryz.sizeOf79 Tryz.isAgg79 rfl,
  ⟨tyOk_one Tryz.zeroValue48 Tryz.sizeOf48 Tryz.isAgg48 rfl,
  ⟨tyOk_agg Tryz.zeroValue38 Tryz.sizeOf38 Tryz.isAgg38 rfl,
  ⟨tyOk_agg Tryz.zeroValue24 Tryz.sizeOf24 Tryz.isAgg24 rfl,
  ⟨tyOk_one Tryz.zeroValue26 Tryz.sizeOf26 Tryz.isAgg26 rfl,
  ⟨tyOk_one Tryz.zeroValue4 Tryz.sizeOf4 Tryz.isAgg4 rfl,
  ⟨tyOk_one Tryz.zeroValue58 Tryz.sizeOf58 Tryz.isAgg58 rfl,
  ⟨tyOk_agg Tryz.zeroValue54 Tryz.sizeOf54 Tryz.isAgg54 rfl,
  ⟨tyOk_agg Tryz.zeroValue233 Tryz.sizeOf233 Tryz.isAgg233 rfl,
  ⟨tyOk_one Tryz.zeroValue128 Tryz.sizeOf128 Tryz.isAgg128 rfl,
  ⟨tyOk_one Tryz.zeroValue5 Tryz.sizeOf5 Tryz.isAgg5 rfl,
  ⟨tyOk_one Tryz.zeroValue182 Tryz.sizeOf182 Tryz.isAgg182 rfl,
  ⟨tyOk_one Tryz.zeroValue160 Tryz.sizeOf160 Tryz.isAgg160 rfl,
  ⟨tyOk_one Tryz.zeroValue169 Tryz.sizeOf169 Tryz.isAgg169 rfl,
  ⟨tyOk_one Tryz.zeroValue269 Tryz.sizeOf269 Tryz.isAgg269 rfl,
  ⟨tyOk_one Tryz.zeroValue98 Tryz.sizeOf98 Tryz.isAgg98 rfl,
  ⟨tyOk_one Tryz.zeroValue227 Tryz.sizeOf227 Tryz.isAgg227 rfl,
  ⟨tyOk_agg Tryz.zeroValue163 Tryz.sizeOf163 Tryz.isAgg163 rfl,
  ⟨tyOk_agg Tryz.zeroValue195 Tryz.sizeOf195 Tryz.isAgg195 rfl,
  ⟨tyOk_agg Tryz.zeroValue200 Tryz.sizeOf200 Tryz.isAgg200 rfl,
  ⟨tyOk_one Tryz.zeroValue244 Tryz.sizeOf244 Tryz.isAgg244 rfl,
  ⟨tyOk_agg Tryz.zeroValue206 Tryz.sizeOf206 Tryz.isAgg206 rfl,
  ⟨tyOk_one Tryz.zeroValue273 Tryz.sizeOf273 Tryz.isAgg273 rfl,
  ⟨tyOk_one Tryz.zeroValue62 Tryz.sizeOf62 Tryz.isAgg62 rfl,
  ⟨tyOk_one Tryz.zeroValue91 Tryz.sizeOf91 Tryz.isAgg91 rfl,
  ⟨tyOk_one Tryz.zeroValue148 Tryz.sizeOf148 Tryz.isAgg148 rfl,
  ⟨tyOk_one Tryz.zeroValue262 Tryz.sizeOf262 Tryz.isAgg262 rfl,
  ⟨tyOk_agg Tryz.zeroValue166 Tryz.sizeOf166 Tryz.isAgg166 rfl,
  ⟨tyOk_one Tryz.zeroValue95 Tryz.sizeOf95 Tryz.isAgg95 rfl,
  ⟨tyOk_one Tryz.zeroValue152 Tryz.sizeOf152 Tryz.isAgg152 rfl,
  ⟨tyOk_one Tryz.zeroValue231 Tryz.sizeOf231 Tryz.isAgg231 rfl,
  ⟨tyOk_one Tryz.zeroValue149 Tryz.sizeOf149 Tryz.isAgg149 rfl,
  ⟨tyOk_one Tryz.zeroValue155 Tryz.sizeOf155 Tryz.isAgg155 rfl,
  ⟨tyOk_one Tryz.zeroValue180 Tryz.sizeOf180 Tryz.isAgg180 rfl,
  ⟨tyOk_one Tryz.zeroValue9 Tryz.sizeOf9 Tryz.isAgg9 rfl,
  ⟨tyOk_one Tryz.zeroValue114 Tryz.sizeOf114 Tryz.isAgg114 rfl,
  ⟨tyOk_one Tryz.zeroValue159 Tryz.sizeOf159 Tryz.isAgg159 rfl,
  ⟨tyOk_one Tryz.zeroValue168 Tryz.sizeOf168 Tryz.isAgg168 rfl,
  ⟨tyOk_one Tryz.zeroValue254 Tryz.sizeOf254 Tryz.isAgg254 rfl,
  ⟨tyOk_one Tryz.zeroValue186 Tryz.sizeOf186 Tryz.isAgg186 rfl,
  ⟨tyOk_one Tryz.zeroValue220 Tryz.sizeOf220 Tryz.isAgg220 rfl,
  trivial⟩⟩⟩⟩⟩⟩⟩⟩⟩⟩⟩⟩⟩⟩⟩⟩⟩⟩⟩⟩⟩⟩⟩⟩⟩⟩⟩⟩⟩⟩⟩⟩⟩⟩⟩⟩⟩⟩⟩⟩⟩⟩⟩⟩⟩⟩⟩⟩⟩
 lay := ⟨Or.inr ⟨_, _, _, Tryz.underlying86, Tryz.sizeOf84, fun j x h => by
  match j, h with
  | 0, h => exact (Option.some.inj h).symm
  | 1, h => exact (Option.some.inj h).symm
  | 2, h => exact (Option.some.inj h).symm
  | 3, h => exact (Option.some.inj h).symm
  | 4, h => exact (Option.some.inj h).symm
  | 5, h => exact (Option.some.inj h).symm
  | j + 6, h => cases h⟩,
  ⟨Or.inl ⟨_, Tryz.underlying81, ⟨⟨rfl, Tryz.sizeOf3⟩, ⟨⟨rfl, Tryz.sizeOf79⟩, trivial⟩⟩⟩,
  ⟨Or.inl ⟨_, Tryz.underlying36, ⟨⟨rfl, Tryz.sizeOf3⟩, ⟨⟨rfl, Tryz.sizeOf3⟩, trivial⟩⟩⟩,
  ⟨Or.inl ⟨_, Tryz.underlying32, ⟨⟨rfl, Tryz.sizeOf3⟩, ⟨⟨rfl, Tryz.sizeOf4⟩, ⟨⟨rfl, Tryz.sizeOf3⟩, ⟨⟨rfl, Tryz.sizeOf4⟩, ⟨⟨rfl, Tryz.sizeOf4⟩, trivial⟩⟩⟩⟩⟩⟩,
  ⟨Or.inl ⟨_, Tryz.underlying38, ⟨⟨rfl, Tryz.sizeOf36⟩, ⟨⟨rfl, Tryz.sizeOf36⟩, trivial⟩⟩⟩,
  ⟨Or.inl ⟨_, Tryz.underlying24, ⟨⟨rfl, Tryz.sizeOf22⟩, ⟨⟨rfl, Tryz.sizeOf22⟩, trivial⟩⟩⟩,
  ⟨Or.inl ⟨_, Tryz.underlying54, ⟨⟨rfl, Tryz.sizeOf3⟩, ⟨⟨rfl, Tryz.sizeOf3⟩, trivial⟩⟩⟩,
  ⟨Or.inl ⟨_, Tryz.underlying233, ⟨⟨rfl, Tryz.sizeOf3⟩, ⟨⟨rfl, Tryz.sizeOf4⟩, trivial⟩⟩⟩,
  ⟨Or.inl ⟨_, Tryz.underlying163, ⟨⟨rfl, Tryz.sizeOf81⟩, trivial⟩⟩,
  ⟨Or.inl ⟨_, Tryz.underlying195, ⟨⟨rfl, Tryz.sizeOf3⟩, ⟨⟨rfl, Tryz.sizeOf84⟩, trivial⟩⟩⟩,
  ⟨Or.inr ⟨_, _, _, Tryz.underlying200, Tryz.sizeOf3, fun j x h => by
   match j, h with
   | 0, h => exact (Option.some.inj h).symm
   | 1, h => exact (Option.some.inj h).symm
   | 2, h => exact (Option.some.inj h).symm
   | j + 3, h => cases h⟩,
  ⟨Or.inl ⟨_, Tryz.underlying206, ⟨⟨rfl, Tryz.sizeOf3⟩, ⟨⟨rfl, Tryz.sizeOf84⟩, trivial⟩⟩⟩,
  ⟨Or.inr ⟨_, _, _, Tryz.underlying166, Tryz.sizeOf3, fun j x h => by
   match j, h with
   | 0, h => exact (Option.some.inj h).symm
   | 1, h => exact (Option.some.inj h).symm
   | 2, h => exact (Option.some.inj h).symm
   | 3, h => exact (Option.some.inj h).symm
   | 4, h => exact (Option.some.inj h).symm
   | 5, h => exact (Option.some.inj h).symm
   | j + 6, h => cases h⟩,
  trivial⟩⟩⟩⟩⟩⟩⟩⟩⟩⟩⟩⟩⟩
 fl := ⟨⟨_, Tryz.underlying81, ⟨⟨rfl, Tryz.sizeOf3⟩, ⟨⟨rfl, Tryz.sizeOf79⟩, trivial⟩⟩⟩,
  ⟨⟨_, Tryz.underlying36, ⟨⟨rfl, Tryz.sizeOf3⟩, ⟨⟨rfl, Tryz.sizeOf3⟩, trivial⟩⟩⟩,
  ⟨⟨_, Tryz.underlying32, ⟨⟨rfl, Tryz.sizeOf3⟩, ⟨⟨rfl, Tryz.sizeOf4⟩, ⟨⟨rfl, Tryz.sizeOf3⟩, ⟨⟨rfl, Tryz.sizeOf4⟩, ⟨⟨rfl, Tryz.sizeOf4⟩, trivial⟩⟩⟩⟩⟩⟩,
  ⟨⟨_, Tryz.underlying38, ⟨⟨rfl, Tryz.sizeOf36⟩, ⟨⟨rfl, Tryz.sizeOf36⟩, trivial⟩⟩⟩,
  ⟨⟨_, Tryz.underlying24, ⟨⟨rfl, Tryz.sizeOf22⟩, ⟨⟨rfl, Tryz.sizeOf22⟩, trivial⟩⟩⟩,
  ⟨⟨_, Tryz.underlying54, ⟨⟨rfl, Tryz.sizeOf3⟩, ⟨⟨rfl, Tryz.sizeOf3⟩, trivial⟩⟩⟩,
  ⟨⟨_, Tryz.underlying233, ⟨⟨rfl, Tryz.sizeOf3⟩, ⟨⟨rfl, Tryz.sizeOf4⟩, trivial⟩⟩⟩,
  ⟨⟨_, Tryz.underlying163, ⟨⟨rfl, Tryz.sizeOf81⟩, trivial⟩⟩,
  ⟨⟨_, Tryz.underlying195, ⟨⟨rfl, Tryz.sizeOf3⟩, ⟨⟨rfl, Tryz.sizeOf84⟩, trivial⟩⟩⟩,
  ⟨⟨_, Tryz.underlying206, ⟨⟨rfl, Tryz.sizeOf3⟩, ⟨⟨rfl, Tryz.sizeOf84⟩, trivial⟩⟩⟩,
  trivial⟩⟩⟩⟩⟩⟩⟩⟩⟩⟩
 el := ⟨⟨_, Tryz.underlying22, Tryz.sizeOf86⟩,
  ⟨⟨_, Tryz.underlying79, Tryz.sizeOf84⟩,
  ⟨⟨_, Tryz.underlying48, Tryz.sizeOf3⟩,
  ⟨⟨_, Tryz.underlying26, Tryz.sizeOf24⟩,
  ⟨⟨_, Tryz.underlying58, Tryz.sizeOf22⟩,
  ⟨⟨_, Tryz.underlying128, Tryz.sizeOf36⟩,
  ⟨⟨_, Tryz.underlying98, Tryz.sizeOf4⟩,
  ⟨⟨_, Tryz.underlying227, Tryz.sizeOf195⟩,
  ⟨⟨_, Tryz.underlying62, Tryz.sizeOf48⟩,
  ⟨⟨_, Tryz.underlying148, Tryz.sizeOf28⟩,
  ⟨⟨_, Tryz.underlying231, Tryz.sizeOf206⟩,
  ⟨⟨_, Tryz.underlying149, Tryz.sizeOf32⟩,
  trivial⟩⟩⟩⟩⟩⟩⟩⟩⟩⟩⟩⟩
 sl := ⟨⟨Tryz.underlying22, tyOk_agg Tryz.zeroValue86 Tryz.sizeOf86 Tryz.isAgg86 rfl, by decide, by decide⟩,
  ⟨⟨Tryz.underlying79, tyOk_one Tryz.zeroValue84 Tryz.sizeOf84 Tryz.isAgg84 rfl, by decide, by decide⟩,
  ⟨⟨Tryz.underlying48, tyOk_one Tryz.zeroValue3 Tryz.sizeOf3 Tryz.isAgg3 rfl, by decide, by decide⟩,
  ⟨⟨Tryz.underlying26, tyOk_agg Tryz.zeroValue24 Tryz.sizeOf24 Tryz.isAgg24 rfl, by decide, by decide⟩,
  ⟨⟨Tryz.underlying58, tyOk_one Tryz.zeroValue22 Tryz.sizeOf22 Tryz.isAgg22 rfl, by decide, by decide⟩,
  ⟨⟨Tryz.underlying128, tyOk_agg Tryz.zeroValue36 Tryz.sizeOf36 Tryz.isAgg36 rfl, by decide, by decide⟩,
  ⟨⟨Tryz.underlying98, tyOk_one Tryz.zeroValue4 Tryz.sizeOf4 Tryz.isAgg4 rfl, by decide, by decide⟩,
  ⟨⟨Tryz.underlying227, tyOk_agg Tryz.zeroValue195 Tryz.sizeOf195 Tryz.isAgg195 rfl, by decide, by decide⟩,
  ⟨⟨Tryz.underlying62, tyOk_one Tryz.zeroValue48 Tryz.sizeOf48 Tryz.isAgg48 rfl, by decide, by decide⟩,
  ⟨⟨Tryz.underlying148, tyOk_one Tryz.zeroValue28 Tryz.sizeOf28 Tryz.isAgg28 rfl, by decide, by decide⟩,
  ⟨⟨Tryz.underlying231, tyOk_agg Tryz.zeroValue206 Tryz.sizeOf206 Tryz.isAgg206 rfl, by decide, by decide⟩,
  ⟨⟨Tryz.underlying149, tyOk_agg Tryz.zeroValue32 Tryz.sizeOf32 Tryz.isAgg32 rfl, by decide, by decide⟩,
  trivial⟩⟩⟩⟩⟩⟩⟩⟩⟩⟩⟩⟩
 ik := ⟨Tryz.underlying3,
  ⟨Tryz.underlying84,
  ⟨Tryz.underlying28,
  ⟨Tryz.underlying5,
  ⟨Tryz.underlying169,
  ⟨Tryz.underlying269,
  ⟨Tryz.underlying244,
  ⟨Tryz.underlying262,
  ⟨Tryz.underlying254,
  trivial⟩⟩⟩⟩⟩⟩⟩⟩⟩
 bo := ⟨Tryz.underlying4,
  trivial⟩
 ar := ⟨⟨_, Tryz.underlying86, Tryz.sizeOf84⟩,
  ⟨⟨_, Tryz.underlying200, Tryz.sizeOf3⟩,
  ⟨⟨_, Tryz.underlying166, Tryz.sizeOf3⟩,
  trivial⟩⟩⟩
 fv := ⟨⟨_, Tryz.underlying81, ⟨⟨rfl, Tryz.sizeOf3, Tryz.isAgg3⟩, ⟨⟨rfl, Tryz.sizeOf79, Tryz.isAgg79⟩, trivial⟩⟩⟩,
  ⟨⟨_, Tryz.underlying36, ⟨⟨rfl, Tryz.sizeOf3, Tryz.isAgg3⟩, ⟨⟨rfl, Tryz.sizeOf3, Tryz.isAgg3⟩, trivial⟩⟩⟩,
  ⟨⟨_, Tryz.underlying32, ⟨⟨rfl, Tryz.sizeOf3, Tryz.isAgg3⟩, ⟨⟨rfl, Tryz.sizeOf4, Tryz.isAgg4⟩, ⟨⟨rfl, Tryz.sizeOf3, Tryz.isAgg3⟩, ⟨⟨rfl, Tryz.sizeOf4, Tryz.isAgg4⟩, ⟨⟨rfl, Tryz.sizeOf4, Tryz.isAgg4⟩, trivial⟩⟩⟩⟩⟩⟩,
  ⟨⟨_, Tryz.underlying38, ⟨⟨rfl, Tryz.sizeOf36, Tryz.isAgg36⟩, ⟨⟨rfl, Tryz.sizeOf36, Tryz.isAgg36⟩, trivial⟩⟩⟩,
  ⟨⟨_, Tryz.underlying24, ⟨⟨rfl, Tryz.sizeOf22, Tryz.isAgg22⟩, ⟨⟨rfl, Tryz.sizeOf22, Tryz.isAgg22⟩, trivial⟩⟩⟩,
  ⟨⟨_, Tryz.underlying54, ⟨⟨rfl, Tryz.sizeOf3, Tryz.isAgg3⟩, ⟨⟨rfl, Tryz.sizeOf3, Tryz.isAgg3⟩, trivial⟩⟩⟩,
  ⟨⟨_, Tryz.underlying233, ⟨⟨rfl, Tryz.sizeOf3, Tryz.isAgg3⟩, ⟨⟨rfl, Tryz.sizeOf4, Tryz.isAgg4⟩, trivial⟩⟩⟩,
  ⟨⟨_, Tryz.underlying163, ⟨⟨rfl, Tryz.sizeOf81, Tryz.isAgg81⟩, trivial⟩⟩,
  ⟨⟨_, Tryz.underlying195, ⟨⟨rfl, Tryz.sizeOf3, Tryz.isAgg3⟩, ⟨⟨rfl, Tryz.sizeOf84, Tryz.isAgg84⟩, trivial⟩⟩⟩,
  ⟨⟨_, Tryz.underlying206, ⟨⟨rfl, Tryz.sizeOf3, Tryz.isAgg3⟩, ⟨⟨rfl, Tryz.sizeOf84, Tryz.isAgg84⟩, trivial⟩⟩⟩,
  trivial⟩⟩⟩⟩⟩⟩⟩⟩⟩⟩
 fn := ⟨Tryz.call3,
  ⟨Tryz.call4,
  ⟨Tryz.call5,
  ⟨Tryz.call6,
  ⟨Tryz.call7,
  ⟨Tryz.call8,
  ⟨Tryz.call9,
  ⟨Tryz.call10,
  ⟨Tryz.call11,
  ⟨Tryz.call12,
  ⟨Tryz.call13,
  ⟨Tryz.call14,
  ⟨Tryz.call15,
  ⟨Tryz.call16,
  ⟨Tryz.call17,
  ⟨Tryz.call18,
  ⟨Tryz.call19,
  ⟨Tryz.call20,
  ⟨Tryz.call21,
  ⟨Tryz.call22,
  ⟨Tryz.call23,
  ⟨Tryz.call24,
  ⟨Tryz.call25,
  ⟨Tryz.call26,
  ⟨Tryz.call27,
  ⟨Tryz.call28,
  ⟨Tryz.call29,
  ⟨Tryz.call30,
  ⟨Tryz.call31,
  ⟨Tryz.call32,
  ⟨Tryz.call33,
  ⟨Tryz.call34,
  ⟨Tryz.call35,
  ⟨Tryz.call36,
  ⟨Tryz.call37,
  ⟨Tryz.call38,
  ⟨Tryz.call39,
  ⟨Tryz.call40,
  ⟨Tryz.call41,
  ⟨Tryz.call42,
  ⟨Tryz.call43,
  ⟨Tryz.call44,
  ⟨Tryz.call45,
  ⟨Tryz.call46,
  ⟨Tryz.call47,
  ⟨Tryz.call48,
  ⟨Tryz.call49,
  ⟨Tryz.call50,
  ⟨Tryz.call51,
  ⟨Tryz.call52,
  ⟨Tryz.call53,
  ⟨Tryz.call54,
  ⟨Tryz.call55,
  ⟨Tryz.call56,
  ⟨Tryz.call57,
  ⟨Tryz.call58,
  ⟨Tryz.call59,
  ⟨Tryz.call60,
  ⟨Tryz.call61,
  ⟨Tryz.call62,
  ⟨Tryz.call63,
  ⟨Tryz.call64,
  ⟨Tryz.call65,
  ⟨Tryz.call66,
  ⟨Tryz.call67,
  ⟨Tryz.call68,
  ⟨Tryz.call69,
  ⟨Tryz.call70,
  ⟨Tryz.call71,
  ⟨Tryz.call72,
  ⟨Tryz.call73,
  ⟨Tryz.call74,
  ⟨Tryz.call75,
  ⟨Tryz.call76,
  ⟨Tryz.call77,
  ⟨Tryz.call78,
  ⟨Tryz.call79,
  ⟨Tryz.call80,
  ⟨Tryz.call81,
  ⟨Tryz.call82,
  ⟨Tryz.call83,
  ⟨Tryz.call84,
  ⟨Tryz.call85,
  ⟨Tryz.call86,
  ⟨Tryz.call87,
  ⟨Tryz.call88,
  ⟨Tryz.call89,
  ⟨Tryz.call90,
  ⟨Tryz.call91,
  ⟨Tryz.call92,
  ⟨Tryz.call93,
  ⟨Tryz.call94,
  ⟨Tryz.call95,
  ⟨Tryz.call96,
  ⟨Tryz.call97,
  ⟨Tryz.call98,
  ⟨Tryz.call99,
  ⟨Tryz.call100,
  ⟨Tryz.call101,
  ⟨Tryz.call102,
  ⟨Tryz.call103,
  ⟨Tryz.call104,
  ⟨Tryz.call105,
  ⟨Tryz.call106,
  ⟨Tryz.call107,
  ⟨Tryz.call108,
  ⟨Tryz.call109,
  ⟨Tryz.call110,
  ⟨Tryz.call111,
  ⟨Tryz.call112,
  ⟨Tryz.call113,
  ⟨Tryz.call114,
  ⟨Tryz.call115,
  ⟨Tryz.call116,
  ⟨Tryz.call117,
  ⟨Tryz.call118,
  ⟨Tryz.call119,
  ⟨Tryz.call120,
  ⟨Tryz.call121,
  ⟨Tryz.call122,
  ⟨Tryz.call123,
  ⟨Tryz.call124,
  ⟨Tryz.call125,
  ⟨Tryz.call126,
  ⟨Tryz.call127,
  ⟨Tryz.call128,
  ⟨Tryz.call129,
  ⟨Tryz.call130,
  ⟨Tryz.call131,
  ⟨Tryz.call132,
  ⟨Tryz.call133,
  ⟨Tryz.call134,
  ⟨Tryz.call135,
  ⟨Tryz.call136,
  ⟨Tryz.call137,
  ⟨Tryz.call138,
  ⟨Tryz.call139,
  ⟨Tryz.call140,
  ⟨Tryz.call141,
  ⟨Tryz.call142,
  ⟨Tryz.call143,
  ⟨Tryz.call144,
  ⟨Tryz.call145,
  ⟨Tryz.call146,
  ⟨Tryz.call147,
  ⟨Tryz.call148,
  ⟨Tryz.call149,
  ⟨Tryz.call150,
  ⟨Tryz.call151,
  ⟨Tryz.call152,
  ⟨Tryz.call153,
  ⟨Tryz.call154,
  ⟨Tryz.call155,
  ⟨Tryz.call156,
  ⟨Tryz.call157,
  ⟨Tryz.call158,
  ⟨Tryz.call159,
  ⟨Tryz.call160,
  ⟨Tryz.call161,
  ⟨Tryz.call162,
  ⟨Tryz.call163,
  ⟨Tryz.call164,
  ⟨Tryz.call165,
  ⟨Tryz.call166,
  ⟨Tryz.call167,
  ⟨Tryz.call168,
  ⟨Tryz.call169,
  ⟨Tryz.call170,
  ⟨Tryz.call171,
  ⟨Tryz.call172,
  ⟨Tryz.call173,
  ⟨Tryz.call174,
  ⟨Tryz.call175,
  ⟨Tryz.call176,
  ⟨Tryz.call177,
  ⟨Tryz.call178,
  ⟨Tryz.call179,
  ⟨Tryz.call180,
  ⟨Tryz.call181,
  ⟨Tryz.call182,
  ⟨Tryz.call183,
  ⟨Tryz.call184,
  ⟨Tryz.call185,
  ⟨Tryz.call186,
  ⟨Tryz.call187,
  ⟨Tryz.call188,
  ⟨Tryz.call189,
  ⟨Tryz.call190,
  ⟨Tryz.call191,
  ⟨Tryz.call192,
  ⟨Tryz.call193,
  ⟨Tryz.call194,
  ⟨Tryz.call195,
  ⟨Tryz.call196,
  ⟨Tryz.call197,
  ⟨Tryz.call198,
  ⟨Tryz.call199,
  ⟨Tryz.call200,
  ⟨Tryz.call201,
  ⟨Tryz.call202,
  ⟨Tryz.call203,
  ⟨Tryz.call204,
  ⟨Tryz.call205,
  ⟨Tryz.call206,
  ⟨Tryz.call207,
  ⟨Tryz.call208,
  ⟨Tryz.call209,
  ⟨Tryz.call210,
  ⟨Tryz.call211,
  ⟨Tryz.call212,
  ⟨Tryz.call213,
  ⟨Tryz.call214,
  ⟨Tryz.call215,
  ⟨Tryz.call216,
  ⟨Tryz.call217,
  ⟨Tryz.call218,
  ⟨Tryz.call219,
  ⟨Tryz.call220,
  ⟨Tryz.call221,
  ⟨Tryz.call222,
  ⟨Tryz.call223,
  ⟨Tryz.call224,
  ⟨Tryz.call225,
  ⟨Tryz.call226,
  ⟨Tryz.call227,
  ⟨Tryz.call228,
  ⟨Tryz.call229,
  ⟨Tryz.call230,
  ⟨Tryz.call231,
  ⟨Tryz.call232,
  ⟨Tryz.call233,
  ⟨Tryz.call234,
  ⟨Tryz.call235,
  ⟨Tryz.call236,
  ⟨Tryz.call237,
  ⟨Tryz.call238,
  ⟨Tryz.call239,
  ⟨Tryz.call240,
  ⟨Tryz.call241,
  ⟨Tryz.call242,
  ⟨Tryz.call243,
  ⟨Tryz.call244,
  ⟨Tryz.call245,
  ⟨Tryz.call246,
  ⟨Tryz.call247,
  ⟨Tryz.call248,
  trivial⟩⟩⟩⟩⟩⟩⟩⟩⟩⟩⟩⟩⟩⟩⟩⟩⟩⟩⟩⟩⟩⟩⟩⟩⟩⟩⟩⟩⟩⟩⟩⟩⟩⟩⟩⟩⟩⟩⟩⟩⟩⟩⟩⟩⟩⟩⟩⟩⟩⟩⟩⟩⟩⟩⟩⟩⟩⟩⟩⟩⟩⟩⟩⟩⟩⟩⟩⟩⟩⟩⟩⟩⟩⟩⟩⟩⟩⟩⟩⟩⟩⟩⟩⟩⟩⟩⟩⟩⟩⟩⟩⟩⟩⟩⟩⟩⟩⟩⟩⟩⟩⟩⟩⟩⟩⟩⟩⟩⟩⟩⟩⟩⟩⟩⟩⟩⟩⟩⟩⟩⟩⟩⟩⟩⟩⟩⟩⟩⟩⟩⟩⟩⟩⟩⟩⟩⟩⟩⟩⟩⟩⟩⟩⟩⟩⟩⟩⟩⟩⟩⟩⟩⟩⟩⟩⟩⟩⟩⟩⟩⟩⟩⟩⟩⟩⟩⟩⟩⟩⟩⟩⟩⟩⟩⟩⟩⟩⟩⟩⟩⟩⟩⟩⟩⟩⟩⟩⟩⟩⟩⟩⟩⟩⟩⟩⟩⟩⟩⟩⟩⟩⟩⟩⟩⟩⟩⟩⟩⟩⟩⟩⟩⟩⟩⟩⟩⟩⟩⟩⟩⟩⟩⟩⟩⟩⟩⟩⟩⟩⟩⟩⟩⟩⟩⟩⟩⟩⟩⟩⟩⟩⟩⟩⟩⟩⟩
noncomputable def cx : Cx := tabs.cx Tryz.prog
theorem cxOk : CxOk cx := tabsOk.cx
end
section
theorem uponIn_of_upon {l n : Nat} {P : Program} {o : Oper} {a : Act} {K : Act -> World -> Prop} {Q : Exit -> Act -> World -> Prop} {r : Result Next} (h : o.upon P a K Q r) :
 o.uponIn (Fence.wide.inRound l) n P a K Q r := by
 have no : ∀ {p : Prop}, (Fence.wide.inRound l).depth.isSome = true -> p := fun e => by cases e
 cases r with
 | ok x w' =>
   cases x with
   | value v => exact h
   | skip => exact h
   | defer d => exact h
   | enter f args => exact ⟨no, CallsIn.inRound l (callsIn_wide.2 h)⟩
   | row row args =>
     refine ⟨no, fun c cs _ => ?_⟩;obtain ⟨v, w2, r, s⟩ := h c cs;exact ⟨v, w2, r, stepsIn_wide.2 s⟩
   | _ => exact h.elim
 | halt x w' =>
   cases x with
   | panic v => exact h
   | _ => exact h.elim
theorem wpIn_of_wp {l n : Nat} {P : Program} {o : Oper} {a : Act} {w : World} {K : Act -> World -> Prop} {Q : Exit -> Act -> World -> Prop} (hd : ∀ c, o.op ≠ .defer c) (h : o.wp P a w K Q) :
 o.wpIn (Fence.wide.inRound l) n P a w K Q :=
 ⟨fun _ _ => trivial, by rw [Oper.semAt_eq _ _ _ hd]; exact uponIn_of_upon h⟩
def noDefer (o : Oper) : Bool := match o.op with | .defer _ => false | _ => true
theorem noDefer_spec {o : Oper} (h : noDefer o = true) : ∀ c, o.op ≠ .defer c := fun c e => by simp [noDefer, e] at h
theorem wpAnyIn_of_wpAny {l n : Nat} {P : Program} {md : Region.Mode} {ops : Array Oper} {Q : Exit -> Act -> World -> Prop} (hd : ∀ (i : Nat) (o : Oper), ops[i]? = some o -> noDefer o = true) (hL : ¬ LetsOut Q) :
 ∀ (fuel : Nat) (listed : Array Bool) (a : Act) (w : World), wpAny P md ops Q fuel listed a w -> wpAnyIn (Fence.wide.inRound l) n P md ops Q fuel listed a w
 | 0, _, _, _, h => h
 | fuel + 1, listed, a, w, h => by
   refine ⟨h.1, fun i hi => ?_⟩;have h2 := h.2 i hi;unfold wpOp at h2;unfold wpOpIn;cases ho : ops[i]? with
   | none => rw [ho] at h2; exact wpAnyIn_of_wpAny hd hL fuel _ _ _ h2
   | some o =>
     rw [ho] at h2;simp only at h2 ⊢;split
     ·rename_i hw
      rw [if_pos hw] at h2;rcases h2 with h2 | h2
      ·exact wpIn_of_wp (noDefer_spec (hd i o ho)) (Oper.wp_mono (fun a' w' h4 => wpAnyIn_of_wpAny hd hL fuel _ _ _ h4) h2)
      ·exact absurd h2.2 hL
     ·rename_i hw
      rw [if_neg hw] at h2;exact ⟨fun _ _ => trivial, wpAnyIn_of_wpAny hd hL fuel _ _ _ h2⟩
end
end Go.Proofs.YtanhnllkccldhaaGreat
namespace Go.Proofs.YtanhnllkccldhaaGreat.Eng
set_option linter.unusedVariables false
set_option linter.unusedSimpArgs false
open Go Go.RowKit Go.Shelf Go.Proofs
section
variable {cx : Cx} {w0 : Base}
theorem below_grown {X Y : World} (h : Below X.heap.size X Y) (row : Option Nat) : X.grownBy Y row := ⟨h.os, h.tape, h.output, h.size, fun k hk _ => h.block k hk⟩
theorem below_keepsFrom {X Y : World} (h : Below X.heap.size X Y) (B : Nat) : KeepsFrom B X Y := ⟨h.size, fun k o _ hk _ => (h.block k (Array.getElem?_eq_some_iff.1 hk).1).trans hk⟩
theorem codeD_round (hcx : CxOk cx) (l n : Nat) (c : Code) (K : Exit -> St -> Prop) (s : St) (a : Act) (w : World) (Q : Exit -> Act -> World -> Prop)
 (h : codeD (Fence.wide.inRound l) n cx w0 c K s) (hR : Rel w0 s a w) (hQ : ∀ e s' a' w', K e s' -> Rel w0 s' a' w' -> Q e a' w') : c.wpIn (Fence.wide.inRound l) n cx.P Q a w :=
 codeD_sound hcx (fun _ => trivial) rfl (fun _ _ _ _ _ h => CallsIn.inRound l (callsIn_wide.2 h))
  (fun id ops a w Q hnd h => wpIn_region_any hcx.mix (wpAnyIn_of_wpAny (fun i o ho => (Array.all_eq_true'.1 hnd) o (Array.mem_of_getElem? ho)) (fun ⟨_, _, h⟩ => nomatch h.1) _ _ _ _ h)) c K s a w Q h hR hQ
def setP (fr : Fr) : List Nat -> List Value -> Fr
 | p :: ps, v :: vs => setP (fset fr p (.val v)) ps vs
 | _, _ => fr
def sets (t : Array Value) : List Nat -> List Value -> Array Value
 | p :: ps, v :: vs => sets (t.setIfInBounds p v) ps vs
 | _, _ => t
theorem sets_eq (ps : List Nat) (vs : List Value) (t : Array Value) : ((ps.toArray.zip vs.toArray).foldl (fun (t : Array Value) (x : Nat × Value) => t.setIfInBounds x.1 x.2) t) = sets t ps vs := by
 rw [List.zip_toArray, List.foldl_toArray]
 induction ps generalizing vs t with
 | nil => simp [sets]
 | cons p ps ih => cases vs with
   | nil => simp [sets]
   | cons v vs => simp only [List.zip_cons_cons, List.foldl_cons, sets]; exact ih _ _
theorem rel_sets {s : St} {a : Act} {w : World} (hR : Rel w0 s a w) (ps : List Nat) (vs : List Value) : Rel w0 { s with fr := setP s.fr ps vs } { a with tmps := sets a.tmps ps vs } w := by
 induction ps generalizing vs s a with
 | nil => cases vs <;> exact hR
 | cons p ps ih => cases vs with
   | nil => exact hR
   | cons v vs => exact ih (hR.put (some p) (v := v) (sv := .val v) fun _ => .inr rfl) vs
theorem grown_keep {s : St} {a : Act} {W W' : World} {B : Nat} {row : Option Nat} (hR : Rel w0 s a W) (hB : w0.B <= B) (hg : W.grownBy W' row)
 (hr : ∀ r, row = some r -> B <= r /\ ∃ o : Obj, W.heap[r]? = some o /\ o.isCells = false) : Keep w0 s.r W W' := by
 refine ⟨⟨hg.os, hg.tape, hg.output, hg.size, fun k hk => hg.block k ?_ fun e => ?_⟩, fun b hb => hg.block b (hR.at_.lt b hb) fun e => ?_⟩
 ·exact Nat.lt_of_lt_of_le hk (Nat.le_trans w0.le hR.at_.below.size)
 ·have := (hr k e.symm).1; omega
 ·obtain ⟨_, o, ho, hc⟩ := hr b e.symm
  obtain ⟨i, hi, hib⟩ := List.getElem_of_mem hb;have hil : i < s.hp.length := by rw [<- hR.len]; exact hi
  have h1 := hR.blk [] i b (s.hp[i]) (by rw [List.getElem?_eq_getElem hi, hib]) (by rw [hget_eq, List.getElem?_eq_getElem hil]);rw [h1] at ho; injection ho with ho; subst ho; cases hc
theorem grown_of_at {s : St} {a a2 : Act} {W w1 : World} {s2 : St} (hR : Rel w0 s a W) (h : AtW w0 s2 w1) (hw : s2.w = W) (hL : s2.L = []) : W.grownBy w1 none :=
 ⟨h.below.os.trans hR.at_.below.os.symm, h.below.tape.trans hR.at_.below.tape.symm, h.below.output.trans hR.at_.below.output.symm, by rw [<- hw]; exact h.size, fun k hk _ => by rw [<- hw]; exact h.step k (by rw [hw]; exact hk) (by rw [hL]; simp)⟩
structure CovH (hp : List LB) (r : List Nat) (s : St) : Prop where
 chp : nfH s.r (s.hp.take r.length) = nfH s.r hp
 cr : s.r.take r.length = r
 wfh : wfH r.length hp = true
theorem covH_rel {s s2 : St} {a a2 : Act} {W w1 : World} {hp : List LB} (hR : Rel w0 s a W) (h2 : Rel w0 s2 a2 w1) (hc : CovH hp s.r s2) : Rel w0 ⟨s.fr, hp, s.r, [], w1, s.df⟩ a w1 := by
 obtain ⟨c2, c3, c5⟩ := hc;have e : Rel w0 ⟨s2.fr.map fun _ => .junk, hp, s.r, [], w1, s2.df⟩ a2 w1 := by
  refine cov_rel h2 ⟨?_, c2, c3, ?_, c5, rfl⟩
  ·generalize s2.fr = fr
   induction fr with
   | nil => trivial
   | cons b l ih => exact ih
  ·generalize s2.fr = fr
   induction fr with
   | nil => rfl
   | cons b l ih => exact ih
 exact ⟨hR.df, hR.fits, ⟨e.at_.below, e.at_.size, e.at_.step, e.at_.blk, e.at_.fresh, e.at_.lt, e.at_.base⟩, e.blk, hR.nod, e.len⟩
def exitOf : Code -> Option Exit
 | .ret => some .ret
 | .exit id => some (.exit id)
 | _ => none
theorem rangeD (hcx : CxOk cx) {n : Nat} (h1 : 1 <= n) {s : St} {a : Act} {w : World} (hR : Rel w0 s a w) {g : Operand} {ps : Array Tmp} {x y : Code} {K : Exit -> St -> Prop} {gf : Nat} {lb : Array Value}
 (hg : ev s.fr g = .val (.func (.func gf) #[] lb)) (eg : Enters cx.P gf)
 {α : Type} {encs : α -> List Value} {Kp : World -> World -> Prop} {S Sp : List α -> Prop} {N : Nat} (hseq : SeqStopsK Fence.wide (n - 1) cx.P gf lb (fun x => (encs x).toArray) Kp S Sp N w)
 (hKt : ∀ {A B C : World}, Kp A B -> Kp B C -> Kp A C) (hKb : ∀ (W : World) (l : Nat) (o o' : Obj), w.heap.size <= l -> W.heap[l]? = some o -> o.isCells = false -> o.isWalk = false -> Kp W (W.putObj l o'))
 (hKg : ∀ W W', w.heap.size <= W.heap.size -> W.grownBy W' none -> Kp W W') (hps : ∀ x, (encs x).length = ps.size)
 (hpf : List α -> List LB) (Φ : List α -> World -> Prop) (hΦ : OwnFrom w.heap.size Φ) (hp0 : hpf [] = s.hp) (hΦ0 : Φ [] w)
 (Ix : Code -> List α -> World -> Prop) (hpx : Code -> List α -> List LB) (hIx : ∀ c, OwnFrom w.heap.size (Ix c))
 (frx : α -> Fr)
 (hassign : ∀ l z hp W, codeD (Fence.wide.inRound l) (n - 1 - 1) cx w0 x (fun e s' => e = .normal /\ s' = ⟨frx z, hp, s.r, [], W, []⟩) ⟨setP s.fr ps.toList (encs z), hp, s.r, [], W, []⟩)
 (hbody : ∀ l pre x W, Φ pre W -> Below w0.B w0.W W -> w.heap.size <= W.heap.size -> pre.length < N -> codeD (Fence.wide.inRound l) (n - 1 - 1) cx w0 y
   (fun e s' => match e with
     | .normal => s'.on fun fr2 hp2 r2 L2 w2 df2 => Need (CovH (hpf (pre ++ [x])) s.r ⟨fr2, hp2, r2, L2, w2, df2⟩) (EndI w0 hp2 r2 L2 w2 undef fun _ w1 => KeepsFrom w.heap.size W w1 /\ Kp W w1 /\ Φ (pre ++ [x]) w1)
     | .ret => s'.on fun fr2 hp2 r2 L2 w2 df2 => Need (CovH (hpx .ret (pre ++ [x])) s.r ⟨fr2, hp2, r2, L2, w2, df2⟩) (EndI w0 hp2 r2 L2 w2 undef fun _ w1 => KeepsFrom w.heap.size W w1 /\ Ix .ret (pre ++ [x]) w1)
     | .exit id => s'.on fun fr2 hp2 r2 L2 w2 df2 => Need (CovH (hpx (.exit id) (pre ++ [x])) s.r ⟨fr2, hp2, r2, L2, w2, df2⟩) (EndI w0 hp2 r2 L2 w2 undef fun _ w1 => KeepsFrom w.heap.size W w1 /\ Ix (.exit id) (pre ++ [x]) w1)
     | _ => False) ⟨frx x, hpf pre, s.r, [], W, []⟩)
 (hdone : ∀ D xs W, w.heap.size <= D -> S xs -> Φ xs W -> W.heap[D]? = some (.deferred (some [])) -> K .normal ⟨s.fr, hpf xs, s.r, [], W, { target := .collected D, args := #[] } :: s.df⟩)
 (hstop : ∀ D c e pre W, w.heap.size <= D -> Sp pre -> Ix c pre W -> exitOf c = some e -> W.heap[D]? = some (.deferred (some [])) -> K e ⟨s.fr, hpx c pre, s.r, [], W, { target := .collected D, args := #[] } :: s.df⟩) :
 (Code.rangeFunc g ps x y).wpIn Fence.wide n cx.P (fun e a' w' => ∃ s', Rel w0 s' a' w' /\ K e s') a w := by
 have hev := hR.ev1 hg (by simp) [];simp only [SV.den] at hev;have hB : w0.B <= w.heap.size := Nat.le_trans w0.le hR.at_.below.size;have ownR : ∀ (hpg : List α -> List LB), OwnFrom w.heap.size (fun pre W => Rel w0 ⟨s.fr, hpg pre, s.r, [], W, s.df⟩ a W) := fun hpg pre W W' row h hgr hr =>
  h.keep (grown_keep h hB hgr hr)
 have withD : ∀ {hp : List LB} {W : World} (D : Nat), Rel w0 ⟨s.fr, hp, s.r, [], W, s.df⟩ a W -> Rel w0 ⟨s.fr, hp, s.r, [], W, { target := .collected D, args := #[] } :: s.df⟩ { a with defers := { target := .collected D, args := #[] } :: a.defers } W := fun {hp} {W} D h =>
  ⟨congrArg (_ :: ·) h.df, h.fits, ⟨h.at_.below, h.at_.size, h.at_.step, h.at_.blk, h.at_.fresh, h.at_.lt, h.at_.base⟩, h.blk, h.nod, h.len⟩
 have inner : ∀ {hp : List LB} {W : World} {a' : Act} {fr : Fr}, Rel w0 ⟨s.fr, hp, s.r, [], W, s.df⟩ a W -> a'.defers = [] -> (∀ t, Fits (s.r ++ t) fr a'.tmps) -> Rel w0 ⟨fr, hp, s.r, [], W, []⟩ a' W := fun {hp} {W} {a'} {fr} h hd hf =>
  ⟨hd, hf, ⟨h.at_.below, h.at_.size, h.at_.step, h.at_.blk, h.at_.fresh, h.at_.lt, h.at_.base⟩, h.blk, h.nod, h.len⟩
 refine wpIn_rangeFunc_ownH rfl h1 hev trivial eg hseq hKt hKb (Below.refl _ _) (fun x => by simp [hps]) (fun pre W => Rel w0 ⟨s.fr, hpf pre, s.r, [], W, s.df⟩ a W /\ w.heap.size <= W.heap.size /\ Φ pre W)
  (fun c pre W => (∃ e, exitOf c = some e) /\ Rel w0 ⟨s.fr, hpx c pre, s.r, [], W, s.df⟩ a W /\ Ix c pre W)
  ?_ ?_ ?_ (fun x a' _ => a'.defers = [] /\ ∀ t, Fits (s.r ++ t) (frx x) a'.tmps) (fun _ _ _ _ _ _ h _ _ => h) ?_ ?_ ?_ ?_
 ·exact fun pre W W' row h hgr hr => ⟨ownR hpf pre W W' row h.1 hgr hr, Nat.le_trans h.2.1 hgr.size, hΦ pre W W' row h.2.2 hgr hr⟩
 ·exact fun c pre W W' row h hgr hr => ⟨h.1, ownR (hpx c) pre W W' row h.2.1 hgr hr, hIx c pre W W' row h.2.2 hgr hr⟩
 ·have h0 := hR.keep keep_refl
  refine ⟨?_, Nat.le_refl _, hΦ0⟩;rw [hp0]; exact h0
 ·intro l pre z W K' hI hK
  have hr1 := rel_sets (w0 := w0) (s := ⟨s.fr, hpf pre, s.r, [], W, []⟩) (a := ⟨a.tmps, []⟩) (inner hI.1 rfl hI.1.fits) ps.toList (encs z);have e1 : (ps.zip (encs z).toArray).foldl (fun (t : Array Value) (x : Nat × Value) => t.setIfInBounds x.1 x.2) a.tmps = sets a.tmps ps.toList (encs z) := by
   rw [<- sets_eq]
  show x.wpIn _ _ _ _ ({ tmps := (ps.zip (encs z).toArray).foldl (fun (t : Array Value) (x : Nat × Value) => t.setIfInBounds x.1 x.2) a.tmps, defers := [] } : Act) W;rw [e1];refine codeD_round hcx l _ _ _ _ _ W _ (hassign l z (hpf pre) W) hr1 ?_;rintro e s' a' W' ⟨rfl, rfl⟩ hR';have hgr := grown_of_at (a2 := a) hI.1 hR'.at_ rfl rfl;refine hK a' W' ⟨hgr.size, fun k o _ hk _ => (hgr.block k (Array.getElem?_eq_some_iff.1 hk).1 (by simp)).trans hk⟩ (hKg W W' hI.2.1 hgr) ⟨ownR hpf pre W W' none hI.1 hgr (by simp), Nat.le_trans hI.2.1 hgr.size, hΦ pre W W' none hI.2.2 hgr (by simp)⟩ ⟨hR'.df, hR'.fits⟩
 ·intro l pre x a' W _ _ hI hA hN
  refine codeD_round hcx l _ y _ _ _ W _ (hbody l pre x W hI.2.2 hI.1.at_.below hI.2.1 hN) (inner hI.1 hA.1 hA.2) ?_;intro e s' a2 w1 hK hR';cases e with
  | normal =>
    simp only [St.on_eq] at hK;obtain ⟨h1, h2⟩ := hK;obtain ⟨h3, h4, h5⟩ := h2.h w1 hR'.at_;exact ⟨h3, h4, covH_rel (s := ⟨s.fr, hpf pre, s.r, [], W, s.df⟩) hI.1 hR' h1, Nat.le_trans hI.2.1 h3.size, h5⟩
  | ret =>
    simp only [St.on_eq] at hK;obtain ⟨h1, h2⟩ := hK;obtain ⟨h3, h5⟩ := h2.h w1 hR'.at_;exact ⟨h3, ⟨_, rfl⟩, covH_rel (s := ⟨s.fr, hpf pre, s.r, [], W, s.df⟩) hI.1 hR' h1, h5⟩
  | exit id =>
    simp only [St.on_eq] at hK;obtain ⟨h1, h2⟩ := hK;obtain ⟨h3, h5⟩ := h2.h w1 hR'.at_;exact ⟨h3, ⟨_, rfl⟩, covH_rel (s := ⟨s.fr, hpf pre, s.r, [], W, s.df⟩) hI.1 hR' h1, h5⟩
  | goto l => exact hK.elim
  | panic ch => exact hK.elim
  | outgrown => exact hK.elim
 ·intro D xs W hD hS hI hd
  exact ⟨_, withD D hI.1, hdone D xs W hD hS hI.2.2 hd⟩
 ·intro D c pre W hD hS hI hd
  obtain ⟨⟨e, he⟩, hRx, hix⟩ := hI;have hk := hstop D c e pre W hD hS hix he hd;cases c <;> simp only [exitOf] at he <;> try (cases he; done)
  ·injection he with he; subst he; exact wpIn_exit ⟨_, withD D hRx, hk⟩
  ·injection he with he; subst he; exact wpIn_ret ⟨_, withD D hRx, hk⟩
def unmark (w : World) (D : Nat) (w2 : World) : Prop := w2.heap.size = w.heap.size /\ w2.os = w.os /\ w2.tape = w.tape /\ w2.output = w.output /\ ∀ k, k ≠ D -> w2.heap[k]? = w.heap[k]?
structure EndM (w0 : Base) (hp : List LB) (r L : List Nat) (w : World) (D : Nat) (v : Value) (R : Value -> World -> Prop) : Prop where
 h : ∀ w1, At w0 hp r L w w1 -> (w0.B <= D /\ w1.heap[D]? = some (.deferred (some []))) /\ ∀ w2, unmark w1 D w2 -> R v w2
def marks (Ds : List Nat) : List Deferred := Ds.map fun D => { target := .collected D, args := #[] }
def unmarks (w : World) (Ds : List Nat) (w2 : World) : Prop := w2.heap.size = w.heap.size /\ w2.os = w.os /\ w2.tape = w.tape /\ w2.output = w.output /\ ∀ k, k ∉ Ds -> w2.heap[k]? = w.heap[k]?
structure EndMs (w0 : Base) (hp : List LB) (r L : List Nat) (w : World) (df : List Deferred) (v : Value) (R : Value -> World -> Prop) : Prop where
 h : ∀ w1, At w0 hp r L w w1 -> ∃ Ds, df = marks Ds /\ Ds.Nodup /\ (∀ D, D ∈ Ds -> w0.B <= D /\ w1.heap[D]? = some (.deferred (some []))) /\ ∀ w2, unmarks w1 Ds w2 -> R v w2
def finM (cx : Cx) (w0 : Base) (res : List ResultVar) (R : Value -> World -> Prop) (s : St) : Prop :=
 s.on fun fr hp r L w df => match df, resD cx ⟨fr, hp, r, L, w, df⟩ res with
  | [], some [v] => denK r v fun v => EndI w0 hp r L w v R
  | [], some l => denLK r l fun vs => EndI w0 hp r L w (.tuple vs.toArray) R
  | [⟨.collected D, _⟩], some [v] => denK r v fun v => EndM w0 hp r L w D v R
  | [⟨.collected D, _⟩], some l => denLK r l fun vs => EndM w0 hp r L w D (.tuple vs.toArray) R
  | df, some [v] => denK r v fun v => EndMs w0 hp r L w df v R
  | df, some l => denLK r l fun vs => EndMs w0 hp r L w df (.tuple vs.toArray) R
  | _, none => False
def endM (cx : Cx) (w0 : Base) (fn : Func) (R : Value -> World -> Prop) : Exit -> St -> Prop
 | .normal, s => finM cx w0 fn.results.toList R s
 | .ret, s => finM cx w0 fn.results.toList R s
 | _, _ => False
def funM (n : Nat) (cx : Cx) (w0 : Base) (fn : Func) (args : List SV) (R : Value -> World -> Prop) : Prop :=
 match fn.body with
 | some c => force (args ++ List.replicate (fn.ntmps - args.length) (.val undef)) fun fr => codeD Fence.wide n cx w0 c (endM cx w0 fn R) ⟨fr, [], [], [], w0.W, []⟩
 | none => False
theorem finM_sound {n : Nat} (hcx : CxOk cx) {fn : Func} {R : Value -> World -> Prop} {s : St} {a : Act} {w : World} (h : finM cx w0 fn.results.toList R s) (hR : Rel w0 s a w) :
 LeavesInM Fence.wide n cx.P fn a.tmps (fun e w' => ∃ v, e = .returned v /\ Below w0.B w0.W w' /\ R v w') a.defers .returning w := by
 unfold finM at h;rw [St.on_eq] at h;have key : ∀ {w2 : World} {s2 : St}, Rel w0 s2 a w2 -> s2.fr = s.fr -> s2.hp = s.hp -> s2.r = s.r -> ∀ r, resD cx s fn.results.toList = some r -> (results fn a.tmps).run cx.P w2 = .ok (if h : (denL s.r r).toArray.size = 1 then (denL s.r r).toArray[0] else .tuple (denL s.r r).toArray) w2 := fun {w2} {s2} hR2 e1 e2 e3 r hr => by
  have hr2 : resD cx s2 fn.results.toList = some r := by
   rw [<- hr];generalize fn.results.toList = l;have one : ∀ x, resV cx s2 x = resV cx s x := fun x => by cases x <;> simp [resV, e1, e2]
   induction l with
   | nil => rfl
   | cons x l ih => simp only [resD, one, ih]
  have h1 := resD_sound hcx hR2 hr2;rw [results_eq, <- Array.toArray_toList (xs := fn.results), List.mapM_toArray];simp only [Sem.run_bind, map_eq_pure_bind, h1, Result.andThen, Sem.run_pure, e3]
 have two : ∀ l, (∀ v, l ≠ [v]) -> ¬ (denL s.r l).toArray.size = 1 := fun l hne e => by
  match l, hne with
  | [], hne => simp [denL] at e
  | [v], hne => exact hne v rfl
  | a :: b :: l, hne => simp [denL] at e
 have leaves0 : ∀ {w2 : World} {v : Value}, (results fn a.tmps).run cx.P w2 = .ok v w2 -> Below w0.B w0.W w2 -> R v w2 -> LeavesInM Fence.wide n cx.P fn a.tmps (fun e w' => ∃ v, e = .returned v /\ Below w0.B w0.W w' /\ R v w') [] .returning w2 := fun {w2} {v} h1 h2 h3 =>
  ⟨v, h1, v, rfl, h2, h3⟩
 have leaves1 : ∀ {D : Nat} {ar : Array Value} {v : Value} {l : List SV}, s.df = [⟨.collected D, ar⟩] -> resD cx s fn.results.toList = some l -> (if h : (denL s.r l).toArray.size = 1 then (denL s.r l).toArray[0] else .tuple (denL s.r l).toArray) = v ->
  ((w0.B <= D /\ w.heap[D]? = some (.deferred (some []))) /\ ∀ w2, unmark w D w2 -> R v w2) ->
  LeavesInM Fence.wide n cx.P fn a.tmps (fun e w' => ∃ v, e = .returned v /\ Below w0.B w0.W w' /\ R v w') a.defers .returning w := fun {D} {ar} {v} {l} hdf hr hv hD => by
  rw [hR.df, hdf];obtain ⟨⟨hw0, hcell⟩, hR2⟩ := hD;refine ⟨by simp, .inl ⟨_, _, rfl, run_takeDeferred hcell, ?_⟩⟩;have hoth : ∀ (o : Obj) k, k ≠ D -> (w.putObj D o).heap[k]? = w.heap[k]? := fun o k hk => World.putObj_heap_other hk;have hun : ∀ o : Obj, unmark w D (w.putObj D o) := fun o => ⟨by simp [World.putObj], rfl, rfl, rfl, hoth o⟩
  have hbl : ∀ o : Obj, Keep w0 s.r w (w.putObj D o) := fun o => ⟨⟨rfl, rfl, rfl, by simp [World.putObj], fun k hk => hoth o k (by omega)⟩, fun b hb => hoth o b (by
   rintro rfl;obtain ⟨i, hi, hib⟩ := List.getElem_of_mem hb;have hil : i < s.hp.length := by rw [<- hR.len]; exact hi
   have h1 := hR.blk [] i b (s.hp[i]) (by rw [List.getElem?_eq_getElem hi, hib]) (by rw [hget_eq, List.getElem?_eq_getElem hil]);rw [h1] at hcell; cases hcell)⟩
  have hRk := hR.keep (hbl (.deferred none));refine leaves0 (v := v) ?_ hRk.at_.below (hR2 _ (hun _));rw [key hRk rfl rfl rfl l hr, hv]
 have leavesN : ∀ {v : Value} {l : List SV}, resD cx s fn.results.toList = some l -> (if h : (denL s.r l).toArray.size = 1 then (denL s.r l).toArray[0] else .tuple (denL s.r l).toArray) = v -> ∀ (Ds : List Nat) (w2 : World) (s2 : St), Rel w0 s2 a w2 -> s2.fr = s.fr -> s2.hp = s.hp -> s2.r = s.r ->
  Ds.Nodup -> (∀ D, D ∈ Ds -> w0.B <= D /\ w2.heap[D]? = some (.deferred (some []))) -> (∀ w3, unmarks w2 Ds w3 -> R v w3) ->
  LeavesInM Fence.wide n cx.P fn a.tmps (fun e w' => ∃ v, e = .returned v /\ Below w0.B w0.W w' /\ R v w') (marks Ds) .returning w2 := fun {v} {l} hr hv Ds => by
  induction Ds with
  | nil =>
    intro w2 s2 hR2 e1 e2 e3 _ _ h3;refine leaves0 (v := v) ?_ hR2.at_.below (h3 _ ⟨rfl, rfl, rfl, rfl, fun _ _ => rfl⟩);rw [key hR2 e1 e2 e3 l hr, hv]
  | cons D Ds ih =>
    intro w2 s2 hR2 e1 e2 e3 hnd hD h3;obtain ⟨hw0, hcell⟩ := hD D (by simp);rw [List.nodup_cons] at hnd;refine ⟨by simp, .inl ⟨_, _, rfl, run_takeDeferred hcell, ?_⟩⟩;have hoth : ∀ (o : Obj) k, k ≠ D -> (w2.putObj D o).heap[k]? = w2.heap[k]? := fun o k hk => World.putObj_heap_other hk
    have hbl : ∀ o : Obj, Keep w0 s2.r w2 (w2.putObj D o) := fun o => ⟨⟨rfl, rfl, rfl, by simp [World.putObj], fun k hk => hoth o k (by omega)⟩, fun b hb => hoth o b (by
     rintro rfl;obtain ⟨i, hi, hib⟩ := List.getElem_of_mem hb;have hil : i < s2.hp.length := by rw [<- hR2.len]; exact hi
     have h1 := hR2.blk [] i b (s2.hp[i]) (by rw [List.getElem?_eq_getElem hi, hib]) (by rw [hget_eq, List.getElem?_eq_getElem hil]);rw [h1] at hcell; cases hcell)⟩
    have hRk := hR2.keep (hbl (.deferred none));refine ih _ _ hRk e1 e2 e3 hnd.2 (fun D' hD' => ?_) fun w3 h4 => h3 w3 ?_
    ·have hne : D' ≠ D := fun e => hnd.1 (e ▸ hD')
     exact ⟨(hD D' (by simp [hD'])).1, (hoth _ D' hne).trans (hD D' (by simp [hD'])).2⟩
    ·refine ⟨h4.1.trans (by simp [World.putObj]), h4.2.1, h4.2.2.1, h4.2.2.2.1, fun k hk => ?_⟩
     simp only [List.mem_cons, not_or] at hk;exact (h4.2.2.2.2 k hk.2).trans (hoth _ k hk.1)
 split at h
 ·rename_i v hdf hr
  rw [denK_eq] at h;rw [hR.df.trans hdf];refine leaves0 (v := v.den s.r) ?_ hR.at_.below (h.h w hR.at_);rw [key hR rfl rfl rfl _ hr]; rfl
 ·rename_i l hne hdf hr
  rw [denLK_eq] at h;rw [hR.df.trans hdf];refine leaves0 (v := .tuple (denL s.r l).toArray) ?_ hR.at_.below (h.h w hR.at_);rw [key hR rfl rfl rfl _ hr, dif_neg (two l hne)]
 ·rename_i D ar v hdf hr
  rw [denK_eq] at h;exact leaves1 hdf hr rfl (h.h w hR.at_)
 ·rename_i D ar l hne hdf hr
  rw [denLK_eq] at h;exact leaves1 hdf hr (dif_neg (two l hne)) (h.h w hR.at_)
 ·rename_i v hr _ _
  rw [denK_eq] at h;obtain ⟨Ds, hdf, hnd, hD, hK⟩ := h.h w hR.at_;rw [hR.df, hdf];exact leavesN hr rfl Ds w s hR rfl rfl rfl hnd hD hK
 ·rename_i l hne hr _ _ _ _
  rw [denLK_eq] at h;obtain ⟨Ds, hdf, hnd, hD, hK⟩ := h.h w hR.at_;rw [hR.df, hdf];exact leavesN hr (dif_neg (two _ hne)) Ds w s hR rfl rfl rfl hnd hD hK
 ·exact h.elim
theorem funM_in (n : Nat) (hcx : CxOk cx) (w0 : Base) {f : FuncId} {fn : Func} {args : List SV} {R : Value -> World -> Prop} (hf : cx.P.funcs[f]? = some fn)
 (hj : junkyL args = false) (hwf : wfL 0 args = true) (h : funM n cx w0 fn args R) :
 CallsIn Fence.wide n cx.P f (denL [] args).toArray w0.W fun e w' => ∃ v, e = .returned v /\ Below w0.B w0.W w' /\ R v w' := by
 unfold funM at h;split at h
 ·rename_i c hb
  rw [force_eq] at h;refine callsIn_of_wp_marks hf hb trivial ?_ rfl;have hwide : ∀ (n : Nat) g args w (R : Ending -> World -> Prop), Calls cx.P g args w R -> CallsIn Fence.wide n cx.P g args w R := fun n g args w R h => callsIn_wide.2 h;have hlen : (denL [] args).toArray.size = args.length := by simp [denL_len]
  have hrel : Rel w0 ⟨args ++ List.replicate (fn.ntmps - args.length) (.val undef), [], [], [], w0.W, []⟩ { tmps := (denL [] args).toArray ++ Array.replicate (fn.ntmps - (denL [] args).toArray.size) undef, defers := [] } w0.W := by
   refine ⟨rfl, fun t => ⟨by simp [denL_len], fun i => ?_⟩, ⟨Below.refl _ _, Nat.le_refl _, fun _ _ _ => rfl, fun i b c hi _ => (by simp at hi), fun b hb => (by cases hb), fun b hb => (by cases hb), Below.refl _ _⟩, fun t i b c hi _ => (by simp at hi), List.nodup_nil, rfl⟩;right;rw [hlen];have hg : ∀ (l : List SV) i, fget l i = (l[i]?).getD (.val undef) := fun l i => by
    induction l generalizing i with
    | nil => simp [fget]
    | cons a l ih => cases i <;> simp [fget, ih]
   show _ = (fget (args ++ List.replicate (fn.ntmps - args.length) (.val undef)) i).den ([] ++ t);rw [hg, Array.getD_eq_getD_getElem?];rcases Nat.lt_or_ge i args.length with hi | hi
   ·rw [Array.getElem?_append_left (by simpa [denL_len] using hi), List.getElem?_append_left hi]
    have h1 := wfL_get hwf i;rw [hg, List.getElem?_eq_getElem hi] at h1;simp only [Option.getD_some] at h1;simp only [List.getElem?_toArray, denL_eq, List.getElem?_map, List.getElem?_eq_getElem hi, Option.map_some, Option.getD_some];exact SV.den_wf (fun j hj => absurd hj (Nat.not_lt_zero j)) _ h1
   ·rw [Array.getElem?_append_right (by simpa [denL_len] using hi), List.getElem?_append_right hi]
    simp only [List.size_toArray, denL_len, List.getElem?_replicate, Array.getElem?_replicate];split <;> rfl
  refine codeD_sound hcx (fun _ => trivial) rfl hwide (fun id ops a w Q _ h => wpIn_wide.2 (wp_region_any hcx.mix h)) c _ _ _ _ _ h hrel fun e s' a' w' hK hR' => ?_;cases e with
  | normal => exact finM_sound hcx hK hR'
  | ret => exact finM_sound hcx hK hR'
  | exit id => exact hK.elim
  | goto l => exact hK.elim
  | panic ch => exact hK.elim
  | outgrown => exact hK.elim
 ·exact h.elim
theorem funM_sound (n : Nat) (hcx : CxOk cx) (w0 : Base) {f : FuncId} {fn : Func} {args : List SV} {R : Value -> World -> Prop} (hf : cx.P.funcs[f]? = some fn)
 (hj : junkyL args = false) (hwf : wfL 0 args = true) (h : funM n cx w0 fn args R) :
 Calls cx.P f (denL [] args).toArray w0.W fun e w' => ∃ v, e = .returned v /\ Below w0.B w0.W w' /\ R v w' :=
 (callsIn_wide (n := n)).1 (funM_in n hcx w0 hf hj hwf h)
end
end Go.Proofs.YtanhnllkccldhaaGreat.Eng
