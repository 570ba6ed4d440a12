/-
  Small laws for a loop over a function whose body writes a row that lay ahead of it: what the loop's book-keeping leaves alone.
-/
import Derived.Test.YtdecibfnhceloaaGreatMem
import Derived.Test.YtdecibfnhceloaaGreatPairs
namespace Go.Proofs.YtdecibfnhceloaaGreat
set_option linter.unusedVariables false
open Go.RowKit

theorem keepsBox_put {Bs : Nat} {w : World} (hb : Bs < w.heap.size) (W : World) (l : Nat) (o o' : Obj) (hl : w.heap.size ≤ l) (h : W.heap[l]? = some o) (_ : o.isCells = false) (_ : o.isWalk = false) : KeepsBox Bs W (W.putObj l o') :=
  World.cell?_of_block (World.putObj_heap_other (by show Bs ≠ l; omega))
theorem ownFrom_rowAt {β : Type} {B : Nat} (T : TypeId) {g : Nat} (f : β → List Int) : OwnFrom B (fun s W => RowAt T W g (f s)) := fun s W W' row hs hg hr =>
  hs.kept (hg.block g hs.lt (fun e => by
    obtain ⟨_, o, ho, hc⟩ := hr g e.symm
    obtain ⟨cur, hcur, _⟩ := hs
    rw [hcur] at ho; cases ho; cases hc))
theorem ownFrom_grown {β : Type} {w : World} {B : Nat} {row0 : Option Nat} (hB : w.heap.size ≤ B) : OwnFrom B (fun (_ : β) W => w.grownBy W row0) := fun s W W' row hs hg hr =>
  ⟨hg.os.trans hs.os, hg.tape.trans hs.tape, hg.output.trans hs.output, Nat.le_trans hs.size hg.size, fun k hk hne =>
    (hg.block k (Nat.lt_of_lt_of_le hk hs.size) (fun e => by have := (hr k e.symm).1; omega)).trans (hs.block k hk hne)⟩
theorem grown_refl (w : World) (row : Option Nat) : w.grownBy w row := ⟨rfl, rfl, rfl, Nat.le_refl _, fun _ _ _ => rfl⟩
theorem grown_trans {a b c : World} {row : Option Nat} (h : a.grownBy b row) (k : b.grownBy c row) : a.grownBy c row :=
  ⟨k.os.trans h.os, k.tape.trans h.tape, k.output.trans h.output, Nat.le_trans h.size k.size, fun i hi hne => (k.block i (Nat.lt_of_lt_of_le hi h.size) hne).trans (h.block i hi hne)⟩
theorem grown_alloc {a b : World} {row : Option Nat} (h : a.grownBy b row) (o : Obj) : a.grownBy (b.alloc o) row := grown_trans h (World.grownBy_alloc b o row)
theorem grown_below {a b c : World} {row : Option Nat} (h : a.grownBy b row) (k : Below b.heap.size b c) : a.grownBy c row :=
  grown_trans h ⟨k.os, k.tape, k.output, k.size, fun i hi _ => k.block i hi⟩
theorem grown_set {a b : World} {g : Nat} (h : a.grownBy b (some g)) (j : Nat) (v : Value) : a.grownBy (b.setCell ⟨g, j, none⟩ v) (some g) :=
  grown_trans h ⟨rfl, rfl, rfl, by simp [World.setCell], fun i hi hne => Below.heap_setCell _ _ _ _ (fun e => hne (by rw [e]))⟩
theorem rowAt_alloc {T : TypeId} {W : World} {g : Nat} {L : List Int} (h : RowAt T W g L) (o : Obj) : RowAt T (W.alloc o) g L := h.kept (Below.heap_alloc W o g h.lt)
theorem below_drn' {B : Nat} {W w : World} {n : Nat} (h : Below B W w) : Below B W (w.drewN n) := h.trans ⟨rfl, rfl, rfl, Nat.le_refl _, fun _ _ => rfl⟩

end Go.Proofs.YtdecibfnhceloaaGreat
