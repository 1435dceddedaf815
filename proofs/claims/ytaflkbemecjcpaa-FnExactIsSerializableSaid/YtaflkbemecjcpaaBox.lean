/- A struct of three numbers in a block of its own. -/
import Derived.Test.YtaflkbemecjcpaaFilt
namespace Go.Proofs.Ytaflkbemecjcpaa
set_option linter.unusedSimpArgs false
set_option linter.unusedVariables false
open Go.RowKit

/-- A struct of three numbers in a block of its own. -/
def Bx3 (w : World) (b : Nat) (E : TypeId) (x y z : Int) : Prop := w.heap[b]? = some (.cells #[.int .i64 x, .int .i64 y, .int .i64 z] E (0, 0))
section
variable {w w1 : World} {b g : Nat} {E : TypeId} {x y z : Int}
theorem Bx3.at_ (h : Bx3 w b E x y z) : b < w.heap.size ∧ w.cell? ⟨b, 0, none⟩ = some (.int .i64 x) ∧ w.cell? ⟨b, 1, none⟩ = some (.int .i64 y) ∧ w.cell? ⟨b, 2, none⟩ = some (.int .i64 z) ∧ w.frozen? ⟨b, 0, none⟩ = false ∧ w.frozen? ⟨b, 1, none⟩ = false ∧ w.frozen? ⟨b, 2, none⟩ = false := by
  have h' : w.heap[b]? = some (.cells #[.int .i64 x, .int .i64 y, .int .i64 z] E (0, 0)) := h
  refine ⟨lt_of_block h', ?_, ?_, ?_, frozen_of_row w b 0 _ _ h', frozen_of_row w b 1 _ _ h', frozen_of_row w b 2 _ _ h'⟩
  · rw [cell_of_row w b 0 _ _ (0, 0) h']; rfl
  · rw [cell_of_row w b 1 _ _ (0, 0) h']; rfl
  · rw [cell_of_row w b 2 _ _ (0, 0) h']; rfl
theorem Bx3.made (w : World) (E : TypeId) (x y z : Int) : Bx3 (w.alloc (.cells #[.int .i64 x, .int .i64 y, .int .i64 z] E)) w.heap.size E x y z := by
  unfold Bx3; rw [heap_alloc_new]
theorem Bx3.gr (h : Bx3 w b E x y z) (hg : w.grownBy w1 (some g)) (hne : b ≠ g) : Bx3 w1 b E x y z := (hg.block b (lt_of_block h) (by simpa using hne)).trans h
theorem Bx3.be (h : Bx3 w b E x y z) (hb : Below w.heap.size w w1) : Bx3 w1 b E x y z := (hb.block b (lt_of_block h)).trans h
theorem Bx3.al (h : Bx3 w b E x y z) (o : Obj) : Bx3 (w.alloc o) b E x y z := (Below.heap_alloc w o b (lt_of_block h)).trans h
theorem Bx3.far (h : Bx3 w b E x y z) (p : Addr) (u : Value) (hne : b ≠ p.block) : Bx3 (w.setCell p u) b E x y z := (Below.heap_setCell w p u b hne).trans h
theorem Bx3.set0 (h : Bx3 w b E x y z) (v : Int) : Bx3 (w.setCell ⟨b, 0, none⟩ (.int .i64 v)) b E v y z := by
  unfold Bx3; rw [heap_setCell_same w b 0 _ _ _ h]; rfl
theorem Bx3.set1 (h : Bx3 w b E x y z) (v : Int) : Bx3 (w.setCell ⟨b, 1, none⟩ (.int .i64 v)) b E x v z := by
  unfold Bx3; rw [heap_setCell_same w b 1 _ _ _ h]; rfl
theorem Bx3.set2 (h : Bx3 w b E x y z) (v : Int) : Bx3 (w.setCell ⟨b, 2, none⟩ (.int .i64 v)) b E x y v := by
  unfold Bx3; rw [heap_setCell_same w b 2 _ _ _ h]; rfl
end
end Go.Proofs.Ytaflkbemecjcpaa
