/-
  No statement of the seat is proved here. Squares in memory, in whatever world.
-/
import Derived.Test.YtmhmnjeimjjipaaWakes
namespace Go.Proofs.Ytmhmnjeimjjipaa
open Go Go.RowKit
set_option linter.unusedVariables false
/-- A square lies in a block, and may be written. -/
def Sq (w : World) (b : Nat) (f : Nat → Int) : Prop := w.heap[b]? = some (.cells (arr f) 23 (0, 0))
theorem Sq.lt {w : World} {b : Nat} {f : Nat → Int} (h : Sq w b f) : b < w.heap.size := (Array.getElem?_eq_some_iff.1 h).1
theorem Sq.later {w w' : World} {b : Nat} {f : Nat → Int} (h : Sq w b f) (hl : Later w w') : Sq w' b f := by
  obtain ⟨g, rfl⟩ := hl
  unfold Sq
  rw [more_heap_lt _ _ _ h.lt]
  exact h
theorem Sq.new (w : World) (f : Nat → Int) : Sq (w.alloc (.cells (arr f) 23)) w.heap.size f := heap_alloc_new _ _
theorem Sq.old {w : World} {b : Nat} {f : Nat → Int} (h : Sq w b f) (o : Obj) : Sq (w.alloc o) b f := h.later ((Later.refl _).alloc o)
theorem Sq.cell {w : World} {b : Nat} {f : Nat → Int} (h : Sq w b f) {i : Nat} (hi : i < 64) : w.cell? ⟨b, i, none⟩ = some (.int .u64 (f i)) := by
  unfold World.cell?
  simp only [show w.heap[b]? = _ from h]
  exact arr_get f i hi
theorem Sq.fro {w : World} {b : Nat} {f : Nat → Int} (h : Sq w b f) (i : Nat) : w.frozen? ⟨b, i, none⟩ = false := by
  unfold World.frozen?
  simp only [show w.heap[b]? = _ from h]
  simp
theorem Sq.block {w : World} {b : Nat} {f : Nat → Int} (h : Sq w b f) : blockCells w b = arr f := by
  unfold blockCells
  simp only [show w.heap[b]? = _ from h]
theorem Sq.set {w : World} {b : Nat} {f : Nat → Int} (h : Sq w b f) {i : Nat} (hi : i < 64) (x : Int) : Sq (w.setCell ⟨b, i, none⟩ (.int .u64 x)) b (fun k => if k = i then x else f k) := by
  unfold Sq World.setCell
  simp only [Array.getElem?_modify]
  simp only [show w.heap[b]? = _ from h]
  simp [arr_set f i x hi]
theorem Sq.other {w : World} {b : Nat} {f : Nat → Int} (h : Sq w b f) {p : Addr} (hp : p.block ≠ b) (v : Value) : Sq (w.setCell p v) b f := by
  unfold Sq World.setCell
  simp only [Array.getElem?_modify, if_neg hp]
  exact h
theorem Sq.nums {w : World} {b : Nat} {f : Nat → Int} (h : Sq w b f) {n : Nat} (hn : n ≤ 64) : Nums w (some ⟨b, 0, none⟩) n f := fun k hk => ⟨b, 0, rfl, h.lt, by rw [Nat.zero_add]; exact h.cell (by omega)⟩
theorem Sq.congr {w : World} {b : Nat} {f h : Nat → Int} (H : Sq w b f) (e : ∀ i, i < 64 → f i = h i) : Sq w b h := by unfold Sq; rw [← arr_congr e]; exact H
end Go.Proofs.Ytmhmnjeimjjipaa
