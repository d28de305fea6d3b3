/-
  No statement of the seat is proved here. Worlds that have grown: 'more w g' is w with the blocks g.xs behind its own and g.n answers drawn. A region that draws its order, whose operations load from blocks of w and whose calls only make new blocks, is walked once, in the order of the text. No condition.
-/
import Derived.WalkKit
import Derived.Deep.Quiet
import Derived.Deep.QuietTactic
import Derived.BigQuiet
import Derived.Lib.Hide
namespace Go.Proofs.Ytbdhjoanjlkggaa
open Go Go.RowKit

/-- What a world has grown by: new blocks, and the count of answers drawn. -/
structure Grow where
  xs : Array Obj
  n : Nat
instance growNonempty : Nonempty Grow := ⟨⟨#[], 0⟩⟩
def Grow.join (g h : Grow) : Grow := ⟨g.xs ++ h.xs, h.n⟩
def Grow.drew (g : Grow) : Grow := ⟨g.xs, g.n + 1⟩
def Grow.size (g : Grow) : Nat := g.xs.size

/-- w with further blocks behind its own, and n answers drawn. -/
def more (w : World) (g : Grow) : World := { w with heap := w.heap ++ g.xs, drawn := g.n }

section
variable (w : World) (g h : Grow)
theorem more_heap_lt (k : Nat) (hk : k < w.heap.size) : (more w g).heap[k]? = w.heap[k]? := by
  show (w.heap ++ g.xs)[k]? = _
  rw [Array.getElem?_append_left hk]
@[simp, go_sem] theorem more_size : (more w g).heap.size = w.heap.size + g.size := by simp [more, Grow.size]
@[simp, go_sem] theorem more_more : more (more w g) h = more w (g.join h) := by simp [more, Grow.join, Array.append_assoc]
@[simp, go_sem] theorem more_drew : (more w g).drew = more w g.drew := rfl
@[simp, go_sem] theorem drew_more : more w.drew g = more w g := rfl
@[simp, go_sem] theorem more_tape : (more w g).tape = w.tape := rfl
@[go_sem] theorem more_cell (b i : Nat) (hb : b < w.heap.size) : (more w g).cell? ⟨b, i, none⟩ = w.cell? ⟨b, i, none⟩ :=
  World.cell?_of_block (w := w) (more_heap_lt w g b hb)
@[go_sem] theorem more_frozen (b i : Nat) (hb : b < w.heap.size) : (more w g).frozen? ⟨b, i, none⟩ = w.frozen? ⟨b, i, none⟩ :=
  World.frozen?_of_block (w := w) (more_heap_lt w g b hb)
@[go_sem] theorem more_shape (b : Nat) (hb : b < w.heap.size) : (more w g).shape? b = w.shape? b := by
  unfold World.shape?
  rw [more_heap_lt w g b hb]
@[go_sem] theorem more_setCell (b i : Nat) (v : Value) (hb : b < w.heap.size) : (more w g).setCell ⟨b, i, none⟩ v = more (w.setCell ⟨b, i, none⟩ v) g := by
  unfold World.setCell more
  congr 1
  apply Array.ext_getElem?
  intro k
  by_cases hk : k < w.heap.size
  · rw [Array.getElem?_append_left (by simpa using hk)]
    simp only [Array.getElem?_modify]
    rw [Array.getElem?_append_left hk]
  · rw [Array.getElem?_append_right (by simp; omega)]
    simp only [Array.getElem?_modify, Array.size_modify]
    rw [if_neg (by omega), Array.getElem?_append_right (by omega)]
end

/-- w' is w grown. -/
def Later (w w' : World) : Prop := ∃ g, w' = more w g
theorem Later.refl (w : World) : Later w w := ⟨⟨#[], w.drawn⟩, by simp [more]⟩
theorem Later.trans {a b c : World} (h : Later a b) (k : Later b c) : Later a c := by
  obtain ⟨g, rfl⟩ := h
  obtain ⟨g', rfl⟩ := k
  exact ⟨g.join g', more_more ..⟩
theorem Later.more {a w : World} (h : Later a w) (g : Grow) : Later a (more w g) := h.trans ⟨g, rfl⟩
theorem Later.below {a w : World} (h : Later a w) : Below a.heap.size a w := by
  obtain ⟨g, rfl⟩ := h
  exact ⟨rfl, rfl, rfl, by simp, fun k hk => more_heap_lt a g k hk⟩
theorem Later.of_below {a w : World} (h : Below a.heap.size a w) : Later a w := by
  obtain ⟨hp, tp, dr, os, ou⟩ := w
  obtain ⟨ho, ht, hu, hs, hb⟩ := h
  simp only at ho ht hu hs hb
  refine ⟨⟨hp.extract a.heap.size hp.size, dr⟩, ?_⟩
  unfold Ytbdhjoanjlkggaa.more
  subst ho ht hu
  congr 1
  apply Array.ext_getElem?
  intro k
  by_cases hk : k < a.heap.size
  · rw [Array.getElem?_append_left hk, hb k hk]
  · rw [Array.getElem?_append_right (by omega), Array.getElem?_extract]
    split
    · congr 1; omega
    · rw [Array.getElem?_eq_none (by omega)]
theorem Later.alloc {a w : World} (h : Later a w) (o : Obj) : Later a (w.alloc o) := Later.of_below (h.below.alloc h.below.size o)
theorem Later.drew {a w : World} (h : Later a w) : Later a w.drew := Later.of_below h.below.drew
theorem Later.setCell {a w : World} (h : Later a w) {p : Addr} (hp : a.heap.size ≤ p.block) (v : Value) : Later a (w.setCell p v) := Later.of_below (h.below.setCell hp v)

/-- What a call that only makes new memory leaves. -/
def Ret (w : World) (v : Value) (e : Ending) (w' : World) : Prop := e = .returned v ∧ Later w w'
theorem Ret.mk {w w' : World} {v : Value} (h : Later w w') : Ret w v (.returned v) w' := ⟨rfl, h⟩
theorem Ret.mk' {w w' : World} {v v' : Value} (hv : v' = v) (h : Later w w') : Ret w v (.returned v') w' := ⟨by rw [hv], h⟩

/-- A contract, met inside a region that draws. -/
theorem quiet_of {P : Program} {f : FuncId} {args : Array Value} {w : World} {g : Grow} {v : Value}
    (h : Calls P f args (more w g) (Ret (more w g) v)) : Calls P f args (more w g) fun e w'' => e = .returned v ∧ ∃ g', w'' = more w g' :=
  h.mono fun _ _ ⟨he, g', hw⟩ => ⟨he, g.join g', by rw [hw, more_more]⟩

theorem wp_region_later {P : Program} {id : Nat} {Q : Exit → Act → World → Prop} {a : Act} {w : World} {l : List Oper} (hm : P.follows .mixedOrders = true) (hB : Region.lexB .any l.toArray = true)
    (h : wpQuiet P l.toArray (fun w' => ∃ g, w' = more w g) (fun a' => ∀ w', (∃ g, w' = more w g) → Q .normal a' w') l a) : (Code.region id l.toArray true).wp P Q a w :=
  wp_region_quiet (C := fun w' => ∃ g, w' = more w g) hm hB ⟨⟨#[], w.drawn + 1⟩, by simp [more]⟩ (by simpa using h)

/-- The same where the world has grown before. -/
theorem wp_region_more {P : Program} {id : Nat} {Q : Exit → Act → World → Prop} {a : Act} {w : World} {g0 : Grow} {l : List Oper} (hm : P.follows .mixedOrders = true) (hB : Region.lexB .any l.toArray = true)
    (h : wpQuiet P l.toArray (fun w' => ∃ g, w' = more w g) (fun a' => ∀ w', (∃ g, w' = more w g) → Q .normal a' w') l a) : (Code.region id l.toArray true).wp P Q a (more w g0) :=
  wp_region_quiet (C := fun w' => ∃ g, w' = more w g) hm hB ⟨⟨g0.xs, g0.n + 1⟩, by simp [more]⟩ (by simpa using h)

end Go.Proofs.Ytbdhjoanjlkggaa
