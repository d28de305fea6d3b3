/-
  No statement of the seat is proved here. Rows of ints in blocks that are known whole; what a call leaves alone. No condition.
-/
import Derived.Test.YtbdhjoanjlkggaaMore
import Derived.Test.YtbdhjoanjlkggaaProg
import Derived.Laws.OwnMore
import Derived.Laws.Rows
import Derived.IntWalk
import Derived.Handy
namespace Go.Proofs.Ytbdhjoanjlkggaa
open Go Go.RowKit
set_option linter.unusedVariables false

/-- What is left alone: all blocks but those of S. -/
structure Only (w w' : World) (S : Nat → Prop) : Prop where
  os : w'.os = w.os
  tape : w'.tape = w.tape
  output : w'.output = w.output
  size : w.heap.size ≤ w'.heap.size
  block : ∀ k, k < w.heap.size → ¬ S k → w'.heap[k]? = w.heap[k]?
theorem Only.refl (w : World) (S : Nat → Prop) : Only w w S := ⟨rfl, rfl, rfl, Nat.le_refl _, fun _ _ _ => rfl⟩
theorem Only.trans {w w1 w2 : World} {S T : Nat → Prop} (h : Only w w1 S) (k : Only w1 w2 T) (hT : ∀ i, i < w.heap.size → T i → S i) : Only w w2 S :=
  ⟨k.os.trans h.os, k.tape.trans h.tape, k.output.trans h.output, Nat.le_trans h.size k.size, fun i hi hS => (k.block i (Nat.lt_of_lt_of_le hi h.size) (fun hT' => hS (hT i hi hT'))).trans (h.block i hi hS)⟩
theorem Only.mono {w w' : World} {S T : Nat → Prop} (h : Only w w' S) (hT : ∀ i, S i → T i) : Only w w' T := ⟨h.os, h.tape, h.output, h.size, fun i hi hn => h.block i hi (fun hs => hn (hT i hs))⟩
theorem Only.of_later {w w' : World} (h : Later w w') (S : Nat → Prop) : Only w w' S := by
  have hb := h.below
  exact ⟨hb.os, hb.tape, hb.output, hb.size, fun k hk _ => hb.block k hk⟩
theorem Only.later {w w' : World} (h : Only w w' fun k => w.heap.size ≤ k) : Later w w' := Later.of_below ⟨h.os, h.tape, h.output, h.size, fun k hk => h.block k hk (by omega)⟩
theorem Only.below {w w' : World} {B : Nat} (h : Only w w' fun k => B ≤ k) (hB : B ≤ w.heap.size) : Below B w w' := ⟨h.os, h.tape, h.output, h.size, fun k hk => h.block k (by omega) (by omega)⟩
theorem Only.of_below {w w' : World} {B : Nat} (h : Below B w w') : Only w w' fun k => B ≤ k := ⟨h.os, h.tape, h.output, h.size, fun k _ hn => h.block k (by omega)⟩
theorem Only.alloc {w w' : World} {S : Nat → Prop} (h : Only w w' S) (o : Obj) : Only w (w'.alloc o) S :=
  h.trans (Only.of_later ((Later.refl w').alloc o) S) (fun _ _ h => h)
theorem Only.drew {w w' : World} {S : Nat → Prop} (h : Only w w' S) : Only w w'.drew S := ⟨h.os, h.tape, h.output, h.size, h.block⟩
theorem Only.more {w w' : World} {S : Nat → Prop} (h : Only w w' S) (g : Grow) : Only w (more w' g) S :=
  h.trans (Only.of_later ((Later.refl w').more g) S) (fun _ _ h => h)
theorem Only.setCell {w w' : World} {S : Nat → Prop} (h : Only w w' S) {p : Addr} (hp : S p.block ∨ w.heap.size ≤ p.block) (v : Value) : Only w (w'.setCell p v) S := by
  refine ⟨h.os, h.tape, h.output, by rw [World.size_setCell]; exact h.size, fun k hk hn => ?_⟩
  have hne : p.block ≠ k := by
    rcases hp with hp | hp
    · intro e; exact hn (e ▸ hp)
    · omega
  show (w'.heap.modify p.block _)[k]? = _
  rw [Array.getElem?_modify, if_neg hne]
  exact h.block k hk hn
theorem Only.grown {w w' : World} {row : Option Nat} (h : w.grownBy w' row) : Only w w' fun k => row = some k := ⟨h.os, h.tape, h.output, h.size, fun k hk hn => h.block k hk (fun e => hn e.symm)⟩

/-- A row of ints, in a block that is known whole. -/
structure Rw (w : World) (base g n cap : Nat) (f : Nat → Int) : Prop where
  ge : base ≤ g
  ex : ∃ cur, w.heap[g]? = some (.cells cur 3 (0, 0)) ∧ n ≤ cap ∧ cap ≤ maxLen ∧ cur.size = cap ∧ ∀ k, k < n → cur[k]? = some (.int .i64 (f k))
variable {w w' : World} {base g n cap : Nat} {f : Nat → Int}
theorem Rw.lt (h : Rw w base g n cap f) : g < w.heap.size := by
  obtain ⟨cur, hg, _⟩ := h.ex
  exact (Array.getElem?_eq_some_iff.1 hg).1
theorem Rw.cap_ge (h : Rw w base g n cap f) : n ≤ cap := by obtain ⟨cur, _, h, _⟩ := h.ex; exact h
theorem Rw.cap_le (h : Rw w base g n cap f) : cap ≤ 9223372036854775807 := by obtain ⟨cur, _, _, h, _⟩ := h.ex; unfold maxLen at h; omega
theorem Rw.cell (h : Rw w base g n cap f) {k : Nat} (hk : k < n) : w.cell? ⟨g, k, none⟩ = some (.int .i64 (f k)) := by
  obtain ⟨cur, hg, _, _, _, hc⟩ := h.ex
  unfold World.cell?
  simp only [hg]
  exact hc k hk
theorem Rw.free (h : Rw w base g n cap f) (k : Nat) : w.frozen? ⟨g, k, none⟩ = false := by
  obtain ⟨cur, hg, _⟩ := h.ex
  unfold World.frozen?
  simp only [hg]
  simp
theorem Rw.kept (h : Rw w base g n cap f) (e : w'.heap[g]? = w.heap[g]?) : Rw w' base g n cap f := by
  obtain ⟨cur, hg, hr⟩ := h.ex
  exact ⟨h.ge, cur, e.trans hg, hr⟩
theorem Rw.only {S : Nat → Prop} (h : Rw w base g n cap f) (ho : Only w w' S) (hn : ¬ S g) : Rw w' base g n cap f := h.kept (ho.block g h.lt hn)
theorem Rw.later (h : Rw w base g n cap f) (hl : Later w w') : Rw w' base g n cap f := h.only (Only.of_later hl fun _ => False) (fun h => h)
theorem Rw.congr {h' : Nat → Int} (h : Rw w base g n cap f) (e : ∀ k, k < n → f k = h' k) : Rw w base g n cap h' := by
  obtain ⟨cur, hg, h1, h2, h3, hc⟩ := h.ex
  exact ⟨h.ge, cur, hg, h1, h2, h3, fun k hk => by rw [← e k hk]; exact hc k hk⟩
theorem Rw.cut (h : Rw w base g n cap f) {m : Nat} (hm : m ≤ n) : Rw w base g m cap f := by
  obtain ⟨cur, hg, h1, h2, h3, hc⟩ := h.ex
  exact ⟨h.ge, cur, hg, by omega, h2, h3, fun k hk => hc k (by omega)⟩
theorem Rw.mono {base' : Nat} (h : Rw w base g n cap f) (hb : base' ≤ base) : Rw w base' g n cap f := ⟨Nat.le_trans hb h.ge, h.ex⟩
theorem Rw.set (h : Rw w base g n cap f) {i : Nat} (hi : i < n) (x : Int) : Rw (w.setCell ⟨g, i, none⟩ (.int .i64 x)) base g n cap (fun k => if k = i then x else f k) := by
  obtain ⟨cur, hg, h1, h2, h3, hc⟩ := h.ex
  refine ⟨h.ge, cur.setIfInBounds i (.int .i64 x), ?_, h1, h2, by simpa using h3, fun k hk => ?_⟩
  · unfold World.setCell
    simp only [Array.getElem?_modify, if_true]
    simp only [hg, Option.map_some]
    simp
  · rw [Array.getElem?_setIfInBounds]
    by_cases e : k = i
    · subst e; simp; omega
    · rw [if_neg (fun he => e he.symm), hc k hk, if_neg e]
theorem Rw.other (h : Rw w base g n cap f) {p : Addr} (hp : p.block ≠ g) (v : Value) : Rw (w.setCell p v) base g n cap f := h.kept (by
  show (w.heap.modify p.block _)[g]? = _
  rw [Array.getElem?_modify, if_neg hp])
theorem Rw.owns (h : Rw w base g n cap f) : w.ownsRow base 3 1 (.slice (some ⟨g, 0, none⟩) n cap) n ((List.range n).map fun k => Value.int .i64 (f k)) := by
  obtain ⟨cur, hg, h1, h2, h3, hc⟩ := h.ex
  refine ⟨by simp, .inr ⟨g, cap, cur, rfl, h.ge, hg, h1, h2, by omega, ?_⟩⟩
  apply List.ext_getElem?
  intro k
  rw [List.getElem?_take, List.getElem?_map]
  by_cases hk : k < n
  · rw [if_pos (by omega), List.getElem?_range hk, Array.getElem?_toList, hc k hk]; rfl
  · rw [if_neg (by omega), List.getElem?_eq_none (by simpa using hk)]; rfl
theorem Rw.of_owns {xs : List Value} (h : w.ownsRow base 3 1 (.slice (some ⟨g, 0, none⟩) n cap) n xs) (hx : ∀ k, k < n → xs[k]? = some (.int .i64 (f k))) : Rw w base g n cap f := by
  obtain ⟨hl, h | ⟨g', cap', cur, hv, hb, hg, hn, hm, hs, ht⟩⟩ := h
  · exact absurd h.1 (by simp)
  · simp only [Value.slice.injEq, Option.some.injEq, Addr.mk.injEq, and_true, true_and] at hv
    obtain ⟨rfl, rfl⟩ := hv
    refine ⟨hb, cur, hg, hn, hm, by omega, fun k hk => ?_⟩
    have h1 := hx k hk
    rw [← ht, List.getElem?_take, if_pos (by omega), Array.getElem?_toList] at h1
    exact h1
theorem range_snoc (n : Nat) (f : Nat → Int) (x : Int) : ∀ k, k < n + 1 → (((List.range n).map fun k => Value.int .i64 (f k)) ++ [Value.int .i64 x])[k]? = some (.int .i64 ((fun k => if k = n then x else f k) k)) := by
  intro k hk
  rw [List.getElem?_append]
  by_cases e : k < n
  · rw [if_pos (by simpa using e), List.getElem?_map, List.getElem?_range e]
    simp [show ¬ k = n by omega]
  · obtain rfl : k = n := by omega
    rw [if_neg (by simp)]
    simp
theorem info3 : (Try.prog.info? 3).map (fun i => (i.zero, i.size, i.bytes)) = some (some (.int .i64 0), 1, 8) := by kernel_rfl
/-- One-cell blocks. -/
def Box (w : World) (b : Nat) (t : TypeId) (v : Value) : Prop := w.heap[b]? = some (.cells #[v] t (0, 0))
theorem Box.lt {b : Nat} {t : TypeId} {v : Value} (h : Box w b t v) : b < w.heap.size := (Array.getElem?_eq_some_iff.1 h).1
theorem Box.cell {b : Nat} {t : TypeId} {v : Value} (h : Box w b t v) : w.cell? ⟨b, 0, none⟩ = some v := by
  unfold World.cell?
  simp only [show w.heap[b]? = _ from h]
  rfl
theorem Box.free {b : Nat} {t : TypeId} {v : Value} (h : Box w b t v) : w.frozen? ⟨b, 0, none⟩ = false := by
  unfold World.frozen?
  simp only [show w.heap[b]? = _ from h]
  simp
theorem Box.set {b : Nat} {t : TypeId} {v : Value} (h : Box w b t v) (u : Value) : Box (w.setCell ⟨b, 0, none⟩ u) b t u := by
  unfold Box World.setCell
  simp only [Array.getElem?_modify, if_true]
  simp only [show w.heap[b]? = _ from h]
  rfl
theorem Box.kept {b : Nat} {t : TypeId} {v : Value} (h : Box w b t v) (e : w'.heap[b]? = w.heap[b]?) : Box w' b t v := e.trans h
theorem Box.only {b : Nat} {t : TypeId} {v : Value} {S : Nat → Prop} (h : Box w b t v) (ho : Only w w' S) (hn : ¬ S b) : Box w' b t v := h.kept (ho.block b h.lt hn)
theorem Box.other {b : Nat} {t : TypeId} {v : Value} (h : Box w b t v) {p : Addr} (hp : p.block ≠ b) (u : Value) : Box (w.setCell p u) b t v := h.kept (by
  show (w.heap.modify p.block _)[b]? = _
  rw [Array.getElem?_modify, if_neg hp])
theorem Box.new (w : World) (t : TypeId) (v : Value) : Box (w.alloc (.cells #[v] t)) w.heap.size t v := heap_alloc_new w _
theorem Rw.ne_box {b : Nat} {v : Value} (h : Rw w base g n cap f) (hb : Box w b 62 v) : g ≠ b := by
  intro e
  subst e
  obtain ⟨cur, hg, _⟩ := h.ex
  unfold Box at hb
  rw [hg] at hb
  injection hb with hb
  injection hb with h1 h2
  cases h2
end Go.Proofs.Ytbdhjoanjlkggaa
