/-
  No statement of the seat is proved here. Arguments that are slices of numbers, and structs of three numbers, opened. No condition.
-/
import Derived.Test.YtihnemlnnjdagaaFrame
import Derived.Test.YtihnemlnnjdagaaAllW
import Derived.ChangeSlices
namespace Go.Proofs.Ytihnemlnnjdagaa
open Go Go.ChangeShapes Go.WideShapes Go.RowKit Go.Joins
set_option linter.unusedVariables false
theorem lt_of_cell {w : World} {a : Addr} {v : Value} (h : w.cell? a = some v) : a.block < w.heap.size := by
  rcases Nat.lt_or_ge a.block w.heap.size with h' | h'
  · exact h'
  · unfold World.cell? at h
    simp [Array.getElem?_eq_none h'] at h
section
variable {H : Type} {enc : TypeId × Value → H} {w : World}
theorem slice_open {t e : TypeId} {r : Reach} {b0 : Nat} {v : Value} {d : DataW H} {ps : List MemPlace} (ht : Try.prog.underlying t = some (.slice e)) (he : Try.prog.underlying e = some (.int .u64)) (hc : Try.prog.cellsOf e = 1)
    (hv : Value.okWide Try.prog w r b0 t v) (h : DataW.Trod enc Try.prog w 0 (fun _ => true) true t v d ps) :
    ∃ (A : Option Addr) (len cap : Nat) (f : Nat → Int), v = .slice A len cap ∧ UNums w A len f ∧ (∀ a, A = some a → a.spot = none) ∧ len ≤ cap ∧ cap ≤ 9223372036854775807 ∧ ∀ k, 0 ≤ f k ∧ f k < 18446744073709551616 := by
  obtain ⟨A, len, cap, rfl⟩ := okWide_slice ht hv
  obtain ⟨fuel, hf⟩ := h
  rcases open_ints ht he hc hf with ⟨h0, _⟩ | ⟨a, len', cap', zs, hcs, _, hl, hm, hz, _, hcell, hwf⟩
  · simp [Value.cells] at h0
    obtain ⟨rfl, rfl, rfl⟩ := h0
    exact ⟨none, 0, 0, fun _ => 0, rfl, fun k hk => by omega, (fun a h => by cases h), Nat.le_refl _, by omega, fun k => ⟨by simp, by simp⟩⟩
  · simp [Value.cells] at hcs
    obtain ⟨rfl, rfl, rfl⟩ := hcs
    simp only [if_true] at hz
    have hsp : a.spot = none := by
      simp only [Value.okWide, ht, Cell.okWide, Cell.ok] at hv
      exact hv.2.2.2.1
    obtain ⟨b, off, sp⟩ := a
    obtain rfl : sp = none := hsp
    refine ⟨_, len, cap, fun k => zs.getD k 0, rfl, fun k hk => ⟨b, off, rfl, ?_, ?_⟩, (fun a h => by injection h with h; rw [← h]), hl, by unfold maxLen at hm; omega, fun k => ?_⟩
    · have := hcell k (by omega)
      rw [add_plain] at this
      exact lt_of_cell this
    · have := hcell k (by omega)
      rwa [add_plain] at this
    · show 0 ≤ zs.getD k 0 ∧ zs.getD k 0 < 18446744073709551616
      by_cases hk : k < zs.length
      · have := bounds_u64 (hwf (zs.getD k 0) (by rw [List.getD_eq_getElem?_getD, List.getElem?_eq_getElem hk]; exact List.getElem_mem _))
        omega
      · rw [List.getD_eq_getElem?_getD, List.getElem?_eq_none (by omega)]
        simp
end
end Go.Proofs.Ytihnemlnnjdagaa
