/-
  No statement of the seat is proved here. Arguments that are rows, and rows of rows, of numbers, opened. No condition.
-/
import Derived.Test.YtbdhjoanjlkggaaBr
import Derived.WalkKit
import Derived.ProofKit
import Derived.OpenShut
import Derived.ChangeOld
import Derived.Below
import Derived.Lib.SmallJoins
import Derived.ChangeSlices
import Derived.Deep.Matrix
namespace Go.Proofs.Ytbdhjoanjlkggaa
open Go Go.ChangeShapes Go.WideShapes Go.RowKit Go.Joins
set_option linter.unusedVariables false
theorem lt_of_cell {w : World} {a : Addr} {v : Value} (h : w.cell? a = some v) : a.block < w.heap.size := by
  rcases Nat.lt_or_ge a.block w.heap.size with h' | h'
  · exact h'
  · unfold World.cell? at h
    simp [Array.getElem?_eq_none h'] at h
theorem spot_of_cell {w : World} {a : Addr} {v : Value} (h : w.cell? a = some v) : a.spot = none := by
  unfold World.cell? at h
  cases hs : a.spot with
  | none => rfl
  | some s =>
    rw [hs] at h
    split at h <;> simp at h
/-- A row of numbers of a kind that is read. -/
def KRow (w : World) (k : IntKind) (A : Option Addr) (l : List Int) : Prop := ∀ p, p < l.length → ∃ b off, A = some ⟨b, off, none⟩ ∧ b < w.heap.size ∧ w.cell? ⟨b, off + p, none⟩ = some (.int k (l.getD p 0)) ∧ (Lit.int k (l.getD p 0)).wf = true
theorem krow_of {w : World} {k : IntKind} {A : Option Addr} {L C : Nat} {Z : List Int} (h1 : L ≤ C) (h3 : Z.length = C) (h4 : ∀ n ∈ Z, (Lit.int k n).wf = true) (h5 : A = none → C = 0) (h6 : ∀ a', A = some a' → ∀ c, c < C → w.cell? (a'.add c) = some (.int k (Z.getD c 0))) :
    KRow w k A (Z.take L) := by
  intro p hp
  have hp' : p < L := by rw [List.length_take] at hp; omega
  cases A with
  | none => have := h5 rfl; omega
  | some a =>
    have h0 := h6 a rfl 0 (by omega)
    have hs : a.spot = none := by
      have e : a.add 0 = a := by unfold Addr.add; simp
      rw [e] at h0
      exact spot_of_cell h0
    have hc := h6 a rfl p (by omega)
    obtain ⟨b, off, sp⟩ := a
    obtain rfl : sp = none := hs
    rw [add_plain] at hc
    have e : (Z.take L).getD p 0 = Z.getD p 0 := by
      rw [List.getD_eq_getElem?_getD, List.getD_eq_getElem?_getD, List.getElem?_take, if_pos hp']
    rw [e]
    exact ⟨b, off, rfl, lt_of_cell hc, hc, h4 _ (by rw [List.getD_eq_getElem?_getD, List.getElem?_eq_getElem (by omega)]; exact List.getElem_mem _)⟩
/-- Rows of numbers of a kind that are read. -/
def KRows (w : World) (k : IntKind) (A : Option Addr) (rs : List (List Int)) : Prop :=
  ∀ i, i < rs.length → ∃ b off Ai ci, A = some ⟨b, off, none⟩ ∧ b < w.heap.size ∧ w.cell? ⟨b, off + i, none⟩ = some (.slice Ai (rs.getD i []).length ci) ∧ (rs.getD i []).length ≤ ci ∧ ci ≤ 9223372036854775807 ∧ KRow w k Ai (rs.getD i [])
section
variable {H : Type} {enc : TypeId × Value → H} {w : World}
theorem open_row {t e : TypeId} {k : IntKind} {r : Reach} {b0 : Nat} {v : Value} {d : DataW H} {ps : List MemPlace} (ht : Try.prog.underlying t = some (.slice e)) (he : Try.prog.underlying e = some (.int k)) (hc : Try.prog.cellsOf e = 1)
    (hv : Value.okWide Try.prog w r b0 t v) (h : DataW.Trod enc Try.prog w 0 (fun _ => true) true t v d ps) :
    ∃ (A : Option Addr) (l : List Int) (c : Nat), v = .slice A l.length c ∧ KRow w k A l ∧ l.length ≤ c ∧ c ≤ 9223372036854775807 ∧ ∀ a, A = some a → a.spot = none := by
  obtain ⟨A, len, cap, rfl⟩ := okWide_slice ht hv
  obtain ⟨fuel, hf⟩ := h
  rcases open_ints ht he hc hf with ⟨h0, _⟩ | ⟨a, len', cap', zs, hcs, _, hl, hm, hz, _, hcell, hwf⟩
  · simp [Value.cells] at h0
    obtain ⟨rfl, rfl, rfl⟩ := h0
    exact ⟨none, [], 0, rfl, (fun p hp => by simp at hp), Nat.le_refl _, by omega, fun a h => by cases h⟩
  · simp [Value.cells] at hcs
    obtain ⟨rfl, rfl, rfl⟩ := hcs
    simp only [if_true] at hz
    have hsp : a.spot = none := by
      simp only [Value.okWide, ht, Cell.okWide, Cell.ok] at hv
      exact hv.2.2.2.1
    refine ⟨some a, zs.take len, cap, ?_, krow_of hl hz hwf (fun h => by cases h) (fun a' ha c hc => by injection ha with ha; subst ha; exact hcell c (by omega)), ?_, by unfold maxLen at hm; omega, fun a' h => by injection h with h; rw [← h]; exact hsp⟩
    · rw [List.length_take]; congr 1; omega
    · rw [List.length_take]; omega
theorem open_rows {t e q : TypeId} {k : IntKind} {r : Reach} {b0 : Nat} {v : Value} {d : DataW H} {ps : List MemPlace} (ht : Try.prog.underlying t = some (.slice e)) (he : Try.prog.underlying e = some (.slice q)) (hq : Try.prog.underlying q = some (.int k)) (ce : Try.prog.cellsOf e = 1) (cq : Try.prog.cellsOf q = 1)
    (hv : Value.okWide Try.prog w r b0 t v) (h : DataW.Trod enc Try.prog w 0 (fun _ => true) true t v d ps) :
    ∃ (A : Option Addr) (rs : List (List Int)) (c : Nat), v = .slice A rs.length c ∧ KRows w k A rs ∧ rs.length ≤ c ∧ c ≤ 9223372036854775807 := by
  obtain ⟨A, len, cap, rfl⟩ := okWide_slice ht hv
  obtain ⟨fuel, hf⟩ := h
  rcases Deep.open_int_rows ht he hq ce cq hf with ⟨h0, _⟩ | ⟨a, len', cap', As, L, C, Z, hcs, _, hl, hm, _, hrow⟩
  · simp [Value.cells] at h0
    obtain ⟨rfl, rfl, rfl⟩ := h0
    exact ⟨none, [], 0, rfl, (fun p hp => by simp at hp), Nat.le_refl _, by omega⟩
  · simp [Value.cells] at hcs
    obtain ⟨rfl, rfl, rfl⟩ := hcs
    have hsp : a.spot = none := by
      simp only [Value.okWide, ht, Cell.okWide, Cell.ok] at hv
      exact hv.2.2.2.1
    obtain ⟨b, off, sp⟩ := a
    obtain rfl : sp = none := hsp
    refine ⟨_, (List.range len).map fun i => (Z i).take (L i), cap, by rw [List.length_map, List.length_range], fun i hi => ?_, by rw [List.length_map, List.length_range]; exact hl, by unfold maxLen at hm; omega⟩
    rw [List.length_map, List.length_range] at hi
    have e : ((List.range len).map fun i => (Z i).take (L i)).getD i [] = (Z i).take (L i) := by
      rw [List.getD_eq_getElem?_getD, List.getElem?_map, List.getElem?_range hi]
      rfl
    obtain ⟨g1, g2, g3, g4, g5, g6, g7⟩ := hrow i (by omega)
    rw [add_plain] at g1
    rw [e]
    have hlen : ((Z i).take (L i)).length = L i := by rw [List.length_take]; omega
    rw [hlen]
    exact ⟨b, off, As i, C i, rfl, lt_of_cell g1, g1, g2, by unfold maxLen at g3; omega, krow_of g2 g4 g5 g6 (fun a' ha c hc => (g7 a' ha).2 c hc)⟩
end
theorem KRow.bytes {w : World} {A : Option Addr} {l : List Int} (h : KRow w .u8 A l) : BytesR w A (l.map Int.toNat) := by
  intro p hp
  rw [List.length_map] at hp
  obtain ⟨b, off, hA, hb, hc, hw⟩ := h p hp
  have hbd := bounds_u8 hw
  have e : (l.map Int.toNat).getD p 0 = (l.getD p 0).toNat := by
    rw [List.getD_eq_getElem?_getD, List.getD_eq_getElem?_getD, List.getElem?_map]
    cases l[p]? <;> rfl
  refine ⟨b, off, hA, hb, ?_, ?_⟩
  · rw [e, hc]
    congr 2
    omega
  · rw [e]; omega
theorem KRows.bytes {w : World} {A : Option Addr} {rs : List (List Int)} (h : KRows w .u8 A rs) : RowsB w A (rs.map fun r => r.map Int.toNat) := by
  intro i hi
  rw [List.length_map] at hi
  obtain ⟨b, off, Ai, ci, hA, hb, hc, h1, h2, hr⟩ := h i hi
  have e : (rs.map fun r => r.map Int.toNat).getD i [] = (rs.getD i []).map Int.toNat := by
    rw [List.getD_eq_getElem?_getD, List.getD_eq_getElem?_getD, List.getElem?_map]
    cases rs[i]? <;> rfl
  rw [e, List.length_map]
  exact ⟨b, off, Ai, ci, hA, hb, hc, h1, h2, hr.bytes⟩
section
variable {H : Type} {enc : TypeId × Value → H} {w : World}
theorem open_bytes {r : Reach} {b0 : Nat} {v : Value} {d : DataW H} {ps : List MemPlace} (hc : Try.prog.cellsOf 5 = 1) (hv : Value.okWide Try.prog w r b0 23 v) (h : DataW.Trod enc Try.prog w 0 (fun _ => true) true 23 v d ps) :
    ∃ (A : Option Addr) (l : List Nat) (c : Nat), v = .slice A l.length c ∧ BytesR w A l ∧ l.length ≤ c ∧ c ≤ 9223372036854775807 := by
  obtain ⟨A, l, c, rfl, h1, h2, h3, _⟩ := open_row (k := .u8) Try.underlying23 Try.underlying5 hc hv h
  exact ⟨A, _, c, by rw [List.length_map], h1.bytes, by rw [List.length_map]; exact h2, h3⟩
theorem open_rowsB {r : Reach} {b0 : Nat} {v : Value} {d : DataW H} {ps : List MemPlace} (hc : Try.prog.cellsOf 5 = 1) (hc2 : Try.prog.cellsOf 23 = 1) (hv : Value.okWide Try.prog w r b0 22 v) (h : DataW.Trod enc Try.prog w 0 (fun _ => true) true 22 v d ps) :
    ∃ (A : Option Addr) (rs : List (List Nat)) (c : Nat), v = .slice A rs.length c ∧ RowsB w A rs ∧ rs.length ≤ c ∧ c ≤ 9223372036854775807 := by
  obtain ⟨A, rs, c, rfl, h1, h2, h3⟩ := open_rows (k := .u8) Try.underlying22 Try.underlying23 Try.underlying5 hc2 hc hv h
  exact ⟨A, _, c, by rw [List.length_map], h1.bytes, by rw [List.length_map]; exact h2, h3⟩
end
end Go.Proofs.Ytbdhjoanjlkggaa
