/-
  No statement of the seat is proved here. Arguments that are arrays of integers, opened to their cells. No condition.
-/
import Derived.WalkKit
import Derived.ProofKit
import Derived.OpenShut
import Derived.ChangeOld
import Derived.Below
import Derived.Lib.SmallJoins
namespace Go.Proofs.Ytihnemlnnjdagaa
open Go Go.ChangeShapes Go.WideShapes Go.RowKit Go.Joins

section
variable {H : Type} {enc : TypeId × Value → H} {P : Program} {w : World} {base : Nat} {spare : Nat → Bool} {held : Bool}

theorem okWide_arr {t e : TypeId} {n : Nat} {r : Reach} {b0 : Nat} {v : Value} (ht : P.underlying t = some (.array n e)) (h : Value.okWide P w r b0 t v) : ∃ cs, v = .agg cs ∧ cs.size = P.cellsOf t := by
  unfold Value.okWide at h
  rw [ht] at h
  obtain ⟨cs, h1, h2, _⟩ := h
  exact ⟨cs, h1, h2⟩

theorem nums_of {k : IntKind} : ∀ (l : List Value), (∀ (i : Nat) (v : Value), l[i]? = some v → ∃ z, v = Value.int k z ∧ (Lit.int k z).wf = true) → ∃ zs : List Int, l = zs.map (Value.int k) ∧ ∀ z ∈ zs, (Lit.int k z).wf = true
  | [], _ => ⟨[], rfl, by simp⟩
  | v :: l, h => by
    obtain ⟨z, rfl, hz⟩ := h 0 v rfl
    obtain ⟨zs, rfl, hzs⟩ := nums_of l (fun i u hu => h (i + 1) u hu)
    exact ⟨z :: zs, rfl, by simpa using ⟨hz, hzs⟩⟩

/-- An array of integers that came in: its numbers, each fitting its kind. -/
theorem open_nums {t e : TypeId} {n : Nat} {k : IntKind} {r : Reach} {b0 : Nat} {v : Value} {d : DataW H} {ps : List MemPlace} (ht : P.underlying t = some (.array n e)) (he : P.underlying e = some (.int k)) (hce : P.cellsOf e = 1) (hC : P.cellsOf t = n)
    (hv : Value.okWide P w r b0 t v) (h : DataW.Trod enc P w base spare held t v d ps) : ∃ zs : List Int, v = .agg (zs.map (Value.int k)).toArray ∧ zs.length = n ∧ ∀ z ∈ zs, (Lit.int k z).wf = true := by
  obtain ⟨cs, rfl, hsz⟩ := okWide_arr ht hv
  obtain ⟨fuel, hf⟩ := h
  obtain ⟨xs, m, _, _, hl, hxl, hg⟩ := DataW.trod_array ht hf
  rw [hC] at hsz
  obtain ⟨zs, hzs, hwf⟩ := nums_of (k := k) cs.toList (fun i v hi => by
    have hlt : i < n := by
      have := (List.getElem?_eq_some_iff.1 hi).1
      simp at this; omega
    have h1 := hg i hlt
    rw [hce, Nat.mul_one] at h1
    have hcells : (Value.agg cs).cells.toList = cs.toList := rfl
    rw [hcells] at h1
    have hone : (cs.toList.drop i).take 1 = [v] := by
      obtain ⟨hlt', hv⟩ := List.getElem?_eq_some_iff.1 hi
      rw [List.drop_eq_getElem_cons hlt', hv]
      rfl
    rw [hone, List.getElem?_eq_getElem (by omega)] at h1
    obtain ⟨z, hz, _, hw⟩ := DataW.trod_int he h1
    simp only [List.cons.injEq, and_true] at hz
    exact ⟨z, hz, hw⟩)
  refine ⟨zs, ?_, ?_, hwf⟩
  · rw [← hzs]
  · have := congrArg List.length hzs
    simp at this; omega
end
end Go.Proofs.Ytihnemlnnjdagaa
