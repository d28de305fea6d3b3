/-
  No statement of the seat is proved here. A region that draws its order, by an invariant: what holds of the frame and the world when these operations have come up.
-/
import Derived.WalkKit
import Derived.Orders
import Derived.Deep.Quiet
namespace Go.Proofs.Ytmhmnjeimjjipaa
open Go
variable {P : Program} {ops : Array Oper} {Q : Exit → Act → World → Prop} {md : Region.Mode}

/-- How many have not come up. -/
def unl (listed : Array Bool) : Nat := listed.toList.countP (fun b => !b)
theorem unl_set {listed : Array Bool} {i : Nat} (h : listed.getD i true = false) : unl (listed.setIfInBounds i true) + 1 = unl listed := by
  have hlt : i < listed.size := by
    rcases Nat.lt_or_ge i listed.size with h' | h'
    · exact h'
    · simp [Array.getElem?_eq_none h'] at h
  have hv : listed.toList[i]'(by simpa using hlt) = false := by simpa [hlt] using h
  unfold unl
  rw [Array.toList_setIfInBounds, List.countP_set (h := by simpa using hlt), hv]
  have hpos : 0 < listed.toList.countP (fun b => !b) := List.countP_pos_iff.2 ⟨false, by rw [← hv]; exact List.getElem_mem _, rfl⟩
  simp only [Bool.not_false, if_true, Bool.not_true, Bool.false_eq_true, if_false]
  omega
theorem unl_zero {listed : Array Bool} (h : unl listed = 0) (i : Nat) : listed.getD i true = true := by
  rcases Nat.lt_or_ge i listed.size with h' | h'
  · have := List.countP_eq_zero.1 h (listed.toList[i]'(by simpa using h')) (List.getElem_mem _)
    simpa [h'] using this
  · simp [Array.getElem?_eq_none h']
theorem least_unlisted (hord : ∀ (j : Nat) o, ops[j]? = some o → ∀ e ∈ o.after, e.on < j) {listed : Array Bool} (hs : listed.size = ops.size) (hr : Region.ready md ops listed = []) :
    ∀ n i, i ≤ n → i < ops.size → listed.getD i false = true := by
  intro n
  induction n with
  | zero =>
    intro i hi hlt
    obtain rfl : i = 0 := by omega
    cases h : listed.getD 0 true
    · have : 0 ∈ Region.ready md ops listed := mem_ready.2 ⟨h, ops[0], by simp [hlt], fun e he _ => absurd (hord 0 ops[0] (by simp [hlt]) e he) (by omega)⟩
      rw [hr] at this
      cases this
    · simpa [show 0 < listed.size by omega] using h
  | succ n ih =>
    intro i hi hlt
    cases h : listed.getD i true
    · have : i ∈ Region.ready md ops listed := mem_ready.2 ⟨h, ops[i], by simp [hlt], fun e he _ => ih e.on (by have := hord i ops[i] (by simp [hlt]) e he; omega) (by have := hord i ops[i] (by simp [hlt]) e he; omega)⟩
      rw [hr] at this
      cases this
    · simpa [show i < listed.size by omega] using h
theorem wpAny_inv (hord : ∀ (j : Nat) o, ops[j]? = some o → ∀ e ∈ o.after, e.on < j) (I : (Nat → Bool) → Act → World → Prop)
    (hstep : ∀ (L : Nat → Bool) a w i o, ops[i]? = some o → L i = false → (∀ e ∈ o.after, Region.binds md e = true → L e.on = true) → I L a w → wpOp P ops Q i (fun a' w' => I (fun j => L j || j == i) a' w') a w)
    (hdone : ∀ L a w, (∀ i, i < ops.size → L i = true) → I L a w → Q .normal a w) :
    ∀ (fuel : Nat) (listed : Array Bool) (a : Act) (w : World), listed.size = ops.size → unl listed ≤ fuel → I (fun j => listed.getD j false) a w → wpAny P md ops Q fuel listed a w := by
  intro fuel
  induction fuel with
  | zero =>
    intro listed a w hs hu hI
    have hr : Region.ready md ops listed = [] := by
      cases hc : Region.ready md ops listed with
      | nil => rfl
      | cons j r =>
        have hj : j ∈ Region.ready md ops listed := by rw [hc]; simp
        have h1 := (mem_ready.1 hj).1
        rw [unl_zero (by omega) j] at h1
        cases h1
    exact ⟨hr, hdone _ a w (fun i hi => least_unlisted hord hs hr i i (Nat.le_refl _) hi) hI⟩
  | succ fuel ih =>
    intro listed a w hs hu hI
    refine ⟨fun hr => hdone _ a w (fun i hi => least_unlisted hord hs hr i i (Nat.le_refl _) hi) hI, fun i hi => ?_⟩
    obtain ⟨h0, o, ho, ha⟩ := mem_ready.1 hi
    have hlt : i < listed.size := by
      rcases Nat.lt_or_ge i listed.size with h' | h'
      · exact h'
      · simp [Array.getElem?_eq_none h'] at h0
    refine wpOp_mono ?_ (hstep (fun j => listed.getD j false) a w i o ho (by simpa [hlt] using h0) ha hI)
    intro a' w' hI'
    refine ih _ a' w' (by simpa using hs) (by have := unl_set h0; omega) ?_
    have e : (fun j => (listed.setIfInBounds i true).getD j false) = (fun j => listed.getD j false || j == i) := by
      funext j
      by_cases hij : j = i
      · subst hij; simp [hlt]
      · rw [getD_set_ne false (fun h => hij h.symm)]; simp [hij]
    rw [e]
    exact hI'
theorem wp_region_inv {id : Nat} {a : Act} {w : World} (hm : P.follows .mixedOrders = true) (hord : ∀ (j : Nat) o, ops[j]? = some o → ∀ e ∈ o.after, e.on < j)
    (I : (Nat → Bool) → Act → World → Prop) (h0 : I (fun _ => false) a w.drew)
    (hstep : ∀ (L : Nat → Bool) a w i o, ops[i]? = some o → L i = false → (∀ e ∈ o.after, Region.binds .any e = true → L e.on = true) → I L a w → wpOp P ops Q i (fun a' w' => I (fun j => L j || j == i) a' w') a w)
    (hdone : ∀ L a w, (∀ i, i < ops.size → L i = true) → I L a w → Q .normal a w) : (Code.region id ops true).wp P Q a w := by
  refine wp_region_any hm (wpAny_inv hord I hstep hdone _ _ _ _ (by simp) ?_ ?_)
  · unfold unl
    exact Nat.le_trans List.countP_le_length (by simp)
  · have e : (fun j => (Array.replicate ops.size false).getD j false) = fun _ => false := by
      funext j
      by_cases hj : j < ops.size
      · simp [hj]
      · simp [hj]
    rw [e]
    exact h0
end Go.Proofs.Ytmhmnjeimjjipaa
