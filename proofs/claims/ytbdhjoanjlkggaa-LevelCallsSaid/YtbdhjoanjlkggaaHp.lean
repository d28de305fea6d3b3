/-
  No statement of the seat is proved here. Plain laws on heaps: sifting up and down. No condition.
-/
import Derived.Test.YtbdhjoanjlkggaaMeth
set_option linter.unusedVariables false
set_option linter.unusedSimpArgs false
namespace Go.Proofs.Ytbdhjoanjlkggaa.Hp
/-- Each is no less than what stands above it. -/
def Ord (n : Nat) (f : Nat → Int) : Prop := ∀ k, 1 ≤ k → k < n → f ((k - 1) / 2) ≤ f k
def UpAt (n j : Nat) (f : Nat → Int) : Prop := (∀ k, 1 ≤ k → k < n → k ≠ j → f ((k - 1) / 2) ≤ f k) ∧ ∀ k, 1 ≤ k → k < n → (k - 1) / 2 = j → 1 ≤ j → f ((j - 1) / 2) ≤ f k
def DownAt (n i : Nat) (f : Nat → Int) : Prop := (∀ k, 1 ≤ k → k < n → (k - 1) / 2 ≠ i → f ((k - 1) / 2) ≤ f k) ∧ ∀ k, 1 ≤ k → k < n → (k - 1) / 2 = i → 1 ≤ i → f ((i - 1) / 2) ≤ f k
theorem swp_i (f : Nat → Int) (i j : Nat) : swp f i j i = f j := by simp [swp]
theorem swp_j (f : Nat → Int) (i j : Nat) : swp f i j j = f i := by
  unfold swp
  by_cases e : j = i
  · rw [if_pos e, e]
  · rw [if_neg e, if_pos rfl]
theorem swp_o (f : Nat → Int) {i j k : Nat} (h1 : k ≠ i) (h2 : k ≠ j) : swp f i j k = f k := by simp [swp, h1, h2]
theorem up_done {n j : Nat} {f : Nat → Int} (h : UpAt n j f) (hj : j = 0 ∨ f ((j - 1) / 2) ≤ f j) : Ord n f := by
  intro k h1 h2
  by_cases e : k = j
  · subst e
    rcases hj with hj | hj
    · omega
    · exact hj
  · exact h.1 k h1 h2 e
theorem up_step {n j : Nat} {f : Nat → Int} (h : UpAt n j f) (h1 : 1 ≤ j) (hn : j < n) (hlt : f j < f ((j - 1) / 2)) : UpAt n ((j - 1) / 2) (swp f ((j - 1) / 2) j) := by
  obtain ⟨i, hi⟩ : ∃ i, (j - 1) / 2 = i := ⟨_, rfl⟩
  rw [hi] at hlt ⊢
  have hij : i < j := by omega
  refine ⟨fun k k1 k2 ke => ?_, fun k k1 k2 kp i1 => ?_⟩
  · by_cases e : k = j
    · subst e
      rw [hi, swp_i, swp_j]
      omega
    · rw [swp_o f ke e]
      by_cases p1 : (k - 1) / 2 = i
      · rw [p1, swp_i]
        have := h.1 k k1 k2 e
        rw [p1] at this
        omega
      · by_cases p2 : (k - 1) / 2 = j
        · rw [p2, swp_j]
          have := h.2 k k1 k2 p2 h1
          rw [hi] at this
          exact this
        · rw [swp_o f p1 p2]
          exact h.1 k k1 k2 e
  · have a := h.1 i i1 (by omega) (by omega)
    have hp : (i - 1) / 2 < i := by omega
    rw [swp_o f (show (i - 1) / 2 ≠ i by omega) (show (i - 1) / 2 ≠ j by omega)]
    by_cases e : k = j
    · subst e; rw [swp_j]; exact a
    · rw [swp_o f (show k ≠ i by omega) e]
      have := h.1 k k1 k2 e
      rw [kp] at this
      omega
theorem down_done {n i : Nat} {f : Nat → Int} (h : DownAt n i f) (hi : ∀ k, 1 ≤ k → k < n → (k - 1) / 2 = i → f i ≤ f k) : Ord n f := by
  intro k h1 h2
  by_cases e : (k - 1) / 2 = i
  · rw [e]; exact hi k h1 h2 e
  · exact h.1 k h1 h2 e
theorem down_step {n i j : Nat} {f : Nat → Int} (h : DownAt n i f) (j1 : 1 ≤ j) (hj : j < n) (hp : (j - 1) / 2 = i) (hmin : ∀ k, 1 ≤ k → k < n → (k - 1) / 2 = i → f j ≤ f k) (hlt : f j < f i) : DownAt n j (swp f i j) := by
  have hij : i < j := by omega
  refine ⟨fun k k1 k2 ke => ?_, fun k k1 k2 kp _ => ?_⟩
  · by_cases p1 : (k - 1) / 2 = i
    · rw [p1, swp_i]
      by_cases e : k = j
      · subst e; rw [swp_j]; omega
      · rw [swp_o f (show k ≠ i by omega) e]; exact hmin k k1 k2 p1
    · rw [swp_o f p1 ke]
      by_cases e : k = i
      · subst e
        rw [swp_i]
        exact h.2 j j1 hj hp k1
      · have e2 : k ≠ j := fun e => p1 (e ▸ hp)
        rw [swp_o f e e2]; exact h.1 k k1 k2 p1
  · rw [hp, swp_i]
    have h1 := h.1 k k1 k2 (by omega)
    rw [kp] at h1
    rw [swp_o f (show k ≠ i by omega) (show k ≠ j by omega)]
    exact h1
/-- What stands where after a change of places. -/
def sg (i j k : Nat) : Nat := if k = i then j else if k = j then i else k
theorem swp_sg (f : Nat → Int) (i j k : Nat) : swp f i j k = f (sg i j k) := by unfold swp sg; split <;> (try split) <;> rfl
theorem sg_sg (i j k : Nat) : sg i j (sg i j k) = k := by
  unfold sg
  by_cases e1 : k = i
  · by_cases e2 : j = i
    · simp [e1, e2]
    · simp [e1, e2]
  · by_cases e2 : k = j
    · simp [e1, e2]
    · simp [e1, e2]
theorem sg_lt {n i j k : Nat} (hi : i < n) (hj : j < n) (hk : k < n) : sg i j k < n := by unfold sg; split <;> (try split) <;> omega
def Inj (n : Nat) (f : Nat → Int) : Prop := ∀ i j, i < n → j < n → f i = f j → i = j
def Has (n : Nat) (f : Nat → Int) (x : Int) : Prop := ∃ k, k < n ∧ f k = x
theorem inj_swp {n i j : Nat} {f : Nat → Int} (h : Inj n f) (hi : i < n) (hj : j < n) : Inj n (swp f i j) := by
  intro a b ha hb e
  rw [swp_sg, swp_sg] at e
  have := h _ _ (sg_lt hi hj ha) (sg_lt hi hj hb) e
  rw [← sg_sg i j a, this, sg_sg]
theorem has_swp {n i j : Nat} {f : Nat → Int} (hi : i < n) (hj : j < n) (x : Int) : Has n (swp f i j) x ↔ Has n f x := by
  constructor
  · rintro ⟨k, hk, e⟩
    exact ⟨sg i j k, sg_lt hi hj hk, by rw [← swp_sg f i j k]; exact e⟩
  · rintro ⟨k, hk, e⟩
    exact ⟨sg i j k, sg_lt hi hj hk, by rw [swp_sg, sg_sg]; exact e⟩
/-- The first is the least. -/
theorem ord_min {n : Nat} {f : Nat → Int} (h : Ord n f) : ∀ k, k < n → f 0 ≤ f k := by
  intro k
  induction k using Nat.strongRecOn with
  | ind k ih =>
    intro hk
    by_cases e : k = 0
    · subst e; exact Int.le_refl _
    · have h1 := ih ((k - 1) / 2) (by omega) (by omega)
      have h2 := h k (by omega) hk
      omega
end Go.Proofs.Ytbdhjoanjlkggaa.Hp
