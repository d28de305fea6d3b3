/-
  No statement of the seat is proved here. The order of things by what they need, as a plain function on lists. No condition.
-/
set_option linter.unusedVariables false
set_option linter.unusedSimpArgs false
namespace Go.Proofs.Ytbdhjoanjlkggaa.Lv
/-- What a thing needs. -/
def row (ns : List (List Nat)) (i : Nat) : List Nat := ns.getD i []
/-- How many of its needs are not told yet. -/
def cnt (ns : List (List Nat)) (D : List Nat) (i : Nat) : Nat := (row ns i).countP fun k => !D.contains k
/-- Can it come next? -/
def rdy (ns : List (List Nat)) (D : List Nat) (i : Nat) : Bool := !D.contains i && cnt ns D i == 0
def next (ns : List (List Nat)) (D : List Nat) : Option Nat := (List.range ns.length).find? (rdy ns D)
/-- As much of an order as can be told. -/
def toldF (ns : List (List Nat)) : Nat → List Nat → List Nat
  | 0, D => D
  | n + 1, D => match next ns D with
    | none => D
    | some i => toldF ns n (D ++ [i])
def told (ns : List (List Nat)) : List Nat := toldF ns ns.length []

theorem rdy_iff {ns : List (List Nat)} {D : List Nat} {i : Nat} : rdy ns D i = true ↔ i ∉ D ∧ cnt ns D i = 0 := by
  simp [rdy]
theorem cnt_zero {ns : List (List Nat)} {D : List Nat} {i : Nat} : cnt ns D i = 0 ↔ ∀ k ∈ row ns i, k ∈ D := by
  simp [cnt, List.countP_eq_zero]
theorem cnt_nil (ns : List (List Nat)) (i : Nat) : cnt ns [] i = (row ns i).length := by
  simp [cnt]
theorem countP_split (l : List Nat) (D : List Nat) (i : Nat) (hi : i ∉ D) : (l.countP fun k => !(D ++ [i]).contains k) + l.count i = l.countP fun k => !D.contains k := by
  induction l with
  | nil => rfl
  | cons a l ih =>
    simp only [List.countP_cons, List.count_cons]
    by_cases e : a = i
    · subst e
      simp [hi] at ih ⊢
      omega
    · by_cases d : a ∈ D
      · simp [e, d] at ih ⊢
        omega
      · simp [e, d] at ih ⊢
        omega
theorem cnt_step {ns : List (List Nat)} {D : List Nat} {i : Nat} (hi : i ∉ D) (j : Nat) : cnt ns (D ++ [i]) j + (row ns j).count i = cnt ns D j := countP_split _ D i hi
theorem next_some {ns : List (List Nat)} {D : List Nat} {i : Nat} (hn : i < ns.length) (hr : rdy ns D i = true) (hm : ∀ j, j < ns.length → rdy ns D j = true → i ≤ j) : next ns D = some i := by
  unfold next
  rw [List.find?_eq_some_iff_append]
  refine ⟨hr, List.range i, (List.range (ns.length - i - 1)).map (· + (i + 1)), ?_, ?_⟩
  · apply List.ext_getElem?
    intro k
    rw [List.getElem?_append]
    simp only [List.length_range]
    by_cases h1 : k < i
    · rw [if_pos h1, List.getElem?_range (by omega), List.getElem?_range h1]
    · rw [if_neg h1]
      by_cases h2 : k = i
      · subst h2
        rw [List.getElem?_range hn]; simp
      · obtain ⟨d, rfl⟩ : ∃ d, k = i + 1 + d := ⟨k - i - 1, by omega⟩
        rw [show i + 1 + d - i = d + 1 by omega, List.getElem?_cons_succ, List.getElem?_map]
        by_cases h3 : i + 1 + d < ns.length
        · rw [List.getElem?_range h3, List.getElem?_range (by omega)]; simp; omega
        · rw [List.getElem?_eq_none (by simp; omega), List.getElem?_eq_none (by simp; omega)]; rfl
  · intro j hj
    have hlt := List.mem_range.1 hj
    cases h : rdy ns D j
    · rfl
    · have := hm j (by omega) h
      omega
theorem next_none {ns : List (List Nat)} {D : List Nat} (h : ∀ j, j < ns.length → rdy ns D j = false) : next ns D = none := by
  unfold next
  rw [List.find?_eq_none]
  intro j hj
  rw [h j (List.mem_range.1 hj)]
  simp
/-- Different numbers below n are no more than n. -/
theorem pigeon : ∀ (N : Nat) (D : List Nat), D.Nodup → (∀ x ∈ D, x < N) → D.length ≤ N
  | 0, D, _, h => by
    cases D with
    | nil => simp
    | cons a l => exact absurd (h a (by simp)) (by omega)
  | N + 1, D, hd, h => by
    have h1 := pigeon N (D.erase N) (hd.erase N) (fun x hx => by
      have h2 := (List.Nodup.mem_erase_iff hd).1 hx
      have := h x h2.2
      have := h2.1
      omega)
    rw [List.length_erase] at h1
    split at h1 <;> omega
/-- What has been told so far. -/
structure Good (ns : List (List Nat)) (D : List Nat) : Prop where
  nodup : D.Nodup
  lt : ∀ x ∈ D, x < ns.length
  zero : ∀ x ∈ D, cnt ns D x = 0
theorem Good.nil (ns : List (List Nat)) : Good ns [] := ⟨by simp, by simp, by simp⟩
theorem Good.snoc {ns : List (List Nat)} {D : List Nat} {i : Nat} (h : Good ns D) (hn : i < ns.length) (hr : rdy ns D i = true) : Good ns (D ++ [i]) := by
  obtain ⟨h1, h2⟩ := rdy_iff.1 hr
  refine ⟨?_, ?_, ?_⟩
  · rw [List.nodup_append]
    exact ⟨h.nodup, by simp, fun a ha b hb => by simp at hb; subst hb; exact fun e => h1 (e ▸ ha)⟩
  · intro x hx
    rcases List.mem_append.1 hx with hx | hx
    · exact h.lt x hx
    · simp at hx; omega
  · intro x hx
    have e := cnt_step (ns := ns) h1 x
    rcases List.mem_append.1 hx with hx | hx
    · have := h.zero x hx; omega
    · simp at hx; subst hx; omega
theorem Good.le {ns : List (List Nat)} {D : List Nat} (h : Good ns D) : D.length ≤ ns.length := pigeon _ D h.nodup h.lt
/-- Ready then, and ready after one more is told. -/
theorem rdy_step {ns : List (List Nat)} {D : List Nat} {i : Nat} (hg : Good ns D) (hr : rdy ns D i = true) (j : Nat) :
    rdy ns (D ++ [i]) j = true ↔ (rdy ns D j = true ∧ j ≠ i) ∨ (0 < cnt ns D j ∧ (row ns j).count i = cnt ns D j) := by
  obtain ⟨h1, h2⟩ := rdy_iff.1 hr
  have e := cnt_step (ns := ns) h1 j
  rw [rdy_iff, rdy_iff]
  simp only [List.mem_append, List.mem_singleton, not_or]
  constructor
  · rintro ⟨⟨a, b⟩, c⟩
    by_cases d : cnt ns D j = 0
    · exact .inl ⟨⟨a, d⟩, b⟩
    · exact .inr ⟨by omega, by omega⟩
  · rintro (⟨⟨a, b⟩, c⟩ | ⟨a, b⟩)
    · exact ⟨⟨a, c⟩, by omega⟩
    · refine ⟨⟨fun hd => ?_, fun hd => ?_⟩, by omega⟩
      · have := hg.zero j hd; omega
      · subst hd; omega
end Go.Proofs.Ytbdhjoanjlkggaa.Lv
