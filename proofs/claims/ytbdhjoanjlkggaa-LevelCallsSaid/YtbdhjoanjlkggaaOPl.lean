/-
  No statement of the seat is proved here. Plain laws of orders and rounds, for LevelOrder. No condition.
-/
import Derived.Test.YtbdhjoanjlkggaaCon
namespace Go.Proofs.Ytbdhjoanjlkggaa
open Go Go.RowKit
set_option linter.unusedVariables false
set_option linter.unusedSimpArgs false
namespace Lv
theorem next_le {ns : List (List Nat)} {D : List Nat} {i j : Nat} (h : next ns D = some i) (hj : j < ns.length) (hr : rdy ns D j = true) : i ≤ j := by
  unfold next at h
  rw [List.find?_range_eq_some] at h
  obtain ⟨_, _, h3⟩ := h
  apply Classical.byContradiction
  intro hn
  have := h3 j (by omega)
  rw [hr] at this
  cases this
theorem toldF_steps {ns : List (List Nat)} : ∀ (n : Nat) (D : List Nat), (∃ E, toldF ns n D = D ++ E) ∧ ∀ s, D.length ≤ s → s < (toldF ns n D).length → next ns ((toldF ns n D).take s) = some ((toldF ns n D).getD s 0)
  | 0, D => ⟨⟨[], by simp [toldF]⟩, fun s h1 h2 => by unfold toldF at h2; omega⟩
  | n + 1, D => by
    unfold toldF
    cases hx : next ns D with
    | none => exact ⟨⟨[], by simp⟩, fun s h1 h2 => by simp only at h2; omega⟩
    | some i =>
      obtain ⟨⟨E, hE⟩, h2⟩ := toldF_steps n (D ++ [i])
      refine ⟨⟨[i] ++ E, by simp only; rw [hE, List.append_assoc]⟩, fun s hs1 hs2 => ?_⟩
      by_cases e : s = D.length
      · subst e
        simp only
        rw [hE, List.append_assoc, List.take_left, hx]
        rw [List.getD_eq_getElem?_getD, List.getElem?_append_right (Nat.le_refl _)]
        simp
      · exact h2 s (by rw [List.length_append]; simp; omega) hs2
theorem told_step {ns : List (List Nat)} {s : Nat} (h : s < (told ns).length) : next ns ((told ns).take s) = some ((told ns).getD s 0) := (toldF_steps ns.length []).2 s (by simp) h
/-- Where a thing stands. -/
def pos (T : List Nat) (x : Nat) : Nat := T.idxOf x
theorem pos_lt {T : List Nat} {x : Nat} (h : x ∈ T) : pos T x < T.length := List.idxOf_lt_length_of_mem h
theorem pos_get {T : List Nat} {x : Nat} (h : x ∈ T) : T.getD (pos T x) 0 = x := by
  rw [List.getD_eq_getElem?_getD, List.getElem?_eq_getElem (pos_lt h)]
  exact List.getElem_idxOf (pos_lt h)
theorem pos_of {T : List Nat} (hd : T.Nodup) {s x : Nat} (hs : s < T.length) (h : T.getD s 0 = x) : pos T x = s := by
  have e : T[s] = x := by rw [← h, List.getD_eq_getElem?_getD, List.getElem?_eq_getElem hs]; rfl
  have hm : x ∈ T := e ▸ List.getElem_mem hs
  have h2 : T[pos T x]'(pos_lt hm) = x := List.getElem_idxOf (pos_lt hm)
  apply Classical.byContradiction
  intro hn
  have hp := List.pairwise_iff_getElem.1 hd
  rcases Nat.lt_or_gt_of_ne hn with h3 | h3
  · exact hp (pos T x) s (pos_lt hm) hs h3 (h2.trans e.symm)
  · exact hp s (pos T x) hs (pos_lt hm) h3 (e.trans h2.symm)
theorem pos_take {T : List Nat} {x s : Nat} (h : x ∈ T.take s) : pos T x < s := by
  obtain ⟨j, hj, rfl⟩ := List.mem_iff_getElem.1 h
  rw [List.length_take] at hj
  rw [List.getElem_take]
  unfold pos
  have : T.idxOf T[j] ≤ j := by
    have hjl : j < T.length := by omega
    rcases Nat.lt_or_ge j (T.idxOf T[j]) with h | h
    · have := List.not_of_lt_findIdx (p := fun y => y == T[j]) (xs := T) (i := j) (by simpa [List.idxOf] using h)
      simp at this
    · exact h
  omega
/-- What a thing needs stands ahead of it. -/
theorem pos_need {ns : List (List Nat)} {x k : Nat} (hx : x ∈ told ns) (hk : k ∈ row ns x) : k ∈ told ns ∧ pos (told ns) k < pos (told ns) x := by
  have hl := pos_lt hx
  have hs := told_step hl
  rw [pos_get hx] at hs
  have hr := (next_rdy hs).2
  have hz := cnt_zero.1 (rdy_iff.1 hr).2 k hk
  exact ⟨List.mem_of_mem_take hz, pos_take hz⟩
/-- Of two that could come, the lesser one comes. -/
theorem told_least {ns : List (List Nat)} {x s : Nat} (hN : x < ns.length) (hx : x ∈ told ns) (hs : s < pos (told ns) x) (hk : ∀ k ∈ row ns x, pos (told ns) k < s) : (told ns).getD s 0 ≤ x := by
  have hl : s < (told ns).length := by have := pos_lt hx; omega
  refine next_le (told_step hl) hN (rdy_iff.2 ⟨fun hm => ?_, cnt_zero.2 fun k hk' => ?_⟩)
  · have := pos_take hm; omega
  · have h1 := pos_need hx hk'
    have h2 := hk k hk'
    have h3 := pos_get h1.1
    have h4 : (told ns)[pos (told ns) k]'(pos_lt h1.1) = k := List.getElem_idxOf (pos_lt h1.1)
    rw [List.mem_iff_getElem]
    exact ⟨pos (told ns) k, by rw [List.length_take]; omega, by rw [List.getElem_take]; exact h4⟩
/-- A round. -/
structure Ring (ms : List (List Nat)) (R : List Nat) : Prop where
  pos : 0 < R.length
  lt : ∀ x ∈ R, x < ms.length
  nodup : R.Nodup
  turn : ∀ j, j < R.length → R.getD ((j + 1) % R.length) 0 ∈ row ms (R.getD j 0)
theorem minNeed_in {N : Nat} {U : Nat → Bool} {r : List Nat} (h : ∃ k ∈ r, U k = true ∧ k < N) : minNeed N U r ∈ r ∧ U (minNeed N U r) = true ∧ minNeed N U r < N := by
  obtain ⟨h1, h2, h3⟩ := minNeed_spec (N := N) (U := U) r N (fun h => absurd h (by omega)) (Nat.le_refl _)
  have hlt := h2 h
  obtain ⟨h4, h5⟩ := h3 hlt
  refine ⟨?_, h4, hlt⟩
  rcases h5 with h5 | h5
  · have : minNeed N U r = N := h5
    have h6 : minNeed N U r < N := hlt
    omega
  · exact h5
theorem walk_ring {ms : List (List Nat)} : ∀ (f : Nat) (p : List Nat) (a : Nat), ms.length + 1 ≤ f + p.length → (p ++ [a]).Nodup → (∀ x ∈ p ++ [a], unt ms x = true) → (∀ k ∈ (List.range ms.length), ∀ y ∈ row ms k, y < ms.length) →
    (∀ j, j + 1 < (p ++ [a]).length → (p ++ [a]).getD (j + 1) 0 ∈ row ms ((p ++ [a]).getD j 0)) → Ring ms (walkF ms (unt ms) f p a)
  | 0, p, a, hf, hd, hu, hlt, hc => by
    have := pigeon ms.length (p ++ [a]) hd (fun x hx => (unt_iff.1 (hu x hx)).1)
    rw [List.length_append] at this
    simp at this
    omega
  | f + 1, p, a, hf, hd, hu, hlt, hc => by
    have hua := hu a (by simp)
    obtain ⟨haN, hat⟩ := unt_iff.1 hua
    obtain ⟨k, hk1, hk2⟩ := told_stuck haN hat
    have hkN := hlt a (List.mem_range.2 haN) k hk1
    obtain ⟨m1, m2, m3⟩ := minNeed_in (N := ms.length) (U := unt ms) (r := row ms a) ⟨k, hk1, unt_iff.2 ⟨hkN, hk2⟩, hkN⟩
    unfold walkF
    by_cases h0 : 0 ≤ idx (ints (p ++ [a])) (minNeed ms.length (unt ms) (row ms a) : Nat)
    · rw [if_pos h0]
      obtain ⟨d, hdl, hde, hdx⟩ := idx_some h0
      rw [hde]
      rw [ints_len] at hdl
      have hdx2 : (p ++ [a]).getD d 0 = minNeed ms.length (unt ms) (row ms a) := by
        rw [map_getD] at hdx
        omega
      have hlen : (p ++ [a]).length = p.length + 1 := by simp
      have hR : ((p ++ [a]).drop (d : Int).toNat).length = p.length + 1 - d := by rw [List.length_drop, hlen]; rfl
      have hget : ∀ j, ((p ++ [a]).drop (d : Int).toNat).getD j 0 = (p ++ [a]).getD (d + j) 0 := fun j => by
        rw [List.getD_eq_getElem?_getD, List.getD_eq_getElem?_getD, List.getElem?_drop]
        rfl
      refine ⟨by omega, fun x hx => (unt_iff.1 (hu x (List.mem_of_mem_drop hx))).1, hd.sublist (List.drop_sublist _ _), fun j hj => ?_⟩
      rw [hR] at hj ⊢
      rw [hget, hget]
      by_cases e : j + 1 = p.length + 1 - d
      · rw [e, Nat.mod_self, Nat.add_zero, hdx2]
        have e2 : d + j = p.length := by omega
        rw [e2]
        have : (p ++ [a]).getD p.length 0 = a := by rw [List.getD_eq_getElem?_getD, List.getElem?_append_right (Nat.le_refl _)]; simp
        rw [this]
        exact m1
      · rw [Nat.mod_eq_of_lt (by omega)]
        exact hc (d + j) (by omega)
    · rw [if_neg h0]
      obtain ⟨_, hn⟩ := idx_neg h0
      have hn2 : minNeed ms.length (unt ms) (row ms a) ∉ p ++ [a] := fun h => hn (List.mem_map.2 ⟨_, h, rfl⟩)
      refine walk_ring f (p ++ [a]) _ (by rw [List.length_append]; simp; omega) ?_ ?_ hlt ?_
      · rw [List.nodup_append]
        exact ⟨hd, by simp, fun x hx y hy => by simp at hy; subst hy; exact fun e => hn2 (e ▸ hx)⟩
      · intro x hx
        rcases List.mem_append.1 hx with hx | hx
        · exact hu x hx
        · simp at hx; subst hx; exact m2
      · intro j hj
        rw [List.length_append] at hj
        simp only [List.length_singleton] at hj
        have hL : (p ++ [a]).length = p.length + 1 := by simp
        have hin : ∀ j, j < p.length + 1 → (p ++ [a] ++ [minNeed ms.length (unt ms) (row ms a)]).getD j 0 = (p ++ [a]).getD j 0 := fun j hj => by
          rw [List.getD_eq_getElem?_getD, List.getD_eq_getElem?_getD, List.getElem?_append_left (by omega)]
        by_cases e : j + 1 = p.length + 1
        · rw [e, hin j (by omega)]
          have e1 : (p ++ [a] ++ [minNeed ms.length (unt ms) (row ms a)]).getD (p.length + 1) 0 = minNeed ms.length (unt ms) (row ms a) := by
            rw [List.getD_eq_getElem?_getD, List.getElem?_append_right (by omega)]; simp
          have e2 : (p ++ [a]).getD j 0 = a := by
            rw [show j = p.length by omega, List.getD_eq_getElem?_getD, List.getElem?_append_right (Nat.le_refl _)]; simp
          rw [e1, e2]
          exact m1
        · rw [hin _ (by omega), hin _ (by omega)]
          exact hc j (by omega)
theorem first_unt {ms : List (List Nat)} (h : (told ms).length < ms.length) : unt ms (first (unt ms) ms.length) = true := by
  obtain ⟨k, hk, hn⟩ := some_left h
  unfold first
  cases hf : (List.range ms.length).find? (unt ms) with
  | none =>
    rw [List.find?_eq_none] at hf
    have := hf k (List.mem_range.2 hk)
    rw [unt_iff.2 ⟨hk, hn⟩] at this
    exact absurd rfl this
  | some m => exact List.find?_some hf
theorem round_ring {ms : List (List Nat)} (hf : Fine ms) (h : (told ms).length < ms.length) : Ring ms (walkF ms (unt ms) (ms.length + 1) [] (first (unt ms) ms.length)) := by
  refine walk_ring (ms.length + 1) [] _ (by simp) (by simp) (fun x hx => ?_) (fun k _ y hy => hf.2.2 k y hy) (fun j hj => by simp at hj)
  simp at hx
  subst hx
  exact first_unt h
theorem ring_idx {R : List Nat} (hd : R.Nodup) {j : Nat} (hj : j < R.length) : idx (ints R) (R.getD j 0 : Nat) = j := by
  refine idx_found (by rw [ints_len]; exact hj) (map_getD _ _) (fun i hi he => ?_)
  rw [map_getD] at he
  have e : R.getD i 0 = R.getD j 0 := by omega
  rw [List.getD_eq_getElem?_getD, List.getD_eq_getElem?_getD, List.getElem?_eq_getElem (by omega), List.getElem?_eq_getElem hj] at e
  exact List.pairwise_iff_getElem.1 hd i j (by omega) hj hi e
end Lv
end Go.Proofs.Ytbdhjoanjlkggaa
