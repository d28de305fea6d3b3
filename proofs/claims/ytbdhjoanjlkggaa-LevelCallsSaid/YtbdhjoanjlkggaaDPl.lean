/-
  No statement of the seat is proved here. Plain laws of depths and layers, for LevelDepth. No condition.
-/
import Derived.Test.YtbdhjoanjlkggaaOL
namespace Go.Proofs.Ytbdhjoanjlkggaa
open Go Go.RowKit
set_option linter.unusedVariables false
set_option linter.unusedSimpArgs false
namespace Lv
def lessRow (i : Nat) (r : List Nat) : List Nat := if i = 0 then [] else r.map (· % i)
/-- The first i rows are brought to lesser things. -/
def lessM (ms : List (List Nat)) (i : Nat) : List (List Nat) := (List.range ms.length).map fun j => if j < i then lessRow j (row ms j) else row ms j
theorem lessM_len (ms : List (List Nat)) (i : Nat) : (lessM ms i).length = ms.length := by simp [lessM]
theorem lessM_row {ms : List (List Nat)} {i j : Nat} : row (lessM ms i) j = if j < i then lessRow j (row ms j) else row ms j := by
  unfold lessM
  by_cases hj : j < ms.length
  · conv => lhs; unfold row
    rw [List.getD_eq_getElem?_getD, List.getElem?_map, List.getElem?_range hj]
    rfl
  · have e : row ms j = [] := by unfold row; rw [List.getD_eq_getElem?_getD, List.getElem?_eq_none (by omega)]; rfl
    have e2 : lessRow j [] = [] := by unfold lessRow; split <;> rfl
    conv => lhs; unfold row
    rw [List.getD_eq_getElem?_getD, List.getElem?_map, List.getElem?_eq_none (by simp; omega), e, e2]
    simp
theorem lessM_zero (ms : List (List Nat)) : lessM ms 0 = ms := by
  apply List.ext_getElem (lessM_len ms 0)
  intro i h1 h2
  simp [lessM, row, List.getD_eq_getElem?_getD, List.getElem?_eq_getElem h2]
theorem lessM_get {ms : List (List Nat)} {i j : Nat} (hj : j < ms.length) : (lessM ms i)[j]? = some (if j < i then lessRow j (row ms j) else row ms j) := by
  unfold lessM
  rw [List.getElem?_map, List.getElem?_range hj]
  rfl
theorem lessM_next {ms : List (List Nat)} {i : Nat} (hi : i < ms.length) : lessM ms (i + 1) = (lessM ms i).set i (lessRow i (row ms i)) := by
  apply List.ext_getElem?
  intro j
  rw [List.getElem?_set]
  by_cases hj : j < ms.length
  · rw [lessM_get hj, lessM_get hj, lessM_len]
    by_cases e : i = j
    · subst e; rw [if_pos (by omega), if_pos rfl, if_pos hj]
    · rw [if_neg e]
      by_cases e2 : j < i
      · rw [if_pos e2, if_pos (by omega)]
      · rw [if_neg e2, if_neg (by omega)]
  · rw [if_neg (by omega), List.getElem?_eq_none (by rw [lessM_len]; omega), List.getElem?_eq_none (by rw [lessM_len]; omega)]
theorem less_lt {i k : Nat} {r : List Nat} (h : k ∈ lessRow i r) : k < i := by
  unfold lessRow at h
  split at h
  · simp at h
  · obtain ⟨y, _, rfl⟩ := List.mem_map.1 h
    exact Nat.mod_lt _ (by omega)
theorem less_len (i : Nat) (r : List Nat) : (lessRow i r).length ≤ r.length := by
  unfold lessRow
  split <;> simp
/-- Needs of lesser things alone. -/
def Low (ms : List (List Nat)) : Prop := ∀ i, ∀ k ∈ row ms i, k < i
theorem less_low (ms : List (List Nat)) : Low (lessM ms ms.length) := by
  intro i k hk
  rw [lessM_row] at hk
  split at hk
  · exact less_lt hk
  · have := row_mem hk; omega
theorem less_fine {ms : List (List Nat)} (hf : Fine ms) : Fine (lessM ms ms.length) := by
  refine ⟨by rw [lessM_len]; exact hf.1, fun i => ?_, fun i k hk => ?_⟩
  · rw [lessM_row]
    split
    · have := less_len i (row ms i); have := hf.2.1 i; omega
    · exact hf.2.1 i
  · have h1 := less_low ms i k hk
    have h2 := row_mem hk
    omega
theorem low_told {ms : List (List Nat)} (h : Low ms) : ¬ (told ms).length < ms.length := by
  intro hlt
  obtain ⟨k, hk, hn⟩ := some_left hlt
  have : ∀ n, ∀ k, k ≤ n → k < ms.length → k ∉ told ms → False := by
    intro n
    induction n with
    | zero =>
      intro k h0 hk hn
      obtain ⟨j, hj, hjn⟩ := told_stuck hk hn
      have := h k j hj; omega
    | succ n ih =>
      intro k h0 hk hn
      obtain ⟨j, hj, hjn⟩ := told_stuck hk hn
      have := h k j hj
      exact ih j (by omega) (by omega) hjn
  exact this k k (Nat.le_refl _) hk hn
/-- One more than the greatest. -/
def want (D : Nat → Nat) (r : List Nat) : Nat := r.foldl (fun m k => max m (D k + 1)) 0
theorem want_next {D : Nat → Nat} {r : List Nat} {q k : Nat} (hq : q < r.length) (hk : r.getD q 0 = k) : want D (r.take (q + 1)) = max (want D (r.take q)) (D k + 1) := by
  have e : r[q] = k := by rw [← hk, List.getD_eq_getElem?_getD, List.getElem?_eq_getElem hq]; rfl
  unfold want
  rw [List.take_succ_eq_append_getElem hq, List.foldl_append, e]
  rfl
theorem fold_congr {D D' : Nat → Nat} : ∀ (r : List Nat) (a : Nat), (∀ k ∈ r, D k = D' k) → r.foldl (fun m k => max m (D k + 1)) a = r.foldl (fun m k => max m (D' k + 1)) a
  | [], _, _ => rfl
  | k :: r, a, h => by
    rw [List.foldl_cons, List.foldl_cons, h k (by simp)]
    exact fold_congr r _ (fun j hj => h j (by simp [hj]))
theorem want_congr {D D' : Nat → Nat} {r : List Nat} (h : ∀ k ∈ r, D k = D' k) : want D r = want D' r := fold_congr r 0 h
theorem dRow_at {i : Nat} : ∀ (r : List Nat) (d : Nat → Nat), i ∉ r → (dRow i r d i = r.foldl (fun m k => max m (d k + 1)) (d i)) ∧ ∀ k, k ≠ i → dRow i r d k = d k
  | [], d, _ => ⟨rfl, fun _ _ => rfl⟩
  | a :: r, d, h => by
    have ha : a ≠ i := fun e => h (by simp [e])
    obtain ⟨h1, h2⟩ := dRow_at r (upd d i (max (d i) (d a + 1))) (fun hr => h (List.mem_cons_of_mem _ hr))
    have e : dRow i (a :: r) d = dRow i r (upd d i (max (d i) (d a + 1))) := rfl
    rw [e]
    refine ⟨?_, fun k hk => ?_⟩
    · rw [h1, List.foldl_cons]
      rw [show upd d i (max (d i) (d a + 1)) i = max (d i) (d a + 1) by simp [upd]]
      refine fold_congr r _ fun k hk => ?_
      unfold upd
      rw [if_neg (fun e => h (by simp [← e, hk]))]
    · rw [h2 k hk]
      unfold upd
      rw [if_neg hk]
theorem dAll_spec {ms : List (List Nat)} (hl : Low ms) : ∀ s, s ≤ (told ms).length → (∀ x, x ∉ (told ms).take s → dAll ms ((told ms).take s) (fun _ => 0) x = 0) ∧ ∀ x, x ∈ (told ms).take s → dAll ms ((told ms).take s) (fun _ => 0) x = want (dAll ms ((told ms).take s) fun _ => 0) (row ms x)
  | 0, _ => ⟨fun x _ => rfl, fun x hx => by simp at hx⟩
  | s + 1, hs => by
    obtain ⟨h1, h2⟩ := dAll_spec hl s (by omega)
    obtain ⟨x, hx⟩ : ∃ x, (told ms).getD s 0 = x := ⟨_, rfl⟩
    have hx' : (told ms)[s]'(by omega) = x := by rw [← hx, List.getD_eq_getElem?_getD, List.getElem?_eq_getElem (by omega)]; rfl
    have ht : (told ms).take (s + 1) = (told ms).take s ++ [x] := by rw [List.take_succ_eq_append_getElem (by omega), hx']
    have hr := (next_rdy (told_step (ns := ms) (s := s) (by omega))).2
    rw [hx, rdy_iff] at hr
    have hz := cnt_zero.1 hr.2
    have hxr : x ∉ row ms x := fun h => by have := hl x x h; omega
    rw [dAll_next (by omega) hx]
    obtain ⟨D, hD⟩ : ∃ D, dAll ms ((told ms).take s) (fun _ => 0) = D := ⟨_, rfl⟩
    rw [hD] at h1 h2 ⊢
    obtain ⟨g1, g2⟩ := dRow_at (row ms x) D hxr
    rw [ht]
    refine ⟨fun y hy => ?_, fun y hy => ?_⟩
    · have hy1 : y ≠ x := fun e => hy (by simp [e])
      rw [g2 y hy1]
      exact h1 y (fun h => hy (by simp [h]))
    · by_cases e : y = x
      · subst e
        rw [g1, h1 y hr.1]
        exact fold_congr _ _ fun k hk => (g2 k (fun e => hxr (e ▸ hk))).symm
      · have hy' : y ∈ (told ms).take s := by
          rcases List.mem_append.1 hy with h | h
          · exact h
          · simp at h; exact absurd h e
        rw [g2 y e, h2 y hy']
        refine want_congr fun k hk => (g2 k (fun ek => ?_)).symm
        subst ek
        -- what y needs is told ahead of y
        have hyT : y ∈ told ms := List.mem_of_mem_take hy'
        have h3 := (pos_need hyT hk).2
        have h4 := pos_take hy'
        have h5 := pos_of (told_good ms).nodup (show s < (told ms).length by omega) hx
        omega
/-- The depth of a thing is one more than the greatest of what it needs. -/
theorem depth_want {ms : List (List Nat)} (hl : Low ms) {x : Nat} (hx : x < ms.length) : dAll ms (told ms) (fun _ => 0) x = want (dAll ms (told ms) fun _ => 0) (row ms x) := by
  have h := (dAll_spec hl (told ms).length (Nat.le_refl _)).2 x
  rw [List.take_length] at h
  exact h ((told_all (low_told hl)).2 x hx)
theorem want_some {D : Nat → Nat} : ∀ (r : List Nat) (a : Nat), r.foldl (fun m k => max m (D k + 1)) a = a ∨ ∃ k ∈ r, D k + 1 = r.foldl (fun m k => max m (D k + 1)) a
  | [], a => .inl rfl
  | b :: r, a => by
    rw [List.foldl_cons]
    rcases want_some r (max a (D b + 1)) with h | ⟨k, hk, he⟩
    · rw [h]
      by_cases e : a ≤ D b + 1
      · exact .inr ⟨b, by simp, by omega⟩
      · exact .inl (by omega)
    · exact .inr ⟨k, by simp [hk], he⟩
theorem want_pos {D : Nat → Nat} {r : List Nat} (h : 0 < want D r) : ∃ k ∈ r, D k + 1 = want D r := by
  rcases want_some (D := D) r 0 with h1 | h1
  · unfold want at h; omega
  · exact h1
/-- No depth is past the thing's number. -/
theorem depth_le {ms : List (List Nat)} (hl : Low ms) : ∀ n x, x ≤ n → x < ms.length → dAll ms (told ms) (fun _ => 0) x ≤ x
  | n, x, hxn, hx => by
    rw [depth_want hl hx]
    have : ∀ (r : List Nat) (a : Nat), a ≤ x → (∀ k ∈ r, dAll ms (told ms) (fun _ => 0) k + 1 ≤ x) → r.foldl (fun m k => max m (dAll ms (told ms) (fun _ => 0) k + 1)) a ≤ x := by
      intro r
      induction r with
      | nil => intro a ha _; exact ha
      | cons b r ih =>
        intro a ha hb
        rw [List.foldl_cons]
        exact ih _ (by have := hb b (by simp); omega) (fun k hk => hb k (by simp [hk]))
    refine this _ 0 (by omega) fun k hk => ?_
    have hkx := hl x k hk
    match n, hxn with
    | 0, h0 => omega
    | n + 1, h0 =>
      have := depth_le hl n k (by omega) (by omega)
      omega
/-- The things of a depth. -/
def lay (D : Nat → Nat) (N k : Nat) : List Nat := (List.range N).filter fun i => D i == k
def cum (D : Nat → Nat) (N K : Nat) : Nat := ((List.range N).filter fun i => decide (D i < K)).length
theorem lay_mem {D : Nat → Nat} {N k x : Nat} : x ∈ lay D N k ↔ x < N ∧ D x = k := by simp [lay]
theorem lay_len (D : Nat → Nat) (N k : Nat) : (lay D N k).length ≤ N := by
  have := List.length_filter_le (fun i => D i == k) (List.range N)
  rw [List.length_range] at this
  exact this
theorem lay_up {D : Nat → Nat} {N k q : Nat} (h : q + 1 < (lay D N k).length) : (lay D N k).getD q 0 < (lay D N k).getD (q + 1) 0 := by
  have hp : (lay D N k).Pairwise (· < ·) := List.Pairwise.filter _ List.pairwise_lt_range
  rw [List.getD_eq_getElem?_getD, List.getD_eq_getElem?_getD, List.getElem?_eq_getElem (by omega), List.getElem?_eq_getElem h]
  exact List.pairwise_iff_getElem.1 hp q (q + 1) (by omega) h (by omega)
theorem cum_zero (D : Nat → Nat) (N : Nat) : cum D N 0 = 0 := by simp [cum]
theorem filt_len (D : Nat → Nat) (K : Nat) : ∀ (l : List Nat), (l.filter fun i => decide (D i < K + 1)).length = (l.filter fun i => decide (D i < K)).length + (l.filter fun i => D i == K).length
  | [] => rfl
  | a :: l => by
    have ih := filt_len D K l
    rw [List.filter_cons, List.filter_cons, List.filter_cons]
    by_cases h1 : D a < K
    · have h2 : D a < K + 1 := by omega
      have h3 : ¬ D a = K := by omega
      simp [h1, h2, h3, ih]
      omega
    · by_cases h3 : D a = K
      · have h2 : D a < K + 1 := by omega
        simp [h3, ih]
        omega
      · have h2 : ¬ D a < K + 1 := by omega
        simp [h1, h2, h3, ih]
theorem cum_next (D : Nat → Nat) (N K : Nat) : cum D N (K + 1) = cum D N K + (lay D N K).length := filt_len D K _
theorem cum_all {D : Nat → Nat} {N K : Nat} (h : ∀ i, i < N → D i < K) : cum D N K = N := by
  unfold cum
  rw [List.filter_eq_self.2 (fun i hi => by simpa using h i (List.mem_range.1 hi)), List.length_range]
theorem cum_le (D : Nat → Nat) (N K : Nat) : cum D N K ≤ N := by
  have := List.length_filter_le (fun i => decide (D i < K)) (List.range N)
  rw [List.length_range] at this
  exact this
theorem dl_get {D : Nat → Nat} {N i : Nat} (hi : i < N) : (ints ((List.range N).map D)).getD i 0 = (D i : Int) := by
  rw [map_getD, List.getD_eq_getElem?_getD, List.getElem?_map, List.getElem?_range hi]
  rfl
theorem layers_lay (D : Nat → Nat) (N : Nat) : ∃ L, layersL (ints ((List.range N).map D)) = toI ((List.range L).map (lay D N)) ∧ (∀ i, i < N → D i < L) ∧ ((∀ i, i < N → D i ≤ 1000) → L ≤ 1001) := by
  have hl : (ints ((List.range N).map D)).length = N := by rw [ints_len, List.length_map, List.length_range]
  by_cases h0 : N = 0
  · refine ⟨0, ?_, fun i hi => by omega, fun _ => by omega⟩
    unfold layersL
    rw [if_pos (by rw [hl]; exact h0)]
    rfl
  · refine ⟨layersN (ints ((List.range N).map D)), ?_, fun i hi => ?_, fun h => ?_⟩
    · unfold layersL
      rw [if_neg (by rw [hl]; exact h0)]
      unfold toI
      rw [List.map_map]
      refine List.map_congr_left fun k _ => ?_
      show ints (layer _ _ k) = ints (lay D N k)
      congr 1
      unfold layer lay
      rw [hl]
      refine List.filter_congr fun i hi => ?_
      rw [dl_get (List.mem_range.1 hi)]
      rw [Bool.eq_iff_iff]
      simp
      omega
    · have := maxL_ge (l := ints ((List.range N).map D)) (i := i) (by rw [hl]; exact hi)
      rw [dl_get hi] at this
      unfold layersN
      omega
    · have := maxL_bd (l := ints ((List.range N).map D)) (M := 1000) (fun i hi => by
        rw [hl] at hi
        rw [dl_get hi]
        have := h i hi
        omega) (by rw [hl]; omega)
      unfold layersN
      omega
end Lv
end Go.Proofs.Ytbdhjoanjlkggaa
