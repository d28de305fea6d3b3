/-
  No statement of the seat is proved here. What the walk of the law LevelCalls needs: plain laws, and contracts in the form that it takes.
-/
import Derived.Test.YtbdhjoanjlkggaaRRe
import Derived.Test.YtbdhjoanjlkggaaKn
namespace Go.Proofs.Ytbdhjoanjlkggaa
open Go Go.RowKit
set_option linter.unusedVariables false
theorem OwnI.addr {w : World} {base n c : Nat} {A : Option Addr} {l : List Int} (h : OwnI w base (.slice A n c) l) (h0 : 0 < l.length) : ∃ g, A = some ⟨g, 0, none⟩ ∧ base ≤ g ∧ g < w.heap.size ∧ l.length ≤ c ∧ ∀ k, w.frozen? ⟨g, k, none⟩ = false := by
  rcases h.2 with h2 | ⟨g, cap, cur, hv, hb, hg, h3, h4, h5, h6⟩
  · exact absurd h2.2 (by omega)
  · injection hv with e1 e2 e3
    subst e1 e3
    exact ⟨g, rfl, hb, (Array.getElem?_eq_some_iff.1 hg).1, h3, fun k => by unfold World.frozen?; simp only [hg]; simp⟩
theorem OwnI.set {w : World} {base n c g : Nat} {l : List Int} (h : OwnI w base (.slice (some ⟨g, 0, none⟩) n c) l) {i : Nat} (hi : i < l.length) (x : Int) :
    OwnI (w.setCell ⟨g, i, none⟩ (.int .i64 x)) base (.slice (some ⟨g, 0, none⟩) n c) (l.set i x) := by
  refine ⟨by simp, ?_⟩
  rcases h.2 with h2 | ⟨g', cap, cur, hv, hb, hg, h3, h4, h5, h6⟩
  · exact absurd h2.2 (by omega)
  · injection hv with e1 e2 e3
    injection e1 with e1
    injection e1 with e1
    subst e1
    refine .inr ⟨g, cap, cur.setIfInBounds i (.int .i64 x), by rw [List.length_set, e2, e3], hb, ?_, by rw [List.length_set]; exact h3, h4, by simpa using h5, ?_⟩
    · unfold World.setCell
      simp only [Array.getElem?_modify, if_true]
      simp only [hg, Option.map_some]
      simp
    · rw [List.length_set, Array.toList_setIfInBounds, List.take_set, h6, List.map_set]
theorem OwnI.int {w : World} {base n c : Nat} {A : Option Addr} {l : List Int} (h : OwnI w base (.slice A n c) l) : IntsR w A l := by
  obtain ⟨A', c', h1, _, h2, _⟩ := h.form
  injection h1 with h1
  rw [h1]; exact h2
namespace Lv
/-- A depth, brought there. -/
def low (x : Int) : Int := max (x.tmod 51) (-5)
def lows (l : List Int) (i : Nat) : List Int := (l.take i).map low ++ l.drop i
theorem lows_len (l : List Int) (i : Nat) : (lows l i).length = l.length := by
  unfold lows
  rw [List.length_append, List.length_map, List.length_take, List.length_drop]
  omega
theorem lows_at {l : List Int} {i : Nat} (hi : i < l.length) : (lows l i).getD i 0 = l.getD i 0 := by
  unfold lows
  rw [List.getD_eq_getElem?_getD, List.getD_eq_getElem?_getD, List.getElem?_append_right (by rw [List.length_map, List.length_take]; omega), List.length_map, List.length_take, List.getElem?_drop]
  congr 2
  congr 1
  omega
theorem lows_next {l : List Int} {i : Nat} {x : Int} (hi : i < l.length) (hx : l.getD i 0 = x) : (lows l i).set i (low x) = lows l (i + 1) := by
  have e : l[i] = x := by rw [← hx, List.getD_eq_getElem?_getD, List.getElem?_eq_getElem hi]; rfl
  unfold lows
  rw [List.take_succ_eq_append_getElem hi, e, List.map_append, List.append_assoc, List.set_append_right _ _ (by rw [List.length_map, List.length_take]; omega), List.length_map, List.length_take, Nat.min_eq_left (by omega), Nat.sub_self,
    List.drop_eq_getElem_cons hi, List.set_cons_zero]
  rfl
theorem lows_all {l : List Int} : lows l l.length = l.map low := by
  unfold lows
  rw [List.take_length, List.drop_length, List.append_nil]
theorem low_in (x : Int) : -5 ≤ low x ∧ low x ≤ 50 := by
  unfold low
  have h1 : x.tmod 51 < 51 := Int.tmod_lt_of_pos x (by decide)
  omega
theorem few_few (rs : List (List Int)) : few (few rs) = few rs := by
  unfold few
  rw [List.take_of_length_le (by rw [List.length_map, List.length_take]; omega), List.map_map]
  apply List.map_congr_left
  intro r _
  simp [List.take_take]
theorem few_len (rs : List (List Int)) : (few rs).length ≤ 60 := by
  unfold few
  rw [List.length_map, List.length_take]
  omega
theorem few_row (rs : List (List Int)) (i : Nat) : ((few rs).getD i []).length ≤ 20 := by
  unfold few
  rw [List.getD_eq_getElem?_getD, List.getElem?_map]
  cases (rs.take 60)[i]? with
  | none => simp
  | some r => simp; omega
/-- All of a row within bounds. -/
def Inn (l : List Int) : Prop := ∀ i, i < l.length → -1000 ≤ l.getD i 0 ∧ l.getD i 0 ≤ 1000
theorem low_inn (l : List Int) : Inn (l.map low) := by
  intro i hi
  rw [List.length_map] at hi
  rw [List.getD_eq_getElem?_getD, List.getElem?_map, List.getElem?_eq_getElem hi]
  have := low_in l[i]
  simp only [Option.map_some, Option.getD_some]
  omega
end Lv
theorem OwnN.cap {w : World} {base n c : Nat} {A : Option Addr} {ns : List (List Int)} (h : OwnN w base (.slice A n c) ns) : ns.length ≤ c ∧ c ≤ 9223372036854775807 := by
  obtain ⟨vs, h1, h2⟩ := h
  rcases h1.2 with ⟨e, h0⟩ | ⟨g, cap, cur, e, _, _, h3, h4, _⟩
  · injection e with _ _ e; omega
  · injection e with _ _ e; unfold maxLen at h4; omega
theorem few_again {ns : List (List Int)} (hf : Lv.few ns = ns) {w : World} {base n c : Nat} {A : Option Addr} (h : OwnN w base (.slice A n c) ns) : Calls Try.prog 12 #[.slice A ns.length c] w (RetNN w ns) := by
  have := few_any ns A c w h.few h.cap.1 h.cap.2
  rw [hf] at this
  exact this
/-- What stays while the calls are made. -/
structure Keep (w : World) (A1 A4 B1 B5 D1 D6 : Option Addr) (ns : List (List Int)) (fs dl : List Int) : Prop where
  own : NeedsR w A4 ns
  needs : NeedsR w A1 ns
  things : IntsR w B5 fs
  from_ : IntsR w B1 fs
  depths : IntsR w D6 dl
  depth : IntsR w D1 dl
theorem Keep.later {w w' : World} {A1 A4 B1 B5 D1 D6 : Option Addr} {ns : List (List Int)} {fs dl : List Int} (h : Keep w A1 A4 B1 B5 D1 D6 ns fs dl) (hl : Later w w') : Keep w' A1 A4 B1 B5 D1 D6 ns fs dl :=
  ⟨h.own.later hl, h.needs.later hl, h.things.later hl, h.from_.later hl, h.depths.later hl, h.depth.later hl⟩
theorem reach_all {ns : List (List Int)} {fs : List Int} (A F : Option Addr) (c cf : Nat) (w : World) (hN : NeedsR w A ns) (hn : ns.length ≤ 1000) (hr : ∀ i, (ns.getD i []).length ≤ 1000) (hF : IntsR w F fs) (hfl : fs.length ≤ 1000) (hzF : ∀ a, F = some a → a.spot = none) :
    Calls Try.prog 9 #[.slice A ns.length c, .slice F fs.length cf] w (RetBE w (Lv.reachV ns fs) (Lv.reachE ns fs)) := by
  unfold Lv.reachV Lv.reachE
  by_cases h : Lv.mayB ns = true ∧ fs.all (Lv.inB ns.length) = true
  · rw [if_pos h, if_pos h]
    have hin : ∀ x ∈ fs, 0 ≤ x ∧ x < ns.length := fun x hx => by
      have := List.all_eq_true.1 h.2 x hx
      simpa [Lv.inB] using this
    have hi : ints (fs.map Int.toNat) = fs := by
      unfold ints
      rw [List.map_map]
      conv => rhs; rw [← List.map_id fs]
      apply List.map_congr_left
      intro x hx
      have := hin x hx
      show Int.ofNat x.toNat = x
      have e : Int.ofNat x.toNat = ((x.toNat : Nat) : Int) := rfl
      omega
    have := reach_ok ns A F c cf (fs.map Int.toNat) w hN hn hr (by rw [hi]; exact hF) (by rw [List.length_map]; exact hfl) h.1 (fun x hx => by
      obtain ⟨y, hy, rfl⟩ := List.mem_map.1 hx
      have := hin y hy
      omega) hzF
    rw [List.length_map] at this
    exact this
  · rw [if_neg h, if_neg h]
    refine reach_no ns A F c cf fs w hN hn hr hF hfl ?_
    cases h1 : Lv.mayB ns
    · exact .inl rfl
    · cases h2 : fs.all (Lv.inB ns.length)
      · exact .inr rfl
      · exact absurd ⟨h1, h2⟩ h
namespace Lv
theorem orderL_len (ns : List (List Int)) : (orderL ns).length ≤ ns.length := by
  have := (told_good (nat ns)).le
  rw [nat_len] at this
  unfold orderL
  repeat' split
  all_goals first | exact this | simp
theorem depthL_len (ns : List (List Int)) : (depthL ns).length ≤ ns.length := by
  unfold depthL
  split
  · unfold depthF; simp
  · simp
theorem walkF_len (ms : List (List Nat)) (U : Nat → Bool) : ∀ (f : Nat) (p : List Nat) (a : Nat), (walkF ms U f p a).length ≤ p.length + f
  | 0, p, a => Nat.le_refl _
  | f + 1, p, a => by
    unfold walkF
    split
    · rw [List.length_drop, List.length_append, List.length_singleton]; omega
    · have := walkF_len ms U f (p ++ [a]) (minNeed ms.length U (row ms a))
      rw [List.length_append, List.length_singleton] at this
      omega
theorem roundL_len (ns : List (List Int)) : (roundL ns).length ≤ ns.length + 1 := by
  unfold roundL
  split
  · have := walkF_len (nat ns) (unt (nat ns)) (ns.length + 1) [] (first (unt (nat ns)) ns.length)
    simpa using this
  · simp
theorem reachV_len (ns : List (List Int)) (fs : List Int) : (reachV ns fs).length ≤ ns.length := by
  unfold reachV
  split
  · rw [reachL_len, nat_len]; exact Nat.le_refl _
  · simp
theorem orderE_in (ns : List (List Int)) : 0 ≤ orderE ns ∧ orderE ns ≤ 35 := by
  unfold orderE
  repeat' split
  all_goals omega
theorem reachE_in (ns : List (List Int)) (fs : List Int) : 0 ≤ reachE ns fs ∧ reachE ns fs ≤ 35 := by
  unfold reachE
  split <;> omega
theorem foldl_le {b : Int} : ∀ (l : List Int) (a : Int), a ≤ b → (∀ x ∈ l, x ≤ b) → l.foldl max a ≤ b
  | [], a, h, _ => h
  | x :: l, a, h, hx => by
    rw [List.foldl_cons]
    exact foldl_le l _ (by have := hx x (by simp); omega) (fun y hy => hx y (by simp [hy]))
theorem layersL_len (ds : List Int) : (layersL (ds.map low)).length ≤ 1000 := by
  obtain ⟨L, h1, h2⟩ := most_layers (ds.map low)
  rw [h2, List.length_map, List.length_range]
  have := foldl_le (b := 50) (ds.map low) (-1) (by omega) (fun x hx => by
    obtain ⟨y, _, rfl⟩ := List.mem_map.1 hx
    exact (low_in y).2)
  unfold most at h1
  omega
theorem layersL_row (l : List Int) (i : Nat) : ((layersL l).getD i []).length ≤ l.length := by
  obtain ⟨L, h1, h2⟩ := most_layers l
  rw [h2, List.getD_eq_getElem?_getD, List.getElem?_map]
  by_cases hi : i < L
  · rw [List.getElem?_range hi]
    simp only [Option.map_some, Option.getD_some, ints_len]
    exact layer_len l l.length i
  · rw [List.getElem?_eq_none (by simpa using hi)]; simp
end Lv
end Go.Proofs.Ytbdhjoanjlkggaa
