/-
  No statement of the seat is proved here. Plain laws of what is reached, for LevelReach; rows of bools that are written. No condition.
-/
import Derived.Test.YtbdhjoanjlkggaaCon
namespace Go.Proofs.Ytbdhjoanjlkggaa
open Go Go.RowKit
set_option linter.unusedVariables false
namespace Lv
def things (N : Nat) (fr : List Nat) : List Nat := if N = 0 then [] else (fr.take 10).map (· % N)
theorem things_lt {N x : Nat} {fr : List Nat} (h : x ∈ things N fr) : x < N := by
  unfold things at h
  split at h
  · simp at h
  · obtain ⟨y, _, rfl⟩ := List.mem_map.1 h
    exact Nat.mod_lt _ (by omega)
theorem things_len (N : Nat) (fr : List Nat) : (things N fr).length ≤ 10 := by
  unfold things
  split
  · simp
  · rw [List.length_map, List.length_take]; omega
theorem things_few {N p : Nat} {fr : List Nat} (hp : p ≤ fr.length) (h10 : p ≤ 10) (hN : 0 < N) : (things N (fr.take p)).length = p := by
  unfold things
  rw [if_neg (by omega), List.length_map, List.length_take, List.length_take]
  omega
theorem things_next {N p x : Nat} {fr : List Nat} (hp : p < fr.length) (h10 : p < 10) (hN : 0 < N) (hx : fr.getD p 0 = x) : things N (fr.take (p + 1)) = things N (fr.take p) ++ [x % N] := by
  have e : fr[p] = x := by rw [← hx, List.getD_eq_getElem?_getD, List.getElem?_eq_getElem hp]; rfl
  unfold things
  rw [if_neg (by omega), if_neg (by omega), List.take_take, List.take_take, Nat.min_eq_right (by omega), Nat.min_eq_right (by omega), List.take_succ_eq_append_getElem hp, List.map_append, e]
  rfl
theorem things_stay {N p : Nat} {fr : List Nat} (h : 10 ≤ p ∨ N = 0) : things N (fr.take (p + 1)) = things N (fr.take p) := by
  unfold things
  split
  · rfl
  · rw [List.take_take, List.take_take, Nat.min_eq_left (by omega), Nat.min_eq_left (by omega)]
theorem things_all {N p : Nat} {fr : List Nat} (h : fr.length ≤ p) : things N (fr.take p) = things N fr := by
  rw [List.take_of_length_le h]
theorem rch_any {ms : List (List Nat)} {fr : List Nat} {k : Nat} : Rch ms fr k ↔ ∃ x ∈ fr, Rch ms [x] k := by
  constructor
  · intro h
    induction h with
    | @base x hx => exact ⟨x, hx, .base (by simp)⟩
    | step _ hk ih =>
      obtain ⟨x, hx, hr⟩ := ih
      exact ⟨x, hx, .step hr hk⟩
  · rintro ⟨x, hx, h⟩
    induction h with
    | base hy => simp at hy; subst hy; exact .base hx
    | step _ hk ih => exact .step ih hk
theorem reachB_any (ms : List (List Nat)) (fr : List Nat) (k : Nat) : reachB ms fr k = fr.any (fun x => reachB ms [x] k) := by
  rw [Bool.eq_iff_iff, reachB_iff, rch_any, List.any_eq_true]
  constructor
  · rintro ⟨x, hx, h⟩; exact ⟨x, hx, reachB_iff.2 h⟩
  · rintro ⟨x, hx, h⟩; exact ⟨x, hx, reachB_iff.1 h⟩
theorem reachB_in {ms : List (List Nat)} {fr : List Nat} {x : Nat} (h : x ∈ fr) : reachB ms fr x = true := reachB_iff.2 (.base h)
theorem reachB_step {ms : List (List Nat)} {fr : List Nat} {i k : Nat} (h : reachB ms fr i = true) (hk : k ∈ row ms i) : reachB ms fr k = true := reachB_iff.2 (.step (reachB_iff.1 h) hk)
theorem reachB_out {ms : List (List Nat)} {fr : List Nat} {k : Nat} (h : reachB ms fr k = true) : k ∈ fr ∨ ∃ i, reachB ms fr i = true ∧ k ∈ row ms i := by
  cases reachB_iff.1 h with
  | base hx => exact .inl hx
  | step hr hk => exact .inr ⟨_, reachB_iff.2 hr, hk⟩
/-- What is needed, by the first i rows of what is. -/
def ned (ms : List (List Nat)) (is : Nat → Bool) (i k : Nat) : Bool := (List.range i).any fun j => is j && (row ms j).contains k
def nedP (ms : List (List Nat)) (is : Nat → Bool) (i q k : Nat) : Bool := ned ms is i k || (is i && ((row ms i).take q).contains k)
theorem nedP_zero (ms : List (List Nat)) (is : Nat → Bool) (i k : Nat) : nedP ms is i 0 k = ned ms is i k := by simp [nedP]
theorem nedP_all (ms : List (List Nat)) (is : Nat → Bool) (i k : Nat) : nedP ms is i (row ms i).length k = ned ms is (i + 1) k := by
  unfold nedP ned
  rw [List.take_length, List.range_succ, List.any_append]
  simp
theorem nedP_no {ms : List (List Nat)} {is : Nat → Bool} {i q : Nat} (h : is i = false) (k : Nat) : nedP ms is i (q + 1) k = nedP ms is i q k := by
  simp [nedP, h]
theorem nedP_yes {ms : List (List Nat)} {is : Nat → Bool} {i q x : Nat} (h : is i = true) (hq : q < (row ms i).length) (hx : (row ms i).getD q 0 = x) (k : Nat) : (if k = x then true else nedP ms is i q k) = nedP ms is i (q + 1) k := by
  have e : (row ms i)[q] = x := by rw [← hx, List.getD_eq_getElem?_getD, List.getElem?_eq_getElem hq]; rfl
  unfold nedP
  rw [List.take_succ_eq_append_getElem hq, e, h]
  by_cases hk : k = x
  · subst hk; simp
  · rw [if_neg hk]
    congr 1
    simp [hk]
theorem ned_of {ms : List (List Nat)} {is : Nat → Bool} {i k N : Nat} (h : is i = true) (hk : k ∈ row ms i) (hi : i < N) : ned ms is N k = true := by
  unfold ned
  rw [List.any_eq_true]
  exact ⟨i, List.mem_range.2 hi, by rw [h]; simpa using hk⟩
end Lv
theorem BRow.put {w : World} {g N : Nat} {is : Nat → Bool} (h : BRow w g N is) {i : Nat} (hi : i < N) (b : Bool) : BRow (w.setCell ⟨g, i, none⟩ (.bool b)) g N (fun k => if k = i then b else is k) := by
  obtain ⟨cur, hg, hs, hc⟩ := h
  refine ⟨cur.setIfInBounds i (.bool b), ?_, by simpa using hs, fun k hk => ?_⟩
  · unfold World.setCell
    simp only [Array.getElem?_modify, if_true]
    simp only [hg, Option.map_some]
    simp
  · rw [Array.getElem?_setIfInBounds]
    by_cases e : k = i
    · subst e; simp; omega
    · rw [if_neg (fun he => e he.symm), hc k hk]; simp only [if_neg e]
theorem BRow.congr {w : World} {g N : Nat} {is is' : Nat → Bool} (h : BRow w g N is) (e : ∀ k, k < N → is k = is' k) : BRow w g N is' := by
  obtain ⟨cur, hg, hs, hc⟩ := h
  exact ⟨cur, hg, hs, fun k hk => by rw [← e k hk]; exact hc k hk⟩
theorem BRow.later {w w' : World} {g N : Nat} {is : Nat → Bool} (h : BRow w g N is) (hl : Later w w') : BRow w' g N is := h.only (Only.of_later hl fun _ => False) (fun h => h)
theorem BoolsR.only {w w' : World} {A : Option Addr} {l : List Bool} {S : Nat → Prop} (h : BoolsR w A l) (ho : Only w w' S) (hn : ∀ b off, A = some ⟨b, off, none⟩ → ¬ S b) : BoolsR w' A l := by
  intro p hp
  obtain ⟨b, off, hA, hb, hc⟩ := h p hp
  exact ⟨b, off, hA, Nat.lt_of_lt_of_le hb ho.size, by rw [ho.cell_far hb (hn b off hA)]; exact hc⟩
theorem bools_at {w : World} {A : Option Addr} {f : Nat → Bool} {N k : Nat} (h : BoolsR w A ((List.range N).map f)) (hk : k < N) : ∃ b off, A = some ⟨b, off, none⟩ ∧ b < w.heap.size ∧ w.cell? ⟨b, off + k, none⟩ = some (.bool (f k)) := by
  obtain ⟨b, off, hA, hb, hc⟩ := h k (by simpa using hk)
  refine ⟨b, off, hA, hb, ?_⟩
  rw [hc, List.getD_eq_getElem?_getD, List.getElem?_map, List.getElem?_range hk]
  rfl
theorem reachL_len (ms : List (List Nat)) (fr : List Nat) : (Lv.reachL ms fr).length = ms.length := by simp [Lv.reachL]
def RetRN (w : World) (N : Nat) (f : Nat → Bool) (e : Ending) (w' : World) : Prop := ∃ A c, e = .returned (.tuple #[.slice A N c, .int .i64 0]) ∧ BoolsR w' A ((List.range N).map f) ∧ Later w w' ∧ ∀ b off, A = some ⟨b, off, none⟩ → w.heap.size ≤ b
theorem reach_N {ms : List (List Nat)} {fr : List Nat} {N : Nat} (hf : Lv.Fine ms) (hN : ms.length = N) (A F : Option Addr) (c cf : Nat) (w : World) (hA : NeedsR w A (toI ms)) (hF : IntsR w F (ints fr)) (hfl : fr.length ≤ 1000) (hft : ∀ x ∈ fr, x < N) (hzF : ∀ a, F = some a → a.spot = none) :
    Calls Try.prog 9 #[.slice A N c, .slice F fr.length cf] w (RetRN w N (Lv.reachB ms fr)) := by
  subst hN
  refine (reach_ms hf A F c cf w hA hF hfl hft hzF).mono fun e w' ⟨A', c', h1, h2, h3, h4⟩ => ?_
  rw [reachL_len] at h1
  exact ⟨A', c', h1, h2, h3, h4⟩
end Go.Proofs.Ytbdhjoanjlkggaa
