/-
  No statement of the seat is proved here. Contract of slices.Contains; of level.Reach at needs of things.
-/
import Derived.Test.YtbdhjoanjlkggaaBr
namespace Go.Proofs.Ytbdhjoanjlkggaa
open Go Go.RowKit
set_option linter.unusedVariables false
namespace Lv
theorem idx_iff {l : List Int} {x : Int} : decide (0 ≤ idx l x) = decide (x ∈ l) := by
  rw [decide_eq_decide]
  constructor
  · intro h
    obtain ⟨k, hk, _, rfl⟩ := idx_some h
    rw [List.getD_eq_getElem?_getD, List.getElem?_eq_getElem hk]
    exact List.getElem_mem hk
  · intro h
    apply Classical.byContradiction
    intro h2
    exact (idx_neg h2).2 h
/-- All that things need are things. -/
def Fine (ms : List (List Nat)) : Prop := ms.length ≤ 1000 ∧ (∀ i, (row ms i).length ≤ 1000) ∧ ∀ i, ∀ k ∈ row ms i, k < ms.length
theorem nat_toI (ms : List (List Nat)) : nat (toI ms) = ms := by
  unfold nat toI ints
  rw [List.map_map]
  conv => rhs; rw [← List.map_id ms]
  refine List.map_congr_left fun r _ => ?_
  show (r.map Int.ofNat).map Int.toNat = r
  rw [List.map_map]
  conv => rhs; rw [← List.map_id r]
  exact List.map_congr_left fun x _ => rfl
theorem fine_may {ms : List (List Nat)} (h : Fine ms) : mayB (toI ms) = true := by
  unfold mayB
  rw [List.all_eq_true]
  intro r hr
  obtain ⟨i, hi, rfl⟩ := List.mem_iff_getElem.1 hr
  rw [List.all_eq_true]
  intro x hx
  rw [toI_len] at hi
  have e : (toI ms)[i]'(by rw [toI_len]; exact hi) = ints (row ms i) := by
    rw [← toI_row, List.getD_eq_getElem?_getD, List.getElem?_eq_getElem (by rw [toI_len]; exact hi)]
    rfl
  rw [e] at hx
  obtain ⟨k, hk, rfl⟩ := List.mem_map.1 hx
  have := h.2.2 i k hk
  rw [toI_len]
  simp [inB]
  omega
theorem bro_fine (rs : List (List Nat)) : Fine (bro rs) := by
  have hl : (bro rs).length = min rs.length 40 := by
    unfold bro
    rw [List.length_map, List.length_take]
    omega
  have hrow : ∀ i, row (bro rs) i = broRow (min rs.length 40) ((rs.take 40).getD i []) := by
    intro i
    unfold row bro
    rw [List.getD_eq_getElem?_getD, List.getD_eq_getElem?_getD, List.getElem?_map]
    cases (rs.take 40)[i]? <;> simp [broRow]
  refine ⟨by rw [hl]; omega, fun i => ?_, fun i k hk => ?_⟩
  · rw [hrow]
    unfold broRow
    rw [List.length_map, List.length_take]
    omega
  · rw [hrow] at hk
    unfold broRow at hk
    obtain ⟨x, hx, rfl⟩ := List.mem_map.1 hk
    rw [hl]
    apply Nat.mod_lt
    rcases Nat.eq_zero_or_pos rs.length with h0 | h0
    · have : rs = [] := List.length_eq_zero_iff.1 h0
      subst this
      simp at hx
    · omega
end Lv
theorem contains11 (l : List Int) (x : Int) (A : Option Addr) (c : Nat) (w : World) (hA : IntsR w A l) (hn : l.length ≤ 9223372036854775807) :
    Calls Try.prog 11 #[.slice A l.length c, .int .i64 x] w (Ret w (.bool (decide (x ∈ l)))) := by
  have H := Lib.hid (index30 l x A c w hA hn)
  have e := Lv.idx_iff (l := l) (x := x)
  have E := Lib.hid e
  clear e hA hn
  generalize Lv.idx l x = i at *
  go_enter Try.func11, Try.ntmps11
  go_wp2_with (go_at_call 30; refine H.out.mono ?_; rintro e w' ⟨rfl, hL⟩)
  go_ret
  exact Ret.mk' (by rw [← E.out]; rfl) hL
theorem reach_ms {ms : List (List Nat)} {fr : List Nat} (hf : Lv.Fine ms) (A F : Option Addr) (c cf : Nat) (w : World) (hN : NeedsR w A (toI ms)) (hF : IntsR w F (ints fr)) (hfl : fr.length ≤ 1000) (hft : ∀ x ∈ fr, x < ms.length) (hzF : ∀ a, F = some a → a.spot = none) :
    Calls Try.prog 9 #[.slice A ms.length c, .slice F fr.length cf] w (RetBF w (Lv.reachL ms fr) 0) := by
  have h := reach_okF (toI ms) A F c cf fr w hN (by rw [toI_len]; exact hf.1) (fun i => by rw [toI_row, ints_len]; exact hf.2.1 i) hF hfl (Lv.fine_may hf) (fun x hx => by rw [toI_len]; exact hft x hx) hzF
  rw [toI_len, Lv.nat_toI] at h
  exact h
end Go.Proofs.Ytbdhjoanjlkggaa
