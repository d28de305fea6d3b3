/-
  No statement of the seat is proved here. Plain laws for LanesBack: lanes packed and unpacked are the words; a lane set. No condition.
-/
import Derived.Test.YtmhmnjeimjjipaaPlainA
set_option linter.unusedVariables false
namespace Go.Proofs.Ytmhmnjeimjjipaa.Ln
theorem trn_congr {f h : Nat → Int} (e : ∀ c, c < 64 → f c = h c) (m : Nat) : trn f m = trn h m := by
  have a := trn_bd f m
  have b := trn_bd h m
  refine eq_of_bits a.1 a.2 b.1 b.2 fun c hc => ?_
  rw [tb_trn f m c hc, tb_trn h m c hc, e c hc]
theorem pw1 (n : Nat) : 0 < Wd.pw n := by have := Wd.pw_pos (n : Int); omega
theorem over_in {n m : Nat} {F : Nat → Int} (hF : ∀ c, 0 ≤ F c ∧ F c < Wd.pw n) (x : Nat) : 0 ≤ over m F (fun _ => 0) x ∧ over m F (fun _ => 0) x < Wd.pw n := by
  have := pw1 n
  unfold over
  split
  · exact hF x
  · exact ⟨Int.le_refl _, this⟩
/-- Unpacked is what was packed. -/
theorem back_law {n m : Nat} (n2 : n ≤ 64) {F : Nat → Int} (hF : ∀ c, 0 ≤ F c ∧ F c < Wd.pw n) (x : Nat) (hx : x < 64) :
    trn (over n (trn (over m F fun _ => 0)) fun _ => 0) x = over m F (fun _ => 0) x := by
  have o := trn_bd (over n (trn (over m F fun _ => 0)) fun _ => 0) x
  have v := over_in (m := m) hF x
  refine eq_of_bits o.1 o.2 v.1 (lt_64 n2 v.2) fun c hc => ?_
  rw [tb_trn _ x c hc]
  by_cases e : c < n
  · rw [over, if_pos e, tb_trn _ c x hx]
  · rw [over, if_neg e, tb_zero, tb_past v.1 v.2 (by omega)]
/-- Packed again. -/
theorem again_law {m : Nat} {F A : Nat → Int} (hA : ∀ c, c < 64 → A c = over m F (fun _ => 0) c) (c : Nat) : trn (over 64 A fun _ => 0) c = trn (over m F fun _ => 0) c :=
  trn_congr (fun x hx => by rw [over, if_pos hx, hA x hx]) c
/-- A lane that was set. -/
theorem set_law {n m : Nat} (n2 : n ≤ 64) {F : Nat → Int} (hF : ∀ c, 0 ≤ F c ∧ F c < Wd.pw n) {v : Int} (v0 : 0 ≤ v) (v1 : v < Wd.pw n) {k : Nat} (hk : k < 64) {S : Nat → Int} (hS : ∀ c, c < n → S c = setB (trn (over m F fun _ => 0) c) (tb v c) k)
    (x : Nat) (hx : x < 64) : trn (over n S fun _ => 0) x = if x = k then v else over m F (fun _ => 0) x := by
  have o := trn_bd (over n S fun _ => 0) x
  have w := over_in (m := m) hF x
  have q : 0 ≤ (if x = k then v else over m F (fun _ => 0) x) ∧ (if x = k then v else over m F (fun _ => 0) x) < Wd.pw n := by
    split
    · exact ⟨v0, v1⟩
    · exact w
  refine eq_of_bits o.1 o.2 q.1 (lt_64 n2 q.2) fun c hc => ?_
  rw [tb_trn _ x c hc]
  by_cases e : c < n
  · rw [over, if_pos e, hS c e, tb_setB _ _ _ _ hx]
    by_cases e2 : x = k
    · rw [if_pos e2, if_pos e2]
    · rw [if_neg e2, if_neg e2, tb_trn _ c x hx]
  · rw [over, if_neg e, tb_zero, tb_past q.1 q.2 (by omega)]
theorem may_of {n : Nat} (n1 : 1 ≤ n) (n2 : n ≤ 64) : Wd.may false false n = true := by simp [Wd.may]; omega
end Go.Proofs.Ytmhmnjeimjjipaa.Ln
