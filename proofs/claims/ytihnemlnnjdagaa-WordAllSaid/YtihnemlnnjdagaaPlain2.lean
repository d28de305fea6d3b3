/-
  No statement of the seat is proved here. Plain laws on words: their order, their sums. No condition.
-/
import Derived.Test.YtihnemlnnjdagaaPlain
namespace Go.Proofs.Ytihnemlnnjdagaa.Wd

theorem isw_mk {b s : Bool} {n x : Int} (hm : may b s n = true) (hx : x < pw n) : isw b s n x = true := by simp [isw, hm, hx]
theorem isw_cut {b s : Bool} {n : Int} (hm : may b s n = true) (x : Int) : isw b s n (cut n x) = true := isw_mk hm (cut_bd x).2
theorem sv_inj {s : Bool} {n x y : Int} (h1 : 1 ≤ n) (h0 : 0 ≤ x) (hx : x < pw n) (k0 : 0 ≤ y) (hy : y < pw n) (h : sv s n x = sv s n y) : x = y := by
  have hh := pw_half h1
  unfold sv at h
  cases s
  · simpa using h
  · by_cases c1 : pw (n - 1) ≤ x <;> by_cases c2 : pw (n - 1) ≤ y <;> simp [c1, c2] at h <;> omega
theorem cut_add_inj {n x y z : Int} (h0 : 0 ≤ x) (hx : x < pw n) (k0 : 0 ≤ y) (hy : y < pw n) (h : cut n (x + z) = cut n (y + z)) : x = y := by
  have hp := pw_pos n
  unfold cut at h
  have h2 : (x + z - z) % pw n = (y + z - z) % pw n := by rw [Int.sub_emod, h, ← Int.sub_emod]
  rw [Int.add_sub_cancel, Int.add_sub_cancel, Int.emod_eq_of_lt h0 hx, Int.emod_eq_of_lt k0 hy] at h2
  exact h2

end Go.Proofs.Ytihnemlnnjdagaa.Wd
