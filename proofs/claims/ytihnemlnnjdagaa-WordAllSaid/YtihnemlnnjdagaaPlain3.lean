/-
  No statement of the seat is proved here. Plain laws on shifts and conversions of words. No condition.
-/
import Derived.Test.YtihnemlnnjdagaaPlain2
namespace Go.Proofs.Ytihnemlnnjdagaa.Wd

theorem pw_dvd {m n : Int} (h0 : 0 ≤ m) (h : m ≤ n) : pw n = pw m * pw (n - m) := by
  obtain ⟨a, rfl⟩ := Int.eq_ofNat_of_zero_le h0
  obtain ⟨b, rfl⟩ := Int.eq_ofNat_of_zero_le (show 0 ≤ n by omega)
  rw [show ((b : Nat) : Int) - (a : Int) = ((b - a : Nat) : Int) by omega, ← pw_add, show a + (b - a) = b by omega]
theorem pw_sum {m n : Int} (h0 : 0 ≤ m) (h : 0 ≤ n) : pw (m + n) = pw m * pw n := by
  have := pw_dvd (m := m) (n := m + n) h0 (by omega)
  rw [show m + n - m = n by omega] at this
  exact this
theorem pw_mono {m n : Int} (h0 : 0 ≤ m) (h : m ≤ n) : pw m ≤ pw n := by
  rw [pw_dvd h0 h]
  have h1 := pw_pos m
  have h2 := pw_pos (n - m)
  calc pw m = pw m * 1 := by omega
    _ ≤ pw m * pw (n - m) := Int.mul_le_mul_of_nonneg_left h2 (by omega)
theorem cut_emod (n x y : Int) (h : x % pw n = y % pw n) : cut n x = cut n y := h
theorem cut_cut (n x : Int) : cut n (cut n x) = cut n x := by unfold cut; exact Int.emod_emod_of_dvd x (Int.dvd_refl _)
theorem cut_mul_l (n x y : Int) : cut n (cut n x * y) = cut n (x * y) := by unfold cut; rw [Int.mul_emod (x % pw n) y, Int.emod_emod_of_dvd x (Int.dvd_refl _), ← Int.mul_emod]
theorem cut_mul_r (n x y : Int) : cut n (x * cut n y) = cut n (x * y) := by unfold cut; rw [Int.mul_emod x (y % pw n), Int.emod_emod_of_dvd y (Int.dvd_refl _), ← Int.mul_emod]
theorem cut_sub_mul (n x k : Int) : cut n (x - pw n * k) = cut n x := by unfold cut; exact Int.sub_mul_emod_self_left ..
/-- A word and its value differ by a multiple of 2 to the width. -/
theorem sv_form (s : Bool) (n x : Int) : ∃ k, sv s n x = x - pw n * k := by
  unfold sv
  cases hc : (s && decide (pw (n - 1) ≤ x))
  · exact ⟨0, by simp⟩
  · exact ⟨1, by simp⟩
theorem cut_sv {s : Bool} {n x : Int} (h0 : 0 ≤ x) (hx : x < pw n) : cut n (sv s n x) = x := by
  obtain ⟨k, hk⟩ := sv_form s n x
  rw [hk, cut_sub_mul, cut_id h0 hx]
theorem cut_sv_mul (s : Bool) (n x y : Int) : cut n (sv s n x * y) = cut n (x * y) := by
  obtain ⟨k, hk⟩ := sv_form s n x
  rw [hk, Int.sub_mul, Int.mul_assoc, cut_sub_mul]
/-- The range of the values. -/
def lo (s : Bool) (n : Int) : Int := bif s then -pw (n - 1) else 0
def hi (s : Bool) (n : Int) : Int := bif s then pw (n - 1) else pw n
theorem sv_range {s : Bool} {n x : Int} (h1 : 1 ≤ n) (h0 : 0 ≤ x) (hx : x < pw n) : lo s n ≤ sv s n x ∧ sv s n x < hi s n := by
  have hh := pw_half h1
  unfold sv lo hi
  cases s
  · simp; omega
  · by_cases hc : pw (n - 1) ≤ x
    · simp [hc]; omega
    · simp [hc]; omega
theorem sv_cut {s : Bool} {n x : Int} (h1 : 1 ≤ n) (hl : lo s n ≤ x) (hh : x < hi s n) : sv s n (cut n x) = x := by
  have hp := pw_half h1
  have hp1 := pw_pos (n - 1)
  cases s
  · simp only [lo, hi, cond_false] at hl hh
    rw [cut_id hl hh]; simp [sv]
  · simp only [lo, hi, cond_true] at hl hh
    by_cases hx : 0 ≤ x
    · rw [cut_id hx (by omega)]
      simp [sv, show ¬ pw (n - 1) ≤ x by omega]
    · have e : cut n x = x + pw n := by
        unfold cut
        rw [← Int.add_emod_right]
        exact Int.emod_eq_of_lt (by omega) (by omega)
      rw [e]
      simp [sv, show pw (n - 1) ≤ x + pw n by omega]
theorem div_range {s : Bool} {n x k : Int} (hk : 1 ≤ k) (hl : lo s n ≤ x) (hh : x < hi s n) : lo s n ≤ x / k ∧ x / k < hi s n := by
  have hp := pw_pos (n - 1)
  have hp' := pw_pos n
  by_cases hx : 0 ≤ x
  · have h1 := Int.ediv_le_self k hx
    have h2 := Int.ediv_nonneg hx (show 0 ≤ k by omega)
    refine ⟨?_, by omega⟩
    unfold lo; cases s <;> simp <;> omega
  · have h2 : x / k < 0 := Int.ediv_neg_of_neg_of_pos (by omega) (by omega)
    have h3 : x ≤ x / k := by
      rw [Int.le_ediv_iff_mul_le (by omega)]
      have : x * k ≤ x * 1 := Int.mul_le_mul_of_nonpos_left (by omega) hk
      omega
    refine ⟨by omega, ?_⟩
    unfold hi; cases s <;> simp <;> omega

theorem shV_up {s : Bool} {n x k : Int} (hk : 0 ≤ k) : shV s n x k = cut n (x * pw k) := by simp [shV, hk]
theorem shV_dn {s : Bool} {n x k : Int} (h0 : 0 ≤ x) (hx : x < pw n) (hk : 0 ≤ k) : shV s n x (-k) = cut n (sv s n x / pw k) := by
  by_cases hz : k = 0
  · subst hz
    rw [show (-0 : Int) = 0 by rfl, shV_up (by omega), show pw 0 = 1 by rfl, Int.mul_one, Int.ediv_one, cut_sv h0 hx, cut_id h0 hx]
  · simp [shV, show ¬ k ≤ 0 by omega]
theorem shV_bd {s : Bool} {n x k : Int} : 0 ≤ shV s n x k ∧ shV s n x k < pw n := by
  unfold shV
  cases decide (0 ≤ k) <;> exact cut_bd _
theorem sv_dn {s : Bool} {n x k : Int} (h1 : 1 ≤ n) (h0 : 0 ≤ x) (hx : x < pw n) (hk : 0 ≤ k) : sv s n (shV s n x (-k)) = sv s n x / pw k := by
  have hr := sv_range (s := s) h1 h0 hx
  have hd := div_range (s := s) (n := n) (k := pw k) (pw_pos k) hr.1 hr.2
  rw [shV_dn h0 hx hk]
  exact sv_cut h1 hd.1 hd.2
theorem sh_more {s : Bool} {n x j k : Int} (hj : 0 ≤ j) (hk : 0 ≤ k) : shV s n (shV s n x j) k = shV s n x (j + k) := by
  rw [shV_up hk, shV_up hj, shV_up (by omega), cut_mul_l, Int.mul_assoc, pw_sum hj hk]
theorem sh_lower {s : Bool} {n x j k : Int} (h1 : 1 ≤ n) (h0 : 0 ≤ x) (hx : x < pw n) (hj : 0 ≤ j) (hk : 0 ≤ k) : shV s n (shV s n x (-j)) (-k) = shV s n x (-j - k) := by
  rw [shV_dn shV_bd.1 shV_bd.2 hk, sv_dn h1 h0 hx hj, show -j - k = -(j + k) by omega, shV_dn h0 hx (by omega), pw_sum hj hk, Int.ediv_ediv_of_nonneg (by have := pw_pos j; omega)]
theorem sh_mul {s : Bool} {n x j : Int} (hj : 0 ≤ j) : cut n (x * cut n (pw j)) = shV s n x j := by
  rw [cut_mul_r, shV_up hj]
theorem andNot_pw {j x : Int} (hj : 0 ≤ j) (hj2 : j ≤ 63) (h0 : 0 ≤ x) (hx : x < 18446744073709551616) : bits BinOp.andNot IntKind.u64 x (pw j - 1) = x - x % pw j := by
  by_cases hz : j = 0
  · subst hz
    rw [show pw 0 - 1 = 0 by rfl, show pw 0 = 1 by rfl, u64_andNot _ _ h0 hx (by omega) (by omega), show (0 : Int).toNat = 0 by rfl]
    have : x.toNat &&& 18446744073709551615 = x.toNat := by
      have := Nat.and_two_pow_sub_one_of_lt_two_pow (n := 64) (x := x.toNat) (by omega)
      exact this
    simp only [Nat.sub_zero, this]
    omega
  · have hp := pw_pos j
    have hl := pw_le (n := j) (by omega)
    rw [u64_andNot _ _ h0 hx (by omega) (by omega), andNot_ones h0 hx (by omega) (by omega)]
    rfl
theorem sh_back {s : Bool} {n x j : Int} (h1 : 1 ≤ n) (h2 : n ≤ 64) (h0 : 0 ≤ x) (hx : x < pw n) (hj : 0 ≤ j) (hj2 : j ≤ 63) : shV s n (shV s n x (-j)) j = bits BinOp.andNot IntKind.u64 x (pw j - 1) := by
  have hl := pw_le h2
  have hp := pw_pos j
  rw [andNot_pw hj hj2 h0 (by omega), shV_up hj, ← cut_sv_mul s, sv_dn h1 h0 hx hj]
  by_cases hjn : j ≤ n
  · have hd := pw_dvd hj hjn
    obtain ⟨k, hk⟩ := sv_form s n x
    have e : sv s n x % pw j = x % pw j := by
      rw [hk, hd, Int.mul_assoc]
      exact Int.sub_mul_emod_self_left ..
    have e2 : sv s n x / pw j * pw j = x - x % pw j - pw n * k := by
      have := Int.ediv_mul_add_emod (sv s n x) (pw j)
      omega
    have m1 := Int.emod_nonneg x (show pw j ≠ 0 by omega)
    have m2 : x % pw j ≤ x := by
      have h3 := Int.ediv_mul_add_emod x (pw j)
      have h4 : 0 ≤ x / pw j * pw j := Int.mul_nonneg (Int.ediv_nonneg h0 (by omega)) (by omega)
      omega
    rw [e2, cut_sub_mul, cut_id (by omega) (by omega)]
  · have hm := pw_mono (m := n) (n := j) (by omega) (by omega)
    rw [Int.emod_eq_of_lt h0 (by omega), pw_dvd (m := n) (n := j) (by omega) (by omega), Int.mul_comm (pw n) (pw (j - n)), ← Int.mul_assoc]
    unfold cut
    rw [Int.mul_emod_left]
    omega
theorem sh_end_u {n x : Int} (hn : n ≤ 63) (h1 : 1 ≤ n) (h0 : 0 ≤ x) (hx : x < pw n) : shV false n x (-63) = 0 := by
  have hm := pw_mono (m := n) (n := 63) (by omega) hn
  rw [shV_dn h0 hx (by omega)]
  simp only [sv, Bool.false_and, cond_false]
  rw [Int.ediv_eq_zero_of_lt h0 (by omega)]
  rfl
theorem sh_end_s {n x : Int} (hn : n ≤ 63) (h1 : 1 ≤ n) (h0 : 0 ≤ x) (hx : x < pw n) : shV true n x (-63) = 0 ∨ (shV true n x (-63) ≠ 0 ∧ shV true n x (-63) = cut n 18446744073709551615) := by
  have hm := pw_mono (m := n) (n := 63) (by omega) hn
  have hr := sv_range (s := true) h1 h0 hx
  simp only [lo, hi, cond_true] at hr
  have hh := pw_half h1
  have hp := pw_pos (n - 1)
  rw [shV_dn h0 hx (by omega)]
  by_cases hs : 0 ≤ sv true n x
  · left
    rw [Int.ediv_eq_zero_of_lt hs (by omega)]
    rfl
  · right
    have e : sv true n x / pw 63 = -1 := by
      have h3 : pw 63 = 9223372036854775808 := by decide
      rw [h3] at hm ⊢
      omega
    rw [e]
    have e2 : cut n (-1) = pw n - 1 := by
      unfold cut
      rw [← Int.add_emod_right]
      exact Int.emod_eq_of_lt (by omega) (by omega)
    have e3 : cut n 18446744073709551615 = cut n (-1) := by
      have h4 := cut_wrap h1 (show n ≤ 64 by omega) (-1)
      rw [wrap_u64] at h4
      exact h4
    rw [e3, e2]
    exact ⟨by omega, rfl⟩
theorem hld_dn {s : Bool} {n x j : Int} (h1 : 1 ≤ n) (h0 : 0 ≤ x) (hx : x < pw n) (hj : 0 ≤ j) (h : hld s x = true) : hld s (shV s n x (-j)) = true ∧ val s n (shV s n x (-j)) = val s n x / pw j := by
  have hp := pw_pos j
  cases s
  · have e := sv_dn (s := false) h1 h0 hx hj
    simp only [sv, Bool.false_and, cond_false] at e
    simp only [hld, Bool.false_or, decide_eq_true_eq] at h
    have h3 := Int.ediv_le_self (pw j) h0
    have hd : hld false (shV false n x (-j)) = true := by rw [e]; simp [hld]; omega
    refine ⟨hd, ?_⟩
    simp [val, hld, sv, e, h, show x / pw j < 9223372036854775808 by omega]
  · refine ⟨by simp [hld], ?_⟩
    simp [val, hld, sv_dn h1 h0 hx hj]

end Go.Proofs.Ytihnemlnnjdagaa.Wd
