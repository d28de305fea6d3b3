/-
  No statement of the seat is proved here. Plain laws on words brought from one type into another. No condition.
-/
import Derived.Test.YtihnemlnnjdagaaPlain3
namespace Go.Proofs.Ytihnemlnnjdagaa.Wd

theorem cut_low {m n : Int} (h0 : 0 ≤ m) (h : m ≤ n) (x : Int) : cut m (cut n x) = cut m x := by
  unfold cut
  exact Int.emod_emod_of_dvd x ⟨pw (n - m), pw_dvd h0 h⟩
theorem cut_sv_low {m n : Int} (h0 : 0 ≤ m) (h : m ≤ n) (s : Bool) (x : Int) : cut m (sv s n x) = cut m x := by
  obtain ⟨k, hk⟩ := sv_form s n x
  rw [hk, pw_dvd h0 h, Int.mul_assoc, cut_sub_mul]
/-- The low bits stay. -/
theorem low_eq {s : Bool} {m n n' a b : Int} (h1 : 1 ≤ m) (h2 : m ≤ 64) (hn : m ≤ n) (hn' : m ≤ n') (a0 : 0 ≤ a) (a1 : a < 18446744073709551616) (b0 : 0 ≤ b) (b1 : b < 18446744073709551616) (hb : cut n' (sv s n a) = b) :
    bits BinOp.and IntKind.u64 b (18446744073709551615 / 2 ^ (64 - m).toNat) = bits BinOp.and IntKind.u64 a (18446744073709551615 / 2 ^ (64 - m).toNat) := by
  have e : (18446744073709551615 : Int) / 2 ^ (64 - m).toNat = pw m - 1 := ones_eq h1 h2
  rw [e, cut_mask b0 b1 h2, cut_mask a0 a1 h2, ← hb, cut_low (by omega) hn', cut_sv_low (by omega) hn]
theorem low_one {s : Bool} {n n' a b : Int} (hn : 1 ≤ n) (hn' : 1 ≤ n') (a0 : 0 ≤ a) (a1 : a < 18446744073709551616) (b0 : 0 ≤ b) (b1 : b < 18446744073709551616) (hb : cut n' (sv s n a) = b) :
    bits BinOp.and IntKind.u64 b 1 = bits BinOp.and IntKind.u64 a 1 := by
  have h := low_eq (m := 1) (by omega) (by omega) hn hn' a0 a1 b0 b1 hb
  exact h

theorem sv_to {s s' : Bool} {n n' a b : Int} (h1 : 1 ≤ n) (h1' : 1 ≤ n') (a0 : 0 ≤ a) (a1 : a < pw n) (hl : lo s' n' ≤ lo s n) (hh : hi s n ≤ hi s' n') (hb : cut n' (sv s n a) = b) : sv s' n' b = sv s n a := by
  have hr := sv_range (s := s) h1 a0 a1
  rw [← hb]
  exact sv_cut h1' (by omega) (by omega)
theorem back {s s' : Bool} {n n' a b : Int} (a0 : 0 ≤ a) (a1 : a < pw n) (h : sv s' n' b = sv s n a) : cut n (sv s' n' b) = a := by rw [h, cut_sv a0 a1]
theorem rng_same {s : Bool} {n n' : Int} (h1 : 1 ≤ n) (h : n ≤ n') : lo s n' ≤ lo s n ∧ hi s n ≤ hi s n' := by
  have h2 := pw_mono (m := n) (n := n') (by omega) h
  have h3 := pw_mono (m := n - 1) (n := n' - 1) (by omega) (by omega)
  unfold lo hi
  cases s <;> simp <;> omega
theorem rng_up {n n' : Int} (h1 : 1 ≤ n) (h : n < n') : lo true n' ≤ lo false n ∧ hi false n ≤ hi true n' := by
  have h3 := pw_mono (m := n) (n := n' - 1) (by omega) (by omega)
  have h4 := pw_pos (n' - 1)
  unfold lo hi
  simp
  omega
theorem val_same {s : Bool} {n n' a b : Int} (h : sv s n' b = sv s n a) : hld s b = hld s a ∧ val s n' b = val s n a := by
  cases s
  · simp only [sv, Bool.false_and, cond_false] at h
    subst h
    exact ⟨rfl, rfl⟩
  · exact ⟨rfl, by simp [val, hld, h]⟩
theorem val_up {n n' a b : Int} (h1 : 1 ≤ n) (h : n < n') (h2 : n' ≤ 64) (a1 : a < pw n) (hs : sv true n' b = sv false n a) : hld true b = hld false a ∧ val true n' b = val false n a := by
  have h3 := pw_mono (m := n) (n := 63) (by omega) (by omega)
  have e : pw 63 = 9223372036854775808 := by decide
  have hd : hld false a = true := by simp [hld]; omega
  rw [hd]
  exact ⟨rfl, by rw [val, val, hd, hs]; rfl⟩

end Go.Proofs.Ytihnemlnnjdagaa.Wd
