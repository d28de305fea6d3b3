/-
  No statement of the seat is proved here. The walk of WordConverts, whatever its arguments.
-/
import Derived.Test.YtihnemlnnjdagaaConv1
import Derived.Test.YtihnemlnnjdagaaConv2
import Derived.Test.YtihnemlnnjdagaaConv3
import Derived.Test.YtihnemlnnjdagaaPlain4
namespace Go.Proofs.Ytihnemlnnjdagaa
open Go Go.RowKit

theorem conv_walk (b s : Bool) (n : Int) (b' s' : Bool) (n' a : Int) (ha : 0 ≤ a) (hax : a < 18446744073709551616) (w : World) :
    Calls Try.prog 5 #[.agg #[.bool b, .bool s, .int .i64 n], .agg #[.bool b', .bool s', .int .i64 n'], .int .u64 a] w (Ret w (.bool true)) := by
  cases b
  · have h1 : 1 ≤ 1 + n % 64 := by omega
    have h2 : 1 + n % 64 ≤ 64 := by omega
    have hm : Wd.may false s (1 + n % 64) = true := by simp [Wd.may]; omega
    have bA := Wd.cut_bd (n := 1 + n % 64) a
    have hA := Wd.isw_cut hm a
    generalize hN : 1 + n % 64 = N at *
    generalize eA : Wd.cut N a = A at *
    have hl := Wd.pw_le h2
    cases b'
    · have h1' : 1 ≤ 1 + n' % 64 := by omega
      have h2' : 1 + n' % 64 ≤ 64 := by omega
      have hm' : Wd.may false s' (1 + n' % 64) = true := by simp [Wd.may]; omega
      generalize hN' : 1 + n' % 64 = N' at *
      have bB := Wd.cut_bd (n := N') (Wd.sv s N A)
      have hB := Wd.isw_cut hm' (Wd.sv s N A)
      have hl' := Wd.pw_le h2'
      generalize eB : Wd.cut N' (Wd.sv s N A) = B at *
      have same : s = s' → Calls Try.prog 5 #[.agg #[.bool false, .bool s, .int .i64 n], .agg #[.bool false, .bool s', .int .i64 n'], .int .u64 a] w (Ret w (.bool true)) := by
        intro hss
        subst hss
        by_cases hrel : N ≤ N'
        · have hlow := Wd.low_eq h1 h2 (Int.le_refl N) hrel bA.1 (by omega) bB.1 (by omega) eB
          have hr := Wd.rng_same (s := s) h1 hrel
          have hsv := Wd.sv_to h1 h1' bA.1 bA.2 hr.1 hr.2 eB
          have hv := Wd.val_same hsv
          exact conv_nn_le s n n' a N N' A B ha hax hN hN' hm hm' h1 h2 h1' h2' eA bA.1 hA hrel eB bB.1 hB (by omega) hlow _ hv.1.symm rfl _ hv.2.symm rfl (Wd.back bA.1 bA.2 hsv) w
        · have hlow := Wd.low_eq h1' h2' (show N' ≤ N by omega) (Int.le_refl N') bA.1 (by omega) bB.1 (by omega) eB
          cases s
          · exact conv_nn_gt_f n n' a N N' A B ha hax hN hN' hm hm' h1 h2 h1' h2' eA bA.1 hA (by omega) (by simp; omega) eB bB.1 hB (by omega) hlow w
          · exact conv_nn_gt_t n n' a N N' A B ha hax hN hN' hm hm' h1 h2 h1' h2' eA bA.1 hA (by omega) (by simp; omega) eB bB.1 hB (by omega) hlow w
      cases s <;> cases s'
      · exact same rfl
      · rcases Int.lt_trichotomy N N' with h | h | h
        · have hlow := Wd.low_eq h1 h2 (Int.le_refl N) (show N ≤ N' by omega) bA.1 (by omega) bB.1 (by omega) eB
          have hr := Wd.rng_up h1 h
          have hsv := Wd.sv_to h1 h1' bA.1 bA.2 hr.1 hr.2 eB
          have hv := Wd.val_up h1 h h2' bA.2 hsv
          exact conv_ft_lt n n' a N N' A B ha hax hN hN' hm hm' h1 h2 h1' h2' eA bA.1 hA h eB bB.1 hB (by omega) hlow _ hv.1.symm rfl _ hv.2.symm rfl (Wd.back bA.1 bA.2 hsv) w
        · have hlow := Wd.low_eq h1' h2' (show N' ≤ N by omega) (Int.le_refl N') bA.1 (by omega) bB.1 (by omega) eB
          exact conv_ft_eq n n' a N N' A B ha hax hN hN' hm hm' h1 h2 h1' h2' eA bA.1 hA h.symm eB bB.1 hB (by omega) hlow w
        · have hlow := Wd.low_eq h1' h2' (show N' ≤ N by omega) (Int.le_refl N') bA.1 (by omega) bB.1 (by omega) eB
          exact conv_ft_gt n n' a N N' A B ha hax hN hN' hm hm' h1 h2 h1' h2' eA bA.1 hA h (by simp; omega) eB bB.1 hB (by omega) hlow w
      · by_cases hrel : N ≤ N'
        · have hlow := Wd.low_eq h1 h2 (Int.le_refl N) hrel bA.1 (by omega) bB.1 (by omega) eB
          exact conv_tf_le n n' a N N' A B ha hax hN hN' hm hm' h1 h2 h1' h2' eA bA.1 hA hrel eB bB.1 hB (by omega) hlow w
        · have hlow := Wd.low_eq h1' h2' (show N' ≤ N by omega) (Int.le_refl N') bA.1 (by omega) bB.1 (by omega) eB
          exact conv_tf_gt n n' a N N' A B ha hax hN hN' hm hm' h1 h2 h1' h2' eA bA.1 hA (by omega) eB bB.1 hB (by omega) hlow w
      · exact same rfl
    · exact conv_nt s' s n n' a N 0 A 0 ha hax hN hm rfl h1 h2 (by omega) (by omega) eA bA.1 hA w
  · have hm : Wd.may true false 1 = true := rfl
    have bA := Wd.cut_bd (n := 1) a
    have hA := Wd.isw_cut hm a
    generalize eA : Wd.cut 1 a = A at *
    have e2 : Wd.pw 1 = 2 := by decide
    cases b'
    · have h1' : 1 ≤ 1 + n' % 64 := by omega
      have h2' : 1 + n' % 64 ≤ 64 := by omega
      have hm' : Wd.may false s' (1 + n' % 64) = true := by simp [Wd.may]; omega
      generalize hN' : 1 + n' % 64 = N' at *
      have bB := Wd.cut_bd (n := N') (Wd.sv false 1 A)
      have hB := Wd.isw_cut hm' (Wd.sv false 1 A)
      have hl' := Wd.pw_le h2'
      have hp := Wd.pw_mono (m := 1) (n := N') (by omega) h1'
      have hAB : Wd.cut N' (Wd.sv false 1 A) = A := by simp only [Wd.sv, Bool.false_and, cond_false]; exact Wd.cut_id bA.1 (by omega)
      generalize eB : Wd.cut N' (Wd.sv false 1 A) = B at *
      have hlow := Wd.low_one (by omega) h1' bA.1 (by omega) bB.1 (by omega) eB
      cases s'
      · have hr := Wd.rng_same (s := false) (n := 1) (by omega) h1'
        have hsv := Wd.sv_to (by omega) h1' bA.1 bA.2 hr.1 hr.2 eB
        have hv := Wd.val_same hsv
        exact conv_tn_f s n n' a 0 N' A B ha hax hN' hm hm' (by omega) (by omega) h1' h2' eA bA.1 hA h1' eB bB.1 hB (by omega) hlow _ hv.1.symm rfl _ hv.2.symm rfl hAB w
      · by_cases h : N' = 1
        · exact conv_tn_1 s n n' a 0 N' A B ha hax hN' hm hm' (by omega) (by omega) h1' h2' eA bA.1 hA h eB bB.1 hB (by omega) hlow w
        · have hr := Wd.rng_up (n := 1) (by omega) (show 1 < N' by omega)
          have hsv := Wd.sv_to (by omega) h1' bA.1 bA.2 hr.1 hr.2 eB
          have hv := Wd.val_up (by omega) (show 1 < N' by omega) h2' bA.2 hsv
          exact conv_tn_t s n n' a 0 N' A B ha hax hN' hm hm' (by omega) (by omega) h1' h2' eA bA.1 hA (by omega) eB bB.1 hB (by omega) hlow _ hv.1.symm rfl _ hv.2.symm rfl hAB w
    · have bB := Wd.cut_bd (n := 1) (Wd.sv false 1 A)
      have hB := Wd.isw_cut hm (Wd.sv false 1 A)
      generalize eB : Wd.cut 1 (Wd.sv false 1 A) = B at *
      have hlow := Wd.low_one (by omega) (by omega) bA.1 (by omega) bB.1 (by omega) eB
      have hr := Wd.rng_same (s := false) (n := 1) (by omega) (Int.le_refl 1)
      have hsv := Wd.sv_to (by omega) (by omega) bA.1 bA.2 hr.1 hr.2 eB
      have hv := Wd.val_same hsv
      exact conv_tt s s' n n' a 0 0 A B ha hax hm hm (by omega) (by omega) (by omega) (by omega) eA bA.1 hA eB bB.1 hB (by omega) hlow _ hv.1.symm rfl _ hv.2.symm rfl (Wd.back bA.1 bA.2 hsv) w

end Go.Proofs.Ytihnemlnnjdagaa
