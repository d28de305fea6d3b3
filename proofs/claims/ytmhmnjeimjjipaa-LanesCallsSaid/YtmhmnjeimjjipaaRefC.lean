/-
  No statement of the seat is proved here. Contracts of lanes.Count and of the document's own Count, Fits and Lane, for every number.
-/
import Derived.Test.YtmhmnjeimjjipaaPlainC
import Derived.Test.YtmhmnjeimjjipaaLane
namespace Go.Proofs.Ytmhmnjeimjjipaa
open Go Go.RowKit
set_option linter.unusedVariables false

theorem ones64_any (x : Int) (h0 : 0 ≤ x) (h1 : x < 18446744073709551616) (w : World) : Calls Try.prog 31 #[.int .u64 x] w (Ret w (.int .i64 (Cn.csum x.toNat 64 : Nat))) := by
  obtain ⟨y1, y2, y3, y4, y5, y6, e1, e2, e3, e4, e5, e6, e7, b1, b2, b3, b3', b4, b5, b6, b6'⟩ := Cn.swar h0 h1
  generalize Cn.csum x.toNat 64 = s at *
  go_enter Try.func31, Try.ntmps31
  go_wp2_with fail
  go_ret
  exact Ret.mk (Later.refl _)
theorem count_any (x : Int) (h0 : 0 ≤ x) (h1 : x < 18446744073709551616) (w : World) : Calls Try.prog 24 #[.int .u64 x] w (Ret w (.int .i64 (Cn.csum x.toNat 64 : Nat))) := by
  go_enter Try.func24, Try.ntmps24
  go_wp2_with (go_at_call 31; refine (ones64_any x h0 h1 _).mono ?_; rintro e w' ⟨rfl, g, rfl⟩)
  go_ret
  exact Ret.mk ((Later.refl _).more _)
theorem csum_le (x : Nat) : ∀ n, Cn.csum x n ≤ n
  | 0 => Nat.le_refl _
  | n + 1 => by have := csum_le x n; have : (x.testBit n).toNat ≤ 1 := by cases x.testBit n <;> decide
                show Cn.csum x n + (x.testBit n).toNat ≤ n + 1; omega
theorem csum_next (x : Int) (k : Nat) : (Cn.csum x.toNat k : Int) + Ln.b01 x k = (Cn.csum x.toNat (k + 1) : Nat) := by
  show _ = ((Cn.csum x.toNat k + (x.toNat.testBit k).toNat : Nat) : Int)
  unfold Ln.b01 Ln.tb
  cases x.toNat.testBit k <;> simp
theorem rcount_any (x : Int) (h0 : 0 ≤ x) (h1 : x < 18446744073709551616) (w : World) : Calls Try.prog 25 #[.int .u64 x] w (Ret w (.int .i64 (Cn.csum x.toNat 64 : Nat))) := by
  have HN := Lib.hid (csum_next x)
  have HL := Lib.hid (csum_le x.toNat)
  have HB := Lib.hid (Ln.b01_bd x)
  go_enter Try.func25, Try.ntmps25
  go_wp2_with fail
  go_loopw [3, 4] (fun n i wr => ∃ (k : Nat) (g : Grow), k ≤ 64 ∧ i = .int .i64 k ∧ n = .int .i64 (Cn.csum x.toNat k : Nat) ∧ wr = more w g) (fun _ i _ => 64 - (intOf i).toNat)
  case atStart => exact ⟨0, ⟨#[], w.drawn⟩, by omega, rfl, rfl, by simp [more]⟩
  case round =>
    obtain ⟨k, g, hk, rfl, rfl, rfl⟩ := hrel
    by_cases hlt : k < 64
    · have hl := HL.out k
      have hb := HB.out k
      have hn := HN.out k
      have Hn := Lib.hid hn
      clear hn
      generalize Cn.csum x.toNat k = s at *
      have hbit := bit_any x k h0 h1 (by omega)
      have HBit := Lib.hid hbit
      clear hbit
      generalize Ln.b01 x k = b at *
      go_wp2_with (go_at_call 26; refine (HBit.out _).mono ?_; rintro e w' ⟨rfl, g2, rfl⟩)
      go_roundw
      case rel => exact ⟨k + 1, _, by omega, by go_num, by rw [← Hn.out], rfl⟩
      case measure => simp [intOf]; omega
    · obtain rfl : k = 64 := by omega
      go_wp2_with fail
      go_ret
      exact Ret.mk ((Later.refl _).more _)
theorem rfits_any (n x : Int) (h0 : 0 ≤ x) (h1 : x < 18446744073709551616) (w : World) : Calls Try.prog 29 #[.int .i64 n, .int .u64 x] w (Ret w (.bool (Wd.isw false false n x))) := by
  by_cases a : n < 1
  · have e : Wd.isw false false n x = false := by simp [Wd.isw, Wd.may]; omega
    rw [e]
    go_enter Try.func29, Try.ntmps29
    go_wp2_with fail
    go_ret
    exact Ret.mk (Later.refl _)
  by_cases b : 64 < n
  · have e : Wd.isw false false n x = false := by simp [Wd.isw, Wd.may]; omega
    rw [e]
    go_enter Try.func29, Try.ntmps29
    go_wp2_with fail
    go_ret
    exact Ret.mk (Later.refl _)
  have hm : Wd.may false false n = true := by simp [Wd.may]; omega
  by_cases c : n = 64
  · subst c
    have e : Wd.isw false false 64 x = true := by simp only [Wd.isw, hm, Wd.pw_64, Bool.true_and, decide_eq_true_eq]; exact h1
    rw [e]
    go_enter Try.func29, Try.ntmps29
    go_wp2_with fail
    go_ret
    exact Ret.mk (Later.refl _)
  obtain ⟨k, rfl⟩ := Int.eq_ofNat_of_zero_le (show 0 ≤ n by omega)
  have hk : k ≤ 63 := by omega
  have c' : ((k : Int) == 64) = false := by rw [beq_eq_false_iff_ne]; exact c
  have hp : Wd.pw k = (2 : Int) ^ k := by unfold Wd.pw; rw [Int.toNat_natCast]
  have h2 := Ln.two_bd hk
  have HO := Lib.hid (one_any k hk)
  have e : Wd.isw false false k x = decide (x < (2 : Int) ^ k) := by simp only [Wd.isw, hm, Bool.true_and, hp]
  rw [e]
  clear e hp c hm
  generalize (2 : Int) ^ k = p at *
  cases hd : decide (x < p)
  · have hd' : ¬ x < p := by simpa using hd
    go_enter Try.func29, Try.ntmps29
    go_wp2_with (go_at_call 27; refine (HO.out _).mono ?_; rintro e w' ⟨rfl, g2, rfl⟩)
    go_ret
    exact Ret.mk ((Later.refl _).more _)
  · have hd' : x < p := by simpa using hd
    go_enter Try.func29, Try.ntmps29
    go_wp2_with (go_at_call 27; refine (HO.out _).mono ?_; rintro e w' ⟨rfl, g2, rfl⟩)
    go_ret
    exact Ret.mk ((Later.refl _).more _)
theorem rfits_is {n x : Int} {v : Bool} (h : Wd.isw false false n x = v) (h0 : 0 ≤ x) (h1 : x < 18446744073709551616) (w : World) : Calls Try.prog 29 #[.int .i64 n, .int .u64 x] w (Ret w (.bool v)) := h ▸ rfits_any n x h0 h1 w
end Go.Proofs.Ytmhmnjeimjjipaa
