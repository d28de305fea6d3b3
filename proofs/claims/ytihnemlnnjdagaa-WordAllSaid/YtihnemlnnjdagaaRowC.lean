/-
  No statement of the seat is proved here. Contracts of the document's own May, Is, Cut, One and Two, as All asks for them, for every type and word.
-/
import Derived.Test.YtihnemlnnjdagaaRowB
import Derived.Test.YtihnemlnnjdagaaPlain5
import Derived.StillTailTactics
import Derived.Deep.CutBlock
namespace Go.Proofs.Ytihnemlnnjdagaa
open Go Go.RowKit Bt
set_option linter.unusedVariables false

theorem rmay_any (b s : Bool) (n : Int) (w : World) : Calls Try.prog 30 #[.agg #[.bool b, .bool s, .int .i64 n]] w (Ret w (.bool (Wd.may b s n))) := by
  cases b
  · by_cases h1 : 1 ≤ n
    · by_cases h2 : n ≤ 64
      all_goals
        go_enter Try.func30, Try.ntmps30
        go_wp2
        go_ret
        exact Ret.mk' (by simp [Wd.may, h1, h2]) ((Later.refl _).alloc _)
    · go_enter Try.func30, Try.ntmps30
      go_wp2
      go_ret
      exact Ret.mk' (by simp [Wd.may]; omega) ((Later.refl _).alloc _)
  · cases s
    all_goals
      go_enter Try.func30, Try.ntmps30
      go_wp2
      go_ret
      exact Ret.mk' (by simp [Wd.may]) ((Later.refl _).alloc _)
theorem rmay_is {b s : Bool} {n : Int} {v : Bool} (h : Wd.may b s n = v) (w : World) : Calls Try.prog 30 #[.agg #[.bool b, .bool s, .int .i64 n]] w (Ret w (.bool v)) := h ▸ rmay_any b s n w
theorem cell_later {w w' : World} {C : Array Value} {t : TypeId} (h : Later (w.alloc (.cells C t)) w') (i : Nat) (v : Value) (hv : C[i]? = some v) : w'.cell? ⟨w.heap.size, i, none⟩ = some v := by
  obtain ⟨g, rfl⟩ := h
  rw [more_cell _ _ _ _ (by simp), World.cell?_alloc_new]
  exact hv
theorem row_mod {w : World} {A : Option Addr} {n X : Nat} (h : Row w A n X) : Row w A n (X % 2 ^ n) := fun k hk => by rw [bt_mod hk]; exact h k hk
theorem row_of_mod {w : World} {A : Option Addr} {n X : Nat} (h : Row w A n (X % 2 ^ n)) : Row w A n X := fun k hk => by
  have := h k hk
  rw [bt_mod hk] at this
  exact this
theorem rnumber_is {A : Option Addr} {n c X Z : Nat} (n2 : n ≤ 64) (hZ : X % 2 ^ n = Z) (w : World) (hR : Row w A n X) : Calls Try.prog 31 #[.slice A n c] w (Ret w (.int .u64 Z)) := by
  rw [← hZ]
  exact rnumber_any A n c (X % 2 ^ n) n2 (Nat.mod_lt _ (Nat.two_pow_pos n)) w (row_mod hR)
theorem wid_nat {b s : Bool} {n : Int} (hm : Wd.may b s n = true) : ∃ N : Nat, n = N ∧ 1 ≤ N ∧ N ≤ 64 := by
  obtain ⟨h1, h2⟩ := Wd.may_bd hm
  obtain ⟨N, rfl⟩ := Int.eq_ofNat_of_zero_le (show 0 ≤ n by omega)
  exact ⟨N, rfl, by omega, by omega⟩
theorem pw_cast (N : Nat) : Wd.pw (N : Int) = ((2 ^ N : Nat) : Int) := by rw [Wd.pw_nat, Int.toNat_natCast]
theorem ris_any (b s : Bool) (n : Int) (X : Nat) (hX : X < 18446744073709551616) (w : World) : Calls Try.prog 35 #[.agg #[.bool b, .bool s, .int .i64 n], .int .u64 X] w (Ret w (.bool (Wd.isw b s n X))) := by
  cases hm : Wd.may b s n
  · have hr : Wd.isw b s n X = false := by simp [Wd.isw, hm]
    rw [hr]
    have HM := Lib.hid (rmay_is hm)
    clear hr hm
    go_enter Try.func35, Try.ntmps35
    go_wp2_with (go_at_call 30; refine (HM.out _).mono ?_; rintro e w' ⟨rfl, g, rfl⟩)
    go_ret
    exact Ret.mk (((Later.refl _).alloc _).more _)
  · obtain ⟨N, rfl, n1, n2⟩ := wid_nat hm
    have HM := Lib.hid (rmay_is hm)
    have he : Wd.isw b s N X = decide (X % 2 ^ N = X) := by
      have hp := pw_cast N
      rw [Wd.isw, hm, Bool.true_and, hp, decide_eq_decide]
      constructor
      · intro h; exact Nat.mod_eq_of_lt (by omega)
      · intro h; have := Nat.mod_lt X (Nat.two_pow_pos N); omega
    rw [he]
    clear hm he
    have HB := Lib.hid (rbits_any X N n1 n2 hX)
    obtain ⟨Z, hZ⟩ : ∃ Z, X % 2 ^ N = Z := ⟨_, rfl⟩
    rw [hZ]
    have HZ := Lib.hid hZ
    clear hZ
    cases hd : decide (Z = X)
    · have hne : ((Z : Int) == (X : Int)) = false := by rw [beq_eq_false_iff_ne]; intro h; simp at hd; omega
      clear hd
      go_enter Try.func35, Try.ntmps35
      go_wp2_with (first
        | (go_at_call 30; refine (HM.out _).mono ?_; rintro e w' ⟨rfl, g, rfl⟩)
        | (go_at_call 32; refine (HB.out _).mono ?_; rintro e w1 ⟨bb, cc, rfl, hL1, hge, hO⟩)
        | (go_at_call 31; refine (rnumber_is n2 HZ.out _ hO.row).mono ?_; rintro e w2 ⟨rfl, hL2⟩))
      go_ret
      exact Ret.mk (((((Later.refl _).alloc _).more _).trans hL1).trans hL2)
    · have heq : Z = X := by simpa using hd
      subst heq
      clear hd
      go_enter Try.func35, Try.ntmps35
      go_wp2_with (first
        | (go_at_call 30; refine (HM.out _).mono ?_; rintro e w' ⟨rfl, g, rfl⟩)
        | (go_at_call 32; refine (HB.out _).mono ?_; rintro e w1 ⟨bb, cc, rfl, hL1, hge, hO⟩)
        | (go_at_call 31; refine (rnumber_is n2 HZ.out _ hO.row).mono ?_; rintro e w2 ⟨rfl, hL2⟩))
      go_ret
      exact Ret.mk (((((Later.refl _).alloc _).more _).trans hL1).trans hL2)
theorem ris_is {b s : Bool} {n : Int} {X : Nat} {v : Bool} (h : Wd.isw b s n X = v) (hX : X < 18446744073709551616) (w : World) : Calls Try.prog 35 #[.agg #[.bool b, .bool s, .int .i64 n], .int .u64 X] w (Ret w (.bool v)) := h ▸ ris_any b s n X hX w
theorem rcut_yes (b s : Bool) (N X : Nat) (hm : Wd.may b s N = true) (hX : X < 18446744073709551616) (w : World) : Calls Try.prog 18 #[.agg #[.bool b, .bool s, .int .i64 N], .int .u64 X] w (Ret w (.int .u64 (X % 2 ^ N : Nat))) := by
  obtain ⟨h1, h2⟩ := Wd.may_bd hm
  have n1 : 1 ≤ N := by omega
  have n2 : N ≤ 64 := by omega
  have HM := Lib.hid (rmay_is hm)
  have HB := Lib.hid (rbits_any X N n1 n2 hX)
  obtain ⟨Z, hZ⟩ : ∃ Z, X % 2 ^ N = Z := ⟨_, rfl⟩
  rw [hZ]
  have HZ := Lib.hid hZ
  clear hm hZ
  go_enter Try.func18, Try.ntmps18
  go_wp2_with (first
    | (go_at_call 30; refine (HM.out _).mono ?_; rintro e w' ⟨rfl, g, rfl⟩)
    | (go_at_call 32; refine (HB.out _).mono ?_; rintro e w1 ⟨bb, cc, rfl, hL1, hge, hO⟩)
    | (go_at_call 31; refine (rnumber_is n2 HZ.out _ hO.row).mono ?_; rintro e w2 ⟨rfl, hL2⟩))
  go_ret
  exact Ret.mk (((((Later.refl _).alloc _).more _).trans hL1).trans hL2)
theorem rcut_no (b s : Bool) (n : Int) (x : Int) (hm : Wd.may b s n = false) (w : World) : Calls Try.prog 18 #[.agg #[.bool b, .bool s, .int .i64 n], .int .u64 x] w (Ret w (.int .u64 0)) := by
  have HM := Lib.hid (rmay_is hm)
  clear hm
  go_enter Try.func18, Try.ntmps18
  go_wp2_with (first
    | (go_at_call 30; refine (HM.out _).mono ?_; rintro e w' ⟨rfl, g, rfl⟩))
  go_ret
  exact Ret.mk (((Later.refl _).alloc _).more _)
/-- All ones. -/
theorem rone_1 (b s : Bool) (N : Nat) (hm : Wd.may b s N = true) (w : World) : Calls Try.prog 33 #[.int .i64 1, .agg #[.bool b, .bool s, .int .i64 N], .int .u64 0] w (Ret w (.tuple #[.int .u64 (2 ^ N - 1 : Nat), .int .i64 0])) := by
  obtain ⟨h1, h2⟩ := Wd.may_bd hm
  have n1 : 1 ≤ N := by omega
  have n2 : N ≤ 64 := by omega
  have hp := Nat.two_pow_pos N
  have HI := Lib.hid (fun w => ris_is (b := b) (s := s) (n := N) (X := 0) (v := true) (by have := pw_cast N; rw [Wd.isw, hm, Bool.true_and, decide_eq_true_eq]; omega) (by omega) w)
  have HB := Lib.hid (fun w => rbits_any 0 N n1 n2 (by omega) w)
  have HT := Lib.hid (fun A c w hR => turned_any A N c 0 n1 n2 hp w hR)
  obtain ⟨Z, hZ⟩ : ∃ Z, 2 ^ N - 1 - 0 = Z := ⟨_, rfl⟩
  have hZ2 : Z % 2 ^ N = Z := Nat.mod_eq_of_lt (by omega)
  rw [show 2 ^ N - 1 = Z by omega]
  rw [hZ] at HT
  have HZ := Lib.hid hZ2
  clear hm hZ hZ2 hp
  go_enter Try.func33, Try.ntmps33
  go_wp2_with (first
    | (go_at_call 35; refine (HI.out _).mono ?_; rintro e w' ⟨rfl, hL0⟩; have q2 := cell_later hL0 2 _ rfl)
    | (go_at_call 32; refine (HB.out _).mono ?_; rintro e w1 ⟨bb, cc, rfl, hL1, hge, hO⟩)
    | (go_at_call 36; refine (HT.out _ _ _ hO.row).mono ?_; rintro e w2 ⟨bb2, cc2, rfl, hL2, hge2, hO2⟩)
    | (go_at_call 31; refine (rnumber_is n2 HZ.out _ hO2.row).mono ?_; rintro e w3 ⟨rfl, hL3⟩))
  go_ret2
  exact Ret.mk (((((Later.refl _).alloc _).trans hL0).trans hL1).trans (hL2.trans hL3))
end Go.Proofs.Ytihnemlnnjdagaa
