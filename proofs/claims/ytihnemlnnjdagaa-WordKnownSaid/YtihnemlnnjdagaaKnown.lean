/-
  No statement of the seat is proved here. The walk of WordKnown.
-/
import Derived.Test.YtihnemlnnjdagaaErrs
import Derived.Test.YtihnemlnnjdagaaRing
namespace Go.Proofs.Ytihnemlnnjdagaa
open Go Go.RowKit
set_option linter.unusedVariables false

theorem bool_any (w : World) : Calls Try.prog 24 #[] w (Ret w (.agg #[.bool true, .bool false, .int .i64 1])) := by
  go_enter Try.func24, Try.ntmps24
  go_wp2
  go_returns
  exact Ret.mk ((Later.refl _).alloc _)
theorem all_nil {b s : Bool} {n op v : Int} {cap : Nat} (hm : Wd.may b s n = true) (hop : op = 1 ∨ op = 2 ∨ op = 3 ∨ b = false ∧ (op = 4 ∨ op = 6)) (hv : Wd.allI n op = v) (w : World) :
    Calls Try.prog 19 #[.int .i64 op, .agg #[.bool b, .bool s, .int .i64 n], .slice none 0 cap] w (Ret w (.tuple #[.int .u64 v, .int .i64 0])) := by
  subst hv
  exact all_any hm hop none [] cap w (by simp) (fun k hk => by simp at hk) (fun k => by simp)

/-- What each round of the law asks of a type that may not be. -/
structure Refused (b s : Bool) (n : Int) : Prop where
  may : Wd.may b s n = false
  is_ : Wd.isw b s n 0 = false
theorem refused {b s : Bool} {n : Int} (h : Wd.may b s n = false) : Refused b s n := ⟨h, by simp [Wd.isw, h]⟩

set_option maxRecDepth 100000 in
set_option maxHeartbeats 8000000 in
theorem known_walk (w : World) : Calls Try.prog 8 #[] w (Ret w (.bool true)) := by
  have t0 : Wd.may false false 0 = false := by decide +kernel
  have z0 : Wd.isw false false 0 0 = false := by decide +kernel
  have t1 : Wd.may false false 65 = false := by decide +kernel
  have z1 : Wd.isw false false 65 0 = false := by decide +kernel
  have t2 : Wd.may false false (-1) = false := by decide +kernel
  have z2 : Wd.isw false false (-1) 0 = false := by decide +kernel
  have t3 : Wd.may true false 0 = false := by decide +kernel
  have z3 : Wd.isw true false 0 0 = false := by decide +kernel
  have t4 : Wd.may true false 2 = false := by decide +kernel
  have z4 : Wd.isw true false 2 0 = false := by decide +kernel
  have t5 : Wd.may true true 1 = false := by decide +kernel
  have z5 : Wd.isw true true 1 0 = false := by decide +kernel
  have m8 : Wd.may false false 8 = true := by decide +kernel
  have w8 : Wd.isw false false 8 0 = true := by decide +kernel
  go_enter Try.func8, Try.ntmps8
  go_wp2_with fail
  go_loopw [48] (fun i wr => ∃ (k : Nat) (g : Grow), k ≤ 6 ∧ i = .int .i64 k ∧ wr = more w g) (fun i _ => (6 - intOf i).toNat)
  case atStart => exact ⟨0, ⟨#[], w.drawn⟩, by omega, rfl, by simp [more]⟩
  case round =>
    obtain ⟨k, g, hk, rfl, rfl⟩ := hrel
    by_cases hlt : k < 6
    · rcases (show k = 0 ∨ k = 1 ∨ k = 2 ∨ k = 3 ∨ k = 4 ∨ k = 5 by omega) with rfl | rfl | rfl | rfl | rfl | rfl
      · have ix : ∀ w, (Instr.index 48 (.agg #[.bool false, .bool false, .int .i64 0, .bool false, .bool false, .int .i64 65, .bool false, .bool false, .int .i64 (-1), .bool true, .bool false, .int .i64 0, .bool true, .bool false, .int .i64 2, .bool true, .bool true, .int .i64 1]) (.int .i64 0)).run Try.prog w = .ok (.agg #[.bool false, .bool false, .int .i64 0]) w := fun _ => by kernel_rfl
        go_wp2_with (first | (go_at_call 21; (with_reducible refine (one_isf (by omega) (by omega) z0 _).mono ?_); rintro e w' ⟨rfl, g, rfl⟩) | (go_at_call 13; (with_reducible refine (two_isf (by omega) (by omega) z0 _).mono ?_); rintro e w' ⟨rfl, g, rfl⟩) | (go_at_call 15; (with_reducible refine (shift_isf (by omega) (by omega) z0 _).mono ?_); rintro e w' ⟨rfl, g, rfl⟩))
        refine wp_region_more (by kernel_rfl) (by kernel_rfl) ?_
        repeat (go_big_quiet_step (first | (go_at_call 22; with_reducible exact quiet_of (u_any _ _)) | (go_at_call 16; with_reducible exact quiet_of (conv_isf (by omega) (by omega) z0 _))))
        refine wpQuiet_nil ?_
        rintro _ ⟨g, rfl⟩
        go_wp2_with fail
        refine wp_region_more (by kernel_rfl) (by kernel_rfl) ?_
        repeat (go_big_quiet_step (first | (go_at_call 22; with_reducible exact quiet_of (u_any _ _)) | (go_at_call 16; with_reducible exact quiet_of (conv_tof (by omega) w8 t0 _))))
        refine wpQuiet_nil ?_
        rintro _ ⟨g, rfl⟩
        go_wp2_with (first | (go_at_call 19; (with_reducible refine (all_isf t0 _).mono ?_); rintro e w' ⟨rfl, g, rfl⟩) | (go_at_call 23; (with_reducible refine (may_is t0 _).mono ?_); rintro e w' ⟨rfl, g, rfl⟩) | (go_at_call 17; (with_reducible refine (is_is (by omega) (by omega) z0 _).mono ?_); rintro e w' ⟨rfl, g, rfl⟩) | (go_at_call 10; (with_reducible refine (cut_no _ _ _ _ t0 _).mono ?_); rintro e w' ⟨rfl, g, rfl⟩))
        rw [more_alloc_more]
        go_roundw
        case rel => exact ⟨1, _, by omega, rfl, rfl⟩
        case measure => simp [intOf]
      · have ix : ∀ w, (Instr.index 48 (.agg #[.bool false, .bool false, .int .i64 0, .bool false, .bool false, .int .i64 65, .bool false, .bool false, .int .i64 (-1), .bool true, .bool false, .int .i64 0, .bool true, .bool false, .int .i64 2, .bool true, .bool true, .int .i64 1]) (.int .i64 1)).run Try.prog w = .ok (.agg #[.bool false, .bool false, .int .i64 65]) w := fun _ => by kernel_rfl
        go_wp2_with (first | (go_at_call 21; (with_reducible refine (one_isf (by omega) (by omega) z1 _).mono ?_); rintro e w' ⟨rfl, g, rfl⟩) | (go_at_call 13; (with_reducible refine (two_isf (by omega) (by omega) z1 _).mono ?_); rintro e w' ⟨rfl, g, rfl⟩) | (go_at_call 15; (with_reducible refine (shift_isf (by omega) (by omega) z1 _).mono ?_); rintro e w' ⟨rfl, g, rfl⟩))
        refine wp_region_more (by kernel_rfl) (by kernel_rfl) ?_
        repeat (go_big_quiet_step (first | (go_at_call 22; with_reducible exact quiet_of (u_any _ _)) | (go_at_call 16; with_reducible exact quiet_of (conv_isf (by omega) (by omega) z1 _))))
        refine wpQuiet_nil ?_
        rintro _ ⟨g, rfl⟩
        go_wp2_with fail
        refine wp_region_more (by kernel_rfl) (by kernel_rfl) ?_
        repeat (go_big_quiet_step (first | (go_at_call 22; with_reducible exact quiet_of (u_any _ _)) | (go_at_call 16; with_reducible exact quiet_of (conv_tof (by omega) w8 t1 _))))
        refine wpQuiet_nil ?_
        rintro _ ⟨g, rfl⟩
        go_wp2_with (first | (go_at_call 19; (with_reducible refine (all_isf t1 _).mono ?_); rintro e w' ⟨rfl, g, rfl⟩) | (go_at_call 23; (with_reducible refine (may_is t1 _).mono ?_); rintro e w' ⟨rfl, g, rfl⟩) | (go_at_call 17; (with_reducible refine (is_is (by omega) (by omega) z1 _).mono ?_); rintro e w' ⟨rfl, g, rfl⟩) | (go_at_call 10; (with_reducible refine (cut_no _ _ _ _ t1 _).mono ?_); rintro e w' ⟨rfl, g, rfl⟩))
        rw [more_alloc_more]
        go_roundw
        case rel => exact ⟨2, _, by omega, rfl, rfl⟩
        case measure => simp [intOf]
      · have ix : ∀ w, (Instr.index 48 (.agg #[.bool false, .bool false, .int .i64 0, .bool false, .bool false, .int .i64 65, .bool false, .bool false, .int .i64 (-1), .bool true, .bool false, .int .i64 0, .bool true, .bool false, .int .i64 2, .bool true, .bool true, .int .i64 1]) (.int .i64 2)).run Try.prog w = .ok (.agg #[.bool false, .bool false, .int .i64 (-1)]) w := fun _ => by kernel_rfl
        go_wp2_with (first | (go_at_call 21; (with_reducible refine (one_isf (by omega) (by omega) z2 _).mono ?_); rintro e w' ⟨rfl, g, rfl⟩) | (go_at_call 13; (with_reducible refine (two_isf (by omega) (by omega) z2 _).mono ?_); rintro e w' ⟨rfl, g, rfl⟩) | (go_at_call 15; (with_reducible refine (shift_isf (by omega) (by omega) z2 _).mono ?_); rintro e w' ⟨rfl, g, rfl⟩))
        refine wp_region_more (by kernel_rfl) (by kernel_rfl) ?_
        repeat (go_big_quiet_step (first | (go_at_call 22; with_reducible exact quiet_of (u_any _ _)) | (go_at_call 16; with_reducible exact quiet_of (conv_isf (by omega) (by omega) z2 _))))
        refine wpQuiet_nil ?_
        rintro _ ⟨g, rfl⟩
        go_wp2_with fail
        refine wp_region_more (by kernel_rfl) (by kernel_rfl) ?_
        repeat (go_big_quiet_step (first | (go_at_call 22; with_reducible exact quiet_of (u_any _ _)) | (go_at_call 16; with_reducible exact quiet_of (conv_tof (by omega) w8 t2 _))))
        refine wpQuiet_nil ?_
        rintro _ ⟨g, rfl⟩
        go_wp2_with (first | (go_at_call 19; (with_reducible refine (all_isf t2 _).mono ?_); rintro e w' ⟨rfl, g, rfl⟩) | (go_at_call 23; (with_reducible refine (may_is t2 _).mono ?_); rintro e w' ⟨rfl, g, rfl⟩) | (go_at_call 17; (with_reducible refine (is_is (by omega) (by omega) z2 _).mono ?_); rintro e w' ⟨rfl, g, rfl⟩) | (go_at_call 10; (with_reducible refine (cut_no _ _ _ _ t2 _).mono ?_); rintro e w' ⟨rfl, g, rfl⟩))
        rw [more_alloc_more]
        go_roundw
        case rel => exact ⟨3, _, by omega, rfl, rfl⟩
        case measure => simp [intOf]
      · have ix : ∀ w, (Instr.index 48 (.agg #[.bool false, .bool false, .int .i64 0, .bool false, .bool false, .int .i64 65, .bool false, .bool false, .int .i64 (-1), .bool true, .bool false, .int .i64 0, .bool true, .bool false, .int .i64 2, .bool true, .bool true, .int .i64 1]) (.int .i64 3)).run Try.prog w = .ok (.agg #[.bool true, .bool false, .int .i64 0]) w := fun _ => by kernel_rfl
        go_wp2_with (first | (go_at_call 21; (with_reducible refine (one_isf (by omega) (by omega) z3 _).mono ?_); rintro e w' ⟨rfl, g, rfl⟩) | (go_at_call 13; (with_reducible refine (two_isf (by omega) (by omega) z3 _).mono ?_); rintro e w' ⟨rfl, g, rfl⟩) | (go_at_call 15; (with_reducible refine (shift_isf (by omega) (by omega) z3 _).mono ?_); rintro e w' ⟨rfl, g, rfl⟩))
        refine wp_region_more (by kernel_rfl) (by kernel_rfl) ?_
        repeat (go_big_quiet_step (first | (go_at_call 22; with_reducible exact quiet_of (u_any _ _)) | (go_at_call 16; with_reducible exact quiet_of (conv_isf (by omega) (by omega) z3 _))))
        refine wpQuiet_nil ?_
        rintro _ ⟨g, rfl⟩
        go_wp2_with fail
        refine wp_region_more (by kernel_rfl) (by kernel_rfl) ?_
        repeat (go_big_quiet_step (first | (go_at_call 22; with_reducible exact quiet_of (u_any _ _)) | (go_at_call 16; with_reducible exact quiet_of (conv_tof (by omega) w8 t3 _))))
        refine wpQuiet_nil ?_
        rintro _ ⟨g, rfl⟩
        go_wp2_with (first | (go_at_call 19; (with_reducible refine (all_isf t3 _).mono ?_); rintro e w' ⟨rfl, g, rfl⟩) | (go_at_call 23; (with_reducible refine (may_is t3 _).mono ?_); rintro e w' ⟨rfl, g, rfl⟩) | (go_at_call 17; (with_reducible refine (is_is (by omega) (by omega) z3 _).mono ?_); rintro e w' ⟨rfl, g, rfl⟩) | (go_at_call 10; (with_reducible refine (cut_no _ _ _ _ t3 _).mono ?_); rintro e w' ⟨rfl, g, rfl⟩))
        rw [more_alloc_more]
        go_roundw
        case rel => exact ⟨4, _, by omega, rfl, rfl⟩
        case measure => simp [intOf]
      · have ix : ∀ w, (Instr.index 48 (.agg #[.bool false, .bool false, .int .i64 0, .bool false, .bool false, .int .i64 65, .bool false, .bool false, .int .i64 (-1), .bool true, .bool false, .int .i64 0, .bool true, .bool false, .int .i64 2, .bool true, .bool true, .int .i64 1]) (.int .i64 4)).run Try.prog w = .ok (.agg #[.bool true, .bool false, .int .i64 2]) w := fun _ => by kernel_rfl
        go_wp2_with (first | (go_at_call 21; (with_reducible refine (one_isf (by omega) (by omega) z4 _).mono ?_); rintro e w' ⟨rfl, g, rfl⟩) | (go_at_call 13; (with_reducible refine (two_isf (by omega) (by omega) z4 _).mono ?_); rintro e w' ⟨rfl, g, rfl⟩) | (go_at_call 15; (with_reducible refine (shift_isf (by omega) (by omega) z4 _).mono ?_); rintro e w' ⟨rfl, g, rfl⟩))
        refine wp_region_more (by kernel_rfl) (by kernel_rfl) ?_
        repeat (go_big_quiet_step (first | (go_at_call 22; with_reducible exact quiet_of (u_any _ _)) | (go_at_call 16; with_reducible exact quiet_of (conv_isf (by omega) (by omega) z4 _))))
        refine wpQuiet_nil ?_
        rintro _ ⟨g, rfl⟩
        go_wp2_with fail
        refine wp_region_more (by kernel_rfl) (by kernel_rfl) ?_
        repeat (go_big_quiet_step (first | (go_at_call 22; with_reducible exact quiet_of (u_any _ _)) | (go_at_call 16; with_reducible exact quiet_of (conv_tof (by omega) w8 t4 _))))
        refine wpQuiet_nil ?_
        rintro _ ⟨g, rfl⟩
        go_wp2_with (first | (go_at_call 19; (with_reducible refine (all_isf t4 _).mono ?_); rintro e w' ⟨rfl, g, rfl⟩) | (go_at_call 23; (with_reducible refine (may_is t4 _).mono ?_); rintro e w' ⟨rfl, g, rfl⟩) | (go_at_call 17; (with_reducible refine (is_is (by omega) (by omega) z4 _).mono ?_); rintro e w' ⟨rfl, g, rfl⟩) | (go_at_call 10; (with_reducible refine (cut_no _ _ _ _ t4 _).mono ?_); rintro e w' ⟨rfl, g, rfl⟩))
        rw [more_alloc_more]
        go_roundw
        case rel => exact ⟨5, _, by omega, rfl, rfl⟩
        case measure => simp [intOf]
      · have ix : ∀ w, (Instr.index 48 (.agg #[.bool false, .bool false, .int .i64 0, .bool false, .bool false, .int .i64 65, .bool false, .bool false, .int .i64 (-1), .bool true, .bool false, .int .i64 0, .bool true, .bool false, .int .i64 2, .bool true, .bool true, .int .i64 1]) (.int .i64 5)).run Try.prog w = .ok (.agg #[.bool true, .bool true, .int .i64 1]) w := fun _ => by kernel_rfl
        go_wp2_with (first | (go_at_call 21; (with_reducible refine (one_isf (by omega) (by omega) z5 _).mono ?_); rintro e w' ⟨rfl, g, rfl⟩) | (go_at_call 13; (with_reducible refine (two_isf (by omega) (by omega) z5 _).mono ?_); rintro e w' ⟨rfl, g, rfl⟩) | (go_at_call 15; (with_reducible refine (shift_isf (by omega) (by omega) z5 _).mono ?_); rintro e w' ⟨rfl, g, rfl⟩))
        refine wp_region_more (by kernel_rfl) (by kernel_rfl) ?_
        repeat (go_big_quiet_step (first | (go_at_call 22; with_reducible exact quiet_of (u_any _ _)) | (go_at_call 16; with_reducible exact quiet_of (conv_isf (by omega) (by omega) z5 _))))
        refine wpQuiet_nil ?_
        rintro _ ⟨g, rfl⟩
        go_wp2_with fail
        refine wp_region_more (by kernel_rfl) (by kernel_rfl) ?_
        repeat (go_big_quiet_step (first | (go_at_call 22; with_reducible exact quiet_of (u_any _ _)) | (go_at_call 16; with_reducible exact quiet_of (conv_tof (by omega) w8 t5 _))))
        refine wpQuiet_nil ?_
        rintro _ ⟨g, rfl⟩
        go_wp2_with (first | (go_at_call 19; (with_reducible refine (all_isf t5 _).mono ?_); rintro e w' ⟨rfl, g, rfl⟩) | (go_at_call 23; (with_reducible refine (may_is t5 _).mono ?_); rintro e w' ⟨rfl, g, rfl⟩) | (go_at_call 17; (with_reducible refine (is_is (by omega) (by omega) z5 _).mono ?_); rintro e w' ⟨rfl, g, rfl⟩) | (go_at_call 10; (with_reducible refine (cut_no _ _ _ _ t5 _).mono ?_); rintro e w' ⟨rfl, g, rfl⟩))
        rw [more_alloc_more]
        go_roundw
        case rel => exact ⟨6, _, by omega, rfl, rfl⟩
        case measure => simp [intOf]
    · go_wp2_with (first | (go_at_call 22; (with_reducible refine (u_any _ _).mono ?_); rintro e w' ⟨rfl, g, rfl⟩) | (go_at_call 25; (with_reducible refine (i_any _ _).mono ?_); rintro e w' ⟨rfl, g, rfl⟩) | (go_at_call 24; (with_reducible refine (bool_any _).mono ?_); rintro e w' ⟨rfl, g, rfl⟩))
      refine (one_negbool (x := 1) (by decide +kernel) (by decide +kernel) _).mono ?_
      rintro e w' ⟨rfl, g, rfl⟩
      go_wp2_with (first | (go_at_call 22; (with_reducible refine (u_any _ _).mono ?_); rintro e w' ⟨rfl, g, rfl⟩) | (go_at_call 25; (with_reducible refine (i_any _ _).mono ?_); rintro e w' ⟨rfl, g, rfl⟩) | (go_at_call 24; (with_reducible refine (bool_any _).mono ?_); rintro e w' ⟨rfl, g, rfl⟩))
      refine (one_op (x := 1) (by decide +kernel) (by decide +kernel) (by decide +kernel) (by decide +kernel) _).mono ?_
      rintro e w' ⟨rfl, g, rfl⟩
      go_wp2_with (first | (go_at_call 22; (with_reducible refine (u_any _ _).mono ?_); rintro e w' ⟨rfl, g, rfl⟩) | (go_at_call 25; (with_reducible refine (i_any _ _).mono ?_); rintro e w' ⟨rfl, g, rfl⟩) | (go_at_call 24; (with_reducible refine (bool_any _).mono ?_); rintro e w' ⟨rfl, g, rfl⟩))
      refine (two_13 (x := 1) (y := 1) (by decide +kernel) (by decide +kernel) (by decide +kernel) (by decide +kernel) _).mono ?_
      rintro e w' ⟨rfl, g, rfl⟩
      go_wp2_with (first | (go_at_call 22; (with_reducible refine (u_any _ _).mono ?_); rintro e w' ⟨rfl, g, rfl⟩) | (go_at_call 25; (with_reducible refine (i_any _ _).mono ?_); rintro e w' ⟨rfl, g, rfl⟩) | (go_at_call 24; (with_reducible refine (bool_any _).mono ?_); rintro e w' ⟨rfl, g, rfl⟩))
      refine (two_isf (x := 256) (y := 1) (by decide +kernel) (by decide +kernel) (by decide +kernel) _).mono ?_
      rintro e w' ⟨rfl, g, rfl⟩
      go_wp2_with (first | (go_at_call 22; (with_reducible refine (u_any _ _).mono ?_); rintro e w' ⟨rfl, g, rfl⟩) | (go_at_call 25; (with_reducible refine (i_any _ _).mono ?_); rintro e w' ⟨rfl, g, rfl⟩) | (go_at_call 24; (with_reducible refine (bool_any _).mono ?_); rintro e w' ⟨rfl, g, rfl⟩))
      refine (shift_big (x := 1) (by decide +kernel) (by decide +kernel) (by decide +kernel) _).mono ?_
      rintro e w' ⟨rfl, g, rfl⟩
      go_wp2_with (first | (go_at_call 22; (with_reducible refine (u_any _ _).mono ?_); rintro e w' ⟨rfl, g, rfl⟩) | (go_at_call 25; (with_reducible refine (i_any _ _).mono ?_); rintro e w' ⟨rfl, g, rfl⟩) | (go_at_call 24; (with_reducible refine (bool_any _).mono ?_); rintro e w' ⟨rfl, g, rfl⟩))
      refine (value_is (x := 9223372036854775808) (u := 0) (v := false) (by decide +kernel) (by decide +kernel) (by decide +kernel) (by decide +kernel) _).mono ?_
      rintro e w' ⟨rfl, g, rfl⟩
      go_wp2_with (first | (go_at_call 22; (with_reducible refine (u_any _ _).mono ?_); rintro e w' ⟨rfl, g, rfl⟩) | (go_at_call 25; (with_reducible refine (i_any _ _).mono ?_); rintro e w' ⟨rfl, g, rfl⟩) | (go_at_call 24; (with_reducible refine (bool_any _).mono ?_); rintro e w' ⟨rfl, g, rfl⟩))
      refine (value_is (x := 9223372036854775808) (u := -9223372036854775808) (v := true) (by decide +kernel) (by decide +kernel) (by decide +kernel) (by decide +kernel) _).mono ?_
      rintro e w' ⟨rfl, g, rfl⟩
      go_wp2_with (first | (go_at_call 22; (with_reducible refine (u_any _ _).mono ?_); rintro e w' ⟨rfl, g, rfl⟩) | (go_at_call 25; (with_reducible refine (i_any _ _).mono ?_); rintro e w' ⟨rfl, g, rfl⟩) | (go_at_call 24; (with_reducible refine (bool_any _).mono ?_); rintro e w' ⟨rfl, g, rfl⟩))
      refine (all_nil (v := 31) (by decide +kernel) (by decide +kernel) (by decide +kernel) _).mono ?_
      rintro e w' ⟨rfl, g, rfl⟩
      go_wp2_with (first | (go_at_call 22; (with_reducible refine (u_any _ _).mono ?_); rintro e w' ⟨rfl, g, rfl⟩) | (go_at_call 25; (with_reducible refine (i_any _ _).mono ?_); rintro e w' ⟨rfl, g, rfl⟩) | (go_at_call 24; (with_reducible refine (bool_any _).mono ?_); rintro e w' ⟨rfl, g, rfl⟩))
      refine (all_nil (v := 1) (by decide +kernel) (by decide +kernel) (by decide +kernel) _).mono ?_
      rintro e w' ⟨rfl, g, rfl⟩
      go_wp2_with (first | (go_at_call 22; (with_reducible refine (u_any _ _).mono ?_); rintro e w' ⟨rfl, g, rfl⟩) | (go_at_call 25; (with_reducible refine (i_any _ _).mono ?_); rintro e w' ⟨rfl, g, rfl⟩) | (go_at_call 24; (with_reducible refine (bool_any _).mono ?_); rintro e w' ⟨rfl, g, rfl⟩))
      refine (all_5 _).mono ?_
      rintro e w' ⟨rfl, g, rfl⟩
      rw [more_alloc_more]
      go_wp2_with (first | (go_at_call 22; (with_reducible refine (u_any _ _).mono ?_); rintro e w' ⟨rfl, g, rfl⟩) | (go_at_call 25; (with_reducible refine (i_any _ _).mono ?_); rintro e w' ⟨rfl, g, rfl⟩) | (go_at_call 24; (with_reducible refine (bool_any _).mono ?_); rintro e w' ⟨rfl, g, rfl⟩))
      refine (shift_bool (x := 1) (by decide +kernel) (by decide +kernel) _).mono ?_
      rintro e w' ⟨rfl, g, rfl⟩
      go_wp2_with (first | (go_at_call 22; (with_reducible refine (u_any _ _).mono ?_); rintro e w' ⟨rfl, g, rfl⟩) | (go_at_call 25; (with_reducible refine (i_any _ _).mono ?_); rintro e w' ⟨rfl, g, rfl⟩) | (go_at_call 24; (with_reducible refine (bool_any _).mono ?_); rintro e w' ⟨rfl, g, rfl⟩))
      refine (two_is (x := 9223372036854775808) (y := 3) (v := 9223372036854775808) (by decide +kernel) (by decide +kernel) (by decide +kernel) (by decide +kernel) (by decide +kernel) (by decide +kernel) _).mono ?_
      rintro e w' ⟨rfl, g, rfl⟩
      go_wp2_with (first | (go_at_call 22; (with_reducible refine (u_any _ _).mono ?_); rintro e w' ⟨rfl, g, rfl⟩) | (go_at_call 25; (with_reducible refine (i_any _ _).mono ?_); rintro e w' ⟨rfl, g, rfl⟩) | (go_at_call 24; (with_reducible refine (bool_any _).mono ?_); rintro e w' ⟨rfl, g, rfl⟩))
      refine (two_is (x := 1) (y := 0) (v := 1) (by decide +kernel) (by decide +kernel) (by decide +kernel) (by decide +kernel) (by decide +kernel) (by decide +kernel) _).mono ?_
      rintro e w' ⟨rfl, g, rfl⟩
      go_wp2_with (first | (go_at_call 12; (with_reducible refine (wakes_any _).mono ?_); rintro e w' ⟨rfl, g, rfl⟩))
      go_ret
      exact Ret.mk ((Later.refl _).more _)
end Go.Proofs.Ytihnemlnnjdagaa
