/-
  No statement of the seat is proved here. Contracts of word.Two, for every op, type and words; of word.Value, One, Shift, Convert at words.
-/
import Derived.Test.YtihnemlnnjdagaaWalkA
namespace Go.Proofs.Ytihnemlnnjdagaa
open Go Go.RowKit

section
variable (b s : Bool) (n x y : Int) (h0 : 0 ≤ x) (hx : Wd.isw b s n x = true) (k0 : 0 ≤ y) (hy : Wd.isw b s n y = true) (w : World)
include h0 hx k0 hy
set_option linter.unusedVariables false in
theorem two_1 : Calls Try.prog 13 #[.int .i64 1, .agg #[.bool b, .bool s, .int .i64 n], .int .u64 x, .int .u64 y] w (Ret w (.tuple #[.int .u64 (Wd.twoV s n 1 x y), .int .i64 0])) := by
  have hm := Wd.isw_may hx
  obtain ⟨h1, h2⟩ := Wd.may_bd hm
  have hp2 := Wd.pw_le h2
  have hx' := Wd.isw_lt hx
  have hy' := Wd.isw_lt hy
  have hx64 : x < 18446744073709551616 := by omega
  have hy64 : y < 18446744073709551616 := by omega
  go_enter Try.func13, Try.ntmps13
  go_wp2_with (first | (go_at_call 17; refine (is_is (by assumption) (by assumption) (by assumption) _).mono ?_; rintro e w' ⟨rfl, g, rfl⟩) | (go_at_call 10; refine (cut_yes _ _ _ _ hm (by exact (Wd.wrap_bd _).1) (by exact (Wd.wrap_bd _).2) _).mono ?_; rintro e w' ⟨rfl, g, rfl⟩) | (go_at_call 28; refine (less_any _ _ _ _ _ h1 h2 (by assumption) (by assumption) (by assumption) (by assumption) _).mono ?_; rintro e w' ⟨rfl, g, rfl⟩) | (go_at_call 27; refine (bit_any _ _).mono ?_; rintro e w' ⟨rfl, g, rfl⟩))
  go_ret2
  exact Ret.mk' (congrArg (fun v => Value.tuple #[.int .u64 v, .int .i64 0]) (Wd.bitsAnd h0 hx64 k0 hy64)) (((Later.refl _).alloc _).more _)
set_option linter.unusedVariables false in
theorem two_2 : Calls Try.prog 13 #[.int .i64 2, .agg #[.bool b, .bool s, .int .i64 n], .int .u64 x, .int .u64 y] w (Ret w (.tuple #[.int .u64 (Wd.twoV s n 2 x y), .int .i64 0])) := by
  have hm := Wd.isw_may hx
  obtain ⟨h1, h2⟩ := Wd.may_bd hm
  have hp2 := Wd.pw_le h2
  have hx' := Wd.isw_lt hx
  have hy' := Wd.isw_lt hy
  have hx64 : x < 18446744073709551616 := by omega
  have hy64 : y < 18446744073709551616 := by omega
  go_enter Try.func13, Try.ntmps13
  go_wp2_with (first | (go_at_call 17; refine (is_is (by assumption) (by assumption) (by assumption) _).mono ?_; rintro e w' ⟨rfl, g, rfl⟩) | (go_at_call 10; refine (cut_yes _ _ _ _ hm (by exact (Wd.wrap_bd _).1) (by exact (Wd.wrap_bd _).2) _).mono ?_; rintro e w' ⟨rfl, g, rfl⟩) | (go_at_call 28; refine (less_any _ _ _ _ _ h1 h2 (by assumption) (by assumption) (by assumption) (by assumption) _).mono ?_; rintro e w' ⟨rfl, g, rfl⟩) | (go_at_call 27; refine (bit_any _ _).mono ?_; rintro e w' ⟨rfl, g, rfl⟩))
  go_ret2
  exact Ret.mk' (congrArg (fun v => Value.tuple #[.int .u64 v, .int .i64 0]) (Wd.bitsOr h0 hx64 k0 hy64)) (((Later.refl _).alloc _).more _)
set_option linter.unusedVariables false in
theorem two_3 : Calls Try.prog 13 #[.int .i64 3, .agg #[.bool b, .bool s, .int .i64 n], .int .u64 x, .int .u64 y] w (Ret w (.tuple #[.int .u64 (Wd.twoV s n 3 x y), .int .i64 0])) := by
  have hm := Wd.isw_may hx
  obtain ⟨h1, h2⟩ := Wd.may_bd hm
  have hp2 := Wd.pw_le h2
  have hx' := Wd.isw_lt hx
  have hy' := Wd.isw_lt hy
  have hx64 : x < 18446744073709551616 := by omega
  have hy64 : y < 18446744073709551616 := by omega
  go_enter Try.func13, Try.ntmps13
  go_wp2_with (first | (go_at_call 17; refine (is_is (by assumption) (by assumption) (by assumption) _).mono ?_; rintro e w' ⟨rfl, g, rfl⟩) | (go_at_call 10; refine (cut_yes _ _ _ _ hm (by exact (Wd.wrap_bd _).1) (by exact (Wd.wrap_bd _).2) _).mono ?_; rintro e w' ⟨rfl, g, rfl⟩) | (go_at_call 28; refine (less_any _ _ _ _ _ h1 h2 (by assumption) (by assumption) (by assumption) (by assumption) _).mono ?_; rintro e w' ⟨rfl, g, rfl⟩) | (go_at_call 27; refine (bit_any _ _).mono ?_; rintro e w' ⟨rfl, g, rfl⟩))
  go_ret2
  exact Ret.mk' (congrArg (fun v => Value.tuple #[.int .u64 v, .int .i64 0]) (Wd.bitsXor h0 hx64 k0 hy64)) (((Later.refl _).alloc _).more _)
set_option linter.unusedVariables false in
theorem two_7 : Calls Try.prog 13 #[.int .i64 7, .agg #[.bool b, .bool s, .int .i64 n], .int .u64 x, .int .u64 y] w (Ret w (.tuple #[.int .u64 (Wd.twoV s n 7 x y), .int .i64 0])) := by
  have hm := Wd.isw_may hx
  obtain ⟨h1, h2⟩ := Wd.may_bd hm
  have hp2 := Wd.pw_le h2
  have hx' := Wd.isw_lt hx
  have hy' := Wd.isw_lt hy
  have hx64 : x < 18446744073709551616 := by omega
  have hy64 : y < 18446744073709551616 := by omega
  go_enter Try.func13, Try.ntmps13
  go_wp2_with (first | (go_at_call 17; refine (is_is (by assumption) (by assumption) (by assumption) _).mono ?_; rintro e w' ⟨rfl, g, rfl⟩) | (go_at_call 10; refine (cut_yes _ _ _ _ hm (by exact (Wd.wrap_bd _).1) (by exact (Wd.wrap_bd _).2) _).mono ?_; rintro e w' ⟨rfl, g, rfl⟩) | (go_at_call 28; refine (less_any _ _ _ _ _ h1 h2 (by assumption) (by assumption) (by assumption) (by assumption) _).mono ?_; rintro e w' ⟨rfl, g, rfl⟩) | (go_at_call 27; refine (bit_any _ _).mono ?_; rintro e w' ⟨rfl, g, rfl⟩))
  go_ret2
  exact Ret.mk' rfl (((Later.refl _).alloc _).more _)
set_option linter.unusedVariables false in
theorem two_8 : Calls Try.prog 13 #[.int .i64 8, .agg #[.bool b, .bool s, .int .i64 n], .int .u64 x, .int .u64 y] w (Ret w (.tuple #[.int .u64 (Wd.twoV s n 8 x y), .int .i64 0])) := by
  have hm := Wd.isw_may hx
  obtain ⟨h1, h2⟩ := Wd.may_bd hm
  have hp2 := Wd.pw_le h2
  have hx' := Wd.isw_lt hx
  have hy' := Wd.isw_lt hy
  have hx64 : x < 18446744073709551616 := by omega
  have hy64 : y < 18446744073709551616 := by omega
  go_enter Try.func13, Try.ntmps13
  go_wp2_with (first | (go_at_call 17; refine (is_is (by assumption) (by assumption) (by assumption) _).mono ?_; rintro e w' ⟨rfl, g, rfl⟩) | (go_at_call 10; refine (cut_yes _ _ _ _ hm (by exact (Wd.wrap_bd _).1) (by exact (Wd.wrap_bd _).2) _).mono ?_; rintro e w' ⟨rfl, g, rfl⟩) | (go_at_call 28; refine (less_any _ _ _ _ _ h1 h2 (by assumption) (by assumption) (by assumption) (by assumption) _).mono ?_; rintro e w' ⟨rfl, g, rfl⟩) | (go_at_call 27; refine (bit_any _ _).mono ?_; rintro e w' ⟨rfl, g, rfl⟩))
  go_ret2
  exact Ret.mk' rfl (((Later.refl _).alloc _).more _)
set_option linter.unusedVariables false in
theorem two_4 (hb : b = false) : Calls Try.prog 13 #[.int .i64 4, .agg #[.bool b, .bool s, .int .i64 n], .int .u64 x, .int .u64 y] w (Ret w (.tuple #[.int .u64 (Wd.twoV s n 4 x y), .int .i64 0])) := by
  have hm := Wd.isw_may hx
  obtain ⟨h1, h2⟩ := Wd.may_bd hm
  have hp2 := Wd.pw_le h2
  have hx' := Wd.isw_lt hx
  have hy' := Wd.isw_lt hy
  have hx64 : x < 18446744073709551616 := by omega
  have hy64 : y < 18446744073709551616 := by omega
  subst hb
  go_enter Try.func13, Try.ntmps13
  go_wp2_with (first | (go_at_call 17; refine (is_is (by assumption) (by assumption) (by assumption) _).mono ?_; rintro e w' ⟨rfl, g, rfl⟩) | (go_at_call 10; refine (cut_yes _ _ _ _ hm (by exact (Wd.wrap_bd _).1) (by exact (Wd.wrap_bd _).2) _).mono ?_; rintro e w' ⟨rfl, g, rfl⟩) | (go_at_call 28; refine (less_any _ _ _ _ _ h1 h2 (by assumption) (by assumption) (by assumption) (by assumption) _).mono ?_; rintro e w' ⟨rfl, g, rfl⟩) | (go_at_call 27; refine (bit_any _ _).mono ?_; rintro e w' ⟨rfl, g, rfl⟩))
  go_ret2
  exact Ret.mk' (congrArg (fun v => Value.tuple #[.int .u64 v, .int .i64 0]) (Wd.cut_wrap h1 h2 _)) (((Later.refl _).alloc _).more _)
set_option linter.unusedVariables false in
theorem two_5 (hb : b = false) : Calls Try.prog 13 #[.int .i64 5, .agg #[.bool b, .bool s, .int .i64 n], .int .u64 x, .int .u64 y] w (Ret w (.tuple #[.int .u64 (Wd.twoV s n 5 x y), .int .i64 0])) := by
  have hm := Wd.isw_may hx
  obtain ⟨h1, h2⟩ := Wd.may_bd hm
  have hp2 := Wd.pw_le h2
  have hx' := Wd.isw_lt hx
  have hy' := Wd.isw_lt hy
  have hx64 : x < 18446744073709551616 := by omega
  have hy64 : y < 18446744073709551616 := by omega
  subst hb
  go_enter Try.func13, Try.ntmps13
  go_wp2_with (first | (go_at_call 17; refine (is_is (by assumption) (by assumption) (by assumption) _).mono ?_; rintro e w' ⟨rfl, g, rfl⟩) | (go_at_call 10; refine (cut_yes _ _ _ _ hm (by exact (Wd.wrap_bd _).1) (by exact (Wd.wrap_bd _).2) _).mono ?_; rintro e w' ⟨rfl, g, rfl⟩) | (go_at_call 28; refine (less_any _ _ _ _ _ h1 h2 (by assumption) (by assumption) (by assumption) (by assumption) _).mono ?_; rintro e w' ⟨rfl, g, rfl⟩) | (go_at_call 27; refine (bit_any _ _).mono ?_; rintro e w' ⟨rfl, g, rfl⟩))
  go_ret2
  exact Ret.mk' (congrArg (fun v => Value.tuple #[.int .u64 v, .int .i64 0]) (Wd.cut_wrap h1 h2 _)) (((Later.refl _).alloc _).more _)
set_option linter.unusedVariables false in
theorem two_6 (hb : b = false) : Calls Try.prog 13 #[.int .i64 6, .agg #[.bool b, .bool s, .int .i64 n], .int .u64 x, .int .u64 y] w (Ret w (.tuple #[.int .u64 (Wd.twoV s n 6 x y), .int .i64 0])) := by
  have hm := Wd.isw_may hx
  obtain ⟨h1, h2⟩ := Wd.may_bd hm
  have hp2 := Wd.pw_le h2
  have hx' := Wd.isw_lt hx
  have hy' := Wd.isw_lt hy
  have hx64 : x < 18446744073709551616 := by omega
  have hy64 : y < 18446744073709551616 := by omega
  subst hb
  go_enter Try.func13, Try.ntmps13
  go_wp2_with (first | (go_at_call 17; refine (is_is (by assumption) (by assumption) (by assumption) _).mono ?_; rintro e w' ⟨rfl, g, rfl⟩) | (go_at_call 10; refine (cut_yes _ _ _ _ hm (by exact (Wd.wrap_bd _).1) (by exact (Wd.wrap_bd _).2) _).mono ?_; rintro e w' ⟨rfl, g, rfl⟩) | (go_at_call 28; refine (less_any _ _ _ _ _ h1 h2 (by assumption) (by assumption) (by assumption) (by assumption) _).mono ?_; rintro e w' ⟨rfl, g, rfl⟩) | (go_at_call 27; refine (bit_any _ _).mono ?_; rintro e w' ⟨rfl, g, rfl⟩))
  go_ret2
  exact Ret.mk' (congrArg (fun v => Value.tuple #[.int .u64 v, .int .i64 0]) (Wd.cut_wrap h1 h2 _)) (((Later.refl _).alloc _).more _)
set_option linter.unusedVariables false in
theorem two_9 (hb : b = false) : Calls Try.prog 13 #[.int .i64 9, .agg #[.bool b, .bool s, .int .i64 n], .int .u64 x, .int .u64 y] w (Ret w (.tuple #[.int .u64 (Wd.twoV s n 9 x y), .int .i64 0])) := by
  have hm := Wd.isw_may hx
  obtain ⟨h1, h2⟩ := Wd.may_bd hm
  have hp2 := Wd.pw_le h2
  have hx' := Wd.isw_lt hx
  have hy' := Wd.isw_lt hy
  have hx64 : x < 18446744073709551616 := by omega
  have hy64 : y < 18446744073709551616 := by omega
  subst hb
  go_enter Try.func13, Try.ntmps13
  go_wp2_with (first | (go_at_call 17; refine (is_is (by assumption) (by assumption) (by assumption) _).mono ?_; rintro e w' ⟨rfl, g, rfl⟩) | (go_at_call 10; refine (cut_yes _ _ _ _ hm (by exact (Wd.wrap_bd _).1) (by exact (Wd.wrap_bd _).2) _).mono ?_; rintro e w' ⟨rfl, g, rfl⟩) | (go_at_call 28; refine (less_any _ _ _ _ _ h1 h2 (by assumption) (by assumption) (by assumption) (by assumption) _).mono ?_; rintro e w' ⟨rfl, g, rfl⟩) | (go_at_call 27; refine (bit_any _ _).mono ?_; rintro e w' ⟨rfl, g, rfl⟩))
  go_ret2
  exact Ret.mk' rfl (((Later.refl _).alloc _).more _)
set_option linter.unusedVariables false in
theorem two_10 (hb : b = false) : Calls Try.prog 13 #[.int .i64 10, .agg #[.bool b, .bool s, .int .i64 n], .int .u64 x, .int .u64 y] w (Ret w (.tuple #[.int .u64 (Wd.twoV s n 10 x y), .int .i64 0])) := by
  have hm := Wd.isw_may hx
  obtain ⟨h1, h2⟩ := Wd.may_bd hm
  have hp2 := Wd.pw_le h2
  have hx' := Wd.isw_lt hx
  have hy' := Wd.isw_lt hy
  have hx64 : x < 18446744073709551616 := by omega
  have hy64 : y < 18446744073709551616 := by omega
  subst hb
  go_enter Try.func13, Try.ntmps13
  go_wp2_with (first | (go_at_call 17; refine (is_is (by assumption) (by assumption) (by assumption) _).mono ?_; rintro e w' ⟨rfl, g, rfl⟩) | (go_at_call 10; refine (cut_yes _ _ _ _ hm (by exact (Wd.wrap_bd _).1) (by exact (Wd.wrap_bd _).2) _).mono ?_; rintro e w' ⟨rfl, g, rfl⟩) | (go_at_call 28; refine (less_any _ _ _ _ _ h1 h2 (by assumption) (by assumption) (by assumption) (by assumption) _).mono ?_; rintro e w' ⟨rfl, g, rfl⟩) | (go_at_call 27; refine (bit_any _ _).mono ?_; rintro e w' ⟨rfl, g, rfl⟩))
  go_ret2
  exact Ret.mk' (congrArg (fun v => Value.tuple #[.int .u64 v, .int .i64 0]) (Wd.b2i_not _)) (((Later.refl _).alloc _).more _)
set_option linter.unusedVariables false in
theorem two_11 (hb : b = false) : Calls Try.prog 13 #[.int .i64 11, .agg #[.bool b, .bool s, .int .i64 n], .int .u64 x, .int .u64 y] w (Ret w (.tuple #[.int .u64 (Wd.twoV s n 11 x y), .int .i64 0])) := by
  have hm := Wd.isw_may hx
  obtain ⟨h1, h2⟩ := Wd.may_bd hm
  have hp2 := Wd.pw_le h2
  have hx' := Wd.isw_lt hx
  have hy' := Wd.isw_lt hy
  have hx64 : x < 18446744073709551616 := by omega
  have hy64 : y < 18446744073709551616 := by omega
  subst hb
  go_enter Try.func13, Try.ntmps13
  go_wp2_with (first | (go_at_call 17; refine (is_is (by assumption) (by assumption) (by assumption) _).mono ?_; rintro e w' ⟨rfl, g, rfl⟩) | (go_at_call 10; refine (cut_yes _ _ _ _ hm (by exact (Wd.wrap_bd _).1) (by exact (Wd.wrap_bd _).2) _).mono ?_; rintro e w' ⟨rfl, g, rfl⟩) | (go_at_call 28; refine (less_any _ _ _ _ _ h1 h2 (by assumption) (by assumption) (by assumption) (by assumption) _).mono ?_; rintro e w' ⟨rfl, g, rfl⟩) | (go_at_call 27; refine (bit_any _ _).mono ?_; rintro e w' ⟨rfl, g, rfl⟩))
  go_ret2
  exact Ret.mk' rfl (((Later.refl _).alloc _).more _)
set_option linter.unusedVariables false in
theorem two_12 (hb : b = false) : Calls Try.prog 13 #[.int .i64 12, .agg #[.bool b, .bool s, .int .i64 n], .int .u64 x, .int .u64 y] w (Ret w (.tuple #[.int .u64 (Wd.twoV s n 12 x y), .int .i64 0])) := by
  have hm := Wd.isw_may hx
  obtain ⟨h1, h2⟩ := Wd.may_bd hm
  have hp2 := Wd.pw_le h2
  have hx' := Wd.isw_lt hx
  have hy' := Wd.isw_lt hy
  have hx64 : x < 18446744073709551616 := by omega
  have hy64 : y < 18446744073709551616 := by omega
  subst hb
  go_enter Try.func13, Try.ntmps13
  go_wp2_with (first | (go_at_call 17; refine (is_is (by assumption) (by assumption) (by assumption) _).mono ?_; rintro e w' ⟨rfl, g, rfl⟩) | (go_at_call 10; refine (cut_yes _ _ _ _ hm (by exact (Wd.wrap_bd _).1) (by exact (Wd.wrap_bd _).2) _).mono ?_; rintro e w' ⟨rfl, g, rfl⟩) | (go_at_call 28; refine (less_any _ _ _ _ _ h1 h2 (by assumption) (by assumption) (by assumption) (by assumption) _).mono ?_; rintro e w' ⟨rfl, g, rfl⟩) | (go_at_call 27; refine (bit_any _ _).mono ?_; rintro e w' ⟨rfl, g, rfl⟩))
  go_ret2
  exact Ret.mk' (congrArg (fun v => Value.tuple #[.int .u64 v, .int .i64 0]) (Wd.b2i_not _)) (((Later.refl _).alloc _).more _)
end
end Go.Proofs.Ytihnemlnnjdagaa
