/-
  No statement of the seat is proved here. Contracts of package word's functions where they refuse.
-/
import Derived.Test.YtihnemlnnjdagaaAll
namespace Go.Proofs.Ytihnemlnnjdagaa
open Go Go.RowKit
set_option linter.unusedVariables false

theorem one_isf {b s : Bool} {op n x : Int} (h0 : 0 ≤ x) (hx64 : x < 18446744073709551616) (hx : Wd.isw b s n x = false) (w : World) : Calls Try.prog 21 #[.int .i64 op, .agg #[.bool b, .bool s, .int .i64 n], .int .u64 x] w (Ret w (.tuple #[.int .u64 0, .int .i64 1])) := by
  go_enter Try.func21, Try.ntmps21
  go_wp2_with (go_at_call 17; refine (is_is (by first | assumption | omega) (by first | assumption | omega) (by assumption) _).mono ?_; rintro e w' ⟨rfl, g, rfl⟩)
  go_ret2
  exact Ret.mk (((Later.refl _).alloc _).more _)
theorem one_op {b s : Bool} {op n x : Int} (h0 : 0 ≤ x) (hx : Wd.isw b s n x = true) (h1' : (op == 1) = false) (h2' : (op == 2) = false) (w : World) : Calls Try.prog 21 #[.int .i64 op, .agg #[.bool b, .bool s, .int .i64 n], .int .u64 x] w (Ret w (.tuple #[.int .u64 0, .int .i64 1])) := by
  have hm := Wd.isw_may hx
  obtain ⟨h1, h2⟩ := Wd.may_bd hm
  have hp2 := Wd.pw_le h2
  have hx' := Wd.isw_lt hx
  have hx64 : x < 18446744073709551616 := by omega
  go_enter Try.func21, Try.ntmps21
  go_wp2_with (go_at_call 17; refine (is_is (by first | assumption | omega) (by first | assumption | omega) (by assumption) _).mono ?_; rintro e w' ⟨rfl, g, rfl⟩)
  go_ret2
  exact Ret.mk (((Later.refl _).alloc _).more _)
theorem one_negbool {s : Bool} {n x : Int} (h0 : 0 ≤ x) (hx : Wd.isw true s n x = true) (w : World) : Calls Try.prog 21 #[.int .i64 2, .agg #[.bool true, .bool s, .int .i64 n], .int .u64 x] w (Ret w (.tuple #[.int .u64 0, .int .i64 1])) := by
  have hm := Wd.isw_may hx
  obtain ⟨h1, h2⟩ := Wd.may_bd hm
  have hp2 := Wd.pw_le h2
  have hx' := Wd.isw_lt hx
  have hx64 : x < 18446744073709551616 := by omega
  go_enter Try.func21, Try.ntmps21
  go_wp2_with (go_at_call 17; refine (is_is (by first | assumption | omega) (by first | assumption | omega) (by assumption) _).mono ?_; rintro e w' ⟨rfl, g, rfl⟩)
  go_ret2
  exact Ret.mk (((Later.refl _).alloc _).more _)
theorem two_isf {b s : Bool} {op n x y : Int} (h0 : 0 ≤ x) (hx64 : x < 18446744073709551616) (hx : Wd.isw b s n x = false) (w : World) : Calls Try.prog 13 #[.int .i64 op, .agg #[.bool b, .bool s, .int .i64 n], .int .u64 x, .int .u64 y] w (Ret w (.tuple #[.int .u64 0, .int .i64 1])) := by
  go_enter Try.func13, Try.ntmps13
  go_wp2_with (go_at_call 17; refine (is_is (by first | assumption | omega) (by first | assumption | omega) (by assumption) _).mono ?_; rintro e w' ⟨rfl, g, rfl⟩)
  go_ret2
  exact Ret.mk (((Later.refl _).alloc _).more _)
theorem two_13 {s : Bool} {n x y : Int} (h0 : 0 ≤ x) (hx : Wd.isw false s n x = true) (k0 : 0 ≤ y) (hy : Wd.isw false s n y = true) (w : World) : Calls Try.prog 13 #[.int .i64 13, .agg #[.bool false, .bool s, .int .i64 n], .int .u64 x, .int .u64 y] w (Ret w (.tuple #[.int .u64 0, .int .i64 1])) := by
  have hm := Wd.isw_may hx
  obtain ⟨h1, h2⟩ := Wd.may_bd hm
  have hp2 := Wd.pw_le h2
  have hx' := Wd.isw_lt hx
  have hx64 : x < 18446744073709551616 := by omega
  have hy' := Wd.isw_lt hy
  have hy64 : y < 18446744073709551616 := by omega
  go_enter Try.func13, Try.ntmps13
  go_wp2_with (go_at_call 17; refine (is_is (by first | assumption | omega) (by first | assumption | omega) (by assumption) _).mono ?_; rintro e w' ⟨rfl, g, rfl⟩)
  go_ret2
  exact Ret.mk (((Later.refl _).alloc _).more _)
theorem shift_isf {b s : Bool} {n x k : Int} (h0 : 0 ≤ x) (hx64 : x < 18446744073709551616) (hx : Wd.isw b s n x = false) (w : World) : Calls Try.prog 15 #[.agg #[.bool b, .bool s, .int .i64 n], .int .u64 x, .int .i64 k] w (Ret w (.tuple #[.int .u64 0, .int .i64 1])) := by
  go_enter Try.func15, Try.ntmps15
  go_wp2_with (go_at_call 17; refine (is_is (by first | assumption | omega) (by first | assumption | omega) (by assumption) _).mono ?_; rintro e w' ⟨rfl, g, rfl⟩)
  go_ret2
  exact Ret.mk (((Later.refl _).alloc _).more _)
theorem shift_bool {s : Bool} {n x k : Int} (h0 : 0 ≤ x) (hx : Wd.isw true s n x = true) (w : World) : Calls Try.prog 15 #[.agg #[.bool true, .bool s, .int .i64 n], .int .u64 x, .int .i64 k] w (Ret w (.tuple #[.int .u64 0, .int .i64 1])) := by
  have hm := Wd.isw_may hx
  obtain ⟨h1, h2⟩ := Wd.may_bd hm
  have hp2 := Wd.pw_le h2
  have hx' := Wd.isw_lt hx
  have hx64 : x < 18446744073709551616 := by omega
  go_enter Try.func15, Try.ntmps15
  go_wp2_with (go_at_call 17; refine (is_is (by first | assumption | omega) (by first | assumption | omega) (by assumption) _).mono ?_; rintro e w' ⟨rfl, g, rfl⟩)
  go_ret2
  exact Ret.mk (((Later.refl _).alloc _).more _)
theorem shift_big {s : Bool} {n x k : Int} (h0 : 0 ≤ x) (hx : Wd.isw false s n x = true) (hk : 63 < k) (w : World) : Calls Try.prog 15 #[.agg #[.bool false, .bool s, .int .i64 n], .int .u64 x, .int .i64 k] w (Ret w (.tuple #[.int .u64 0, .int .i64 1])) := by
  have hm := Wd.isw_may hx
  obtain ⟨h1, h2⟩ := Wd.may_bd hm
  have hp2 := Wd.pw_le h2
  have hx' := Wd.isw_lt hx
  have hx64 : x < 18446744073709551616 := by omega
  have hk2 : decide (k < -63) = false := by simp; omega
  go_enter Try.func15, Try.ntmps15
  go_wp2_with (go_at_call 17; refine (is_is (by first | assumption | omega) (by first | assumption | omega) (by assumption) _).mono ?_; rintro e w' ⟨rfl, g, rfl⟩)
  go_ret2
  exact Ret.mk (((Later.refl _).alloc _).more _)
theorem conv_isf {b s : Bool} {n : Int} {b' s' : Bool} {n' x : Int} (h0 : 0 ≤ x) (hx64 : x < 18446744073709551616) (hx : Wd.isw b s n x = false) (w : World) : Calls Try.prog 16 #[.agg #[.bool b, .bool s, .int .i64 n], .agg #[.bool b', .bool s', .int .i64 n'], .int .u64 x] w (Ret w (.tuple #[.int .u64 0, .int .i64 1])) := by
  go_enter Try.func16, Try.ntmps16
  go_wp2_with (go_at_call 17; refine (is_is (by first | assumption | omega) (by first | assumption | omega) (by assumption) _).mono ?_; rintro e w' ⟨rfl, g, rfl⟩)
  go_ret2
  exact Ret.mk ((((Later.refl _).alloc _).alloc _).more _)
theorem conv_tof {b s : Bool} {n : Int} {b' s' : Bool} {n' x : Int} (h0 : 0 ≤ x) (hx : Wd.isw b s n x = true) (hm' : Wd.may b' s' n' = false) (w : World) : Calls Try.prog 16 #[.agg #[.bool b, .bool s, .int .i64 n], .agg #[.bool b', .bool s', .int .i64 n'], .int .u64 x] w (Ret w (.tuple #[.int .u64 0, .int .i64 1])) := by
  have hm := Wd.isw_may hx
  obtain ⟨h1, h2⟩ := Wd.may_bd hm
  have hp2 := Wd.pw_le h2
  have hx' := Wd.isw_lt hx
  have hx64 : x < 18446744073709551616 := by omega
  go_enter Try.func16, Try.ntmps16
  go_wp2_with (first | (go_at_call 17; refine (is_is (by first | assumption | omega) (by first | assumption | omega) (by assumption) _).mono ?_; rintro e w' ⟨rfl, g, rfl⟩) | (go_at_call 23; refine (may_is hm' _).mono ?_; rintro e w' ⟨rfl, g, rfl⟩))
  go_ret2
  exact Ret.mk ((((Later.refl _).alloc _).alloc _).more _)
theorem all_5 {b s : Bool} {n : Int} {A : Option Addr} {l cap : Nat} (w : World) : Calls Try.prog 19 #[.int .i64 5, .agg #[.bool b, .bool s, .int .i64 n], .slice A l cap] w (Ret w (.tuple #[.int .u64 0, .int .i64 1])) := by
  go_enter Try.func19, Try.ntmps19
  go_wp2
  go_ret2
  exact Ret.mk ((Later.refl _).alloc _)
theorem all_isf {b s : Bool} {n : Int} {A : Option Addr} {l cap : Nat} (hm : Wd.may b s n = false) (w : World) : Calls Try.prog 19 #[.int .i64 1, .agg #[.bool b, .bool s, .int .i64 n], .slice A l cap] w (Ret w (.tuple #[.int .u64 0, .int .i64 1])) := by
  have h0 : Wd.isw b s n 0 = false := by simp [Wd.isw, hm]
  have hsg : IntKind.u64.signed = false := rfl
  go_enter Try.func19, Try.ntmps19
  go_wp2_with (first | (go_at_call 10; refine (cut_no _ _ _ _ hm _).mono ?_; rintro e w' ⟨rfl, g, rfl⟩) | (go_at_call 13; refine (two_isf (by omega) (by omega) h0 _).mono ?_; rintro e w' ⟨rfl, g, rfl⟩))
  go_ret2
  exact Ret.mk (((Later.refl _).alloc _).more _)
end Go.Proofs.Ytihnemlnnjdagaa
