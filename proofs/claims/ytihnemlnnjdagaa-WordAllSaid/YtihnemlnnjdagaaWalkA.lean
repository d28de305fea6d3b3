/-
  No statement of the seat is proved here. Contracts of word.May, ones, Is, Cut, for every type and number.
-/
import Derived.Test.YtihnemlnnjdagaaProg
import Derived.Test.YtihnemlnnjdagaaMore
import Derived.Test.YtihnemlnnjdagaaPlain
namespace Go.Proofs.Ytihnemlnnjdagaa
open Go Go.RowKit

theorem may_any (b s : Bool) (n : Int) (w : World) : Calls Try.prog 23 #[.agg #[.bool b, .bool s, .int .i64 n]] w (Ret w (.bool (Wd.may b s n))) := by
  cases b
  · by_cases h1 : 1 ≤ n
    · by_cases h2 : n ≤ 64
      all_goals
        go_enter Try.func23, Try.ntmps23
        go_wp2
        go_ret
        exact Ret.mk' (by simp [Wd.may, h1, h2]) ((Later.refl _).alloc _)
    · go_enter Try.func23, Try.ntmps23
      go_wp2
      go_ret
      exact Ret.mk' (by simp [Wd.may]; omega) ((Later.refl _).alloc _)
  · cases s
    all_goals
      go_enter Try.func23, Try.ntmps23
      go_wp2
      go_ret
      exact Ret.mk' (by simp [Wd.may]) ((Later.refl _).alloc _)
theorem may_is {b s : Bool} {n : Int} {v : Bool} (h : Wd.may b s n = v) (w : World) : Calls Try.prog 23 #[.agg #[.bool b, .bool s, .int .i64 n]] w (Ret w (.bool v)) := h ▸ may_any b s n w

theorem ones_any (b s : Bool) (n : Int) (h1 : 1 ≤ n) (h2 : n ≤ 64) (w : World) : Calls Try.prog 26 #[.agg #[.bool b, .bool s, .int .i64 n]] w (Ret w (.int .u64 (Wd.pw n - 1))) := by
  go_enter Try.func26, Try.ntmps26
  go_wp2
  go_ret
  exact Ret.mk' (congrArg (Value.int .u64) (Wd.ones_eq h1 h2)) ((Later.refl _).alloc _)

theorem is_any (b s : Bool) (n x : Int) (h0 : 0 ≤ x) (hx : x < 18446744073709551616) (w : World) : Calls Try.prog 17 #[.agg #[.bool b, .bool s, .int .i64 n], .int .u64 x] w (Ret w (.bool (Wd.isw b s n x))) := by
  cases hm : Wd.may b s n
  · have hr : Wd.isw b s n x = false := by simp [Wd.isw, hm]
    rw [hr]
    clear hr
    go_enter Try.func17, Try.ntmps17
    go_wp2_with (go_at_call 23; refine (may_is hm _).mono ?_; rintro e w' ⟨rfl, g, rfl⟩)
    go_ret
    exact Ret.mk (((Later.refl _).alloc _).more _)
  · have hb := Wd.may_bd hm
    obtain ⟨h1, h2⟩ := hb
    have hp := Wd.pw_pos n
    have hp2 := Wd.pw_le h2
    go_enter Try.func17, Try.ntmps17
    go_wp2_with (first | (go_at_call 23; refine (may_is hm _).mono ?_; rintro e w' ⟨rfl, g, rfl⟩) | (go_at_call 26; refine (ones_any _ _ _ h1 h2 _).mono ?_; rintro e w' ⟨rfl, g2, rfl⟩))
    go_ret
    exact Ret.mk' (congrArg Value.bool (Wd.is_test hm h0 hx)) (((Later.refl _).alloc _).more _)
theorem is_is {b s : Bool} {n x : Int} {v : Bool} (h0 : 0 ≤ x) (hx : x < 18446744073709551616) (h : Wd.isw b s n x = v) (w : World) : Calls Try.prog 17 #[.agg #[.bool b, .bool s, .int .i64 n], .int .u64 x] w (Ret w (.bool v)) := h ▸ is_any b s n x h0 hx w

theorem cut_yes (b s : Bool) (n x : Int) (hm : Wd.may b s n = true) (h0 : 0 ≤ x) (hx : x < 18446744073709551616) (w : World) : Calls Try.prog 10 #[.agg #[.bool b, .bool s, .int .i64 n], .int .u64 x] w (Ret w (.int .u64 (Wd.cut n x))) := by
  obtain ⟨h1, h2⟩ := Wd.may_bd hm
  have hp := Wd.pw_pos n
  have hp2 := Wd.pw_le h2
  go_enter Try.func10, Try.ntmps10
  go_wp2_with (first | (go_at_call 23; refine (may_is hm _).mono ?_; rintro e w' ⟨rfl, g, rfl⟩) | (go_at_call 26; refine (ones_any _ _ _ h1 h2 _).mono ?_; rintro e w' ⟨rfl, g2, rfl⟩))
  go_ret
  exact Ret.mk' (congrArg (Value.int .u64) (Wd.cut_mask h0 hx h2)) (((Later.refl _).alloc _).more _)
theorem cut_no (b s : Bool) (n x : Int) (hm : Wd.may b s n = false) (w : World) : Calls Try.prog 10 #[.agg #[.bool b, .bool s, .int .i64 n], .int .u64 x] w (Ret w (.int .u64 0)) := by
  go_enter Try.func10, Try.ntmps10
  go_wp2_with (go_at_call 23; refine (may_is hm _).mono ?_; rintro e w' ⟨rfl, g, rfl⟩)
  go_ret
  exact Ret.mk (((Later.refl _).alloc _).more _)

theorem wide_u (b : Bool) (n x : Int) (w : World) : Calls Try.prog 29 #[.agg #[.bool b, .bool false, .int .i64 n], .int .u64 x] w (Ret w (.int .u64 x)) := by
  go_enter Try.func29, Try.ntmps29
  go_wp2
  go_ret
  exact Ret.mk ((Later.refl _).alloc _)
theorem wide_s (b : Bool) (n x : Int) (h1 : 1 ≤ n) (h2 : n ≤ 64) (h0 : 0 ≤ x) (hx : x < Wd.pw n) (w : World) : Calls Try.prog 29 #[.agg #[.bool b, .bool true, .int .i64 n], .int .u64 x] w (Ret w (.int .u64 (Wd.wid true n x))) := by
  go_enter Try.func29, Try.ntmps29
  go_wp2
  go_ret
  exact Ret.mk' (congrArg (Value.int .u64) (Wd.wide_calc h1 h2 h0 hx)) ((Later.refl _).alloc _)

theorem wide_any (b s : Bool) (n x : Int) (h1 : 1 ≤ n) (h2 : n ≤ 64) (h0 : 0 ≤ x) (hx : x < Wd.pw n) (w : World) : Calls Try.prog 29 #[.agg #[.bool b, .bool s, .int .i64 n], .int .u64 x] w (Ret w (.int .u64 (Wd.wid s n x))) := by
  cases s
  · have hl := Wd.pw_le h2
    rw [Wd.wid_u h0 (by omega)]
    exact wide_u b n x w
  · exact wide_s b n x h1 h2 h0 hx w

theorem bit_any (v : Bool) (w : World) : Calls Try.prog 27 #[.bool v] w (Ret w (.tuple #[.int .u64 (bif v then 1 else 0), .int .i64 0])) := by
  cases v
  all_goals
    go_enter Try.func27, Try.ntmps27
    go_wp2
    go_ret2
    exact Ret.mk (Later.refl _)

theorem less_any (b s : Bool) (n x y : Int) (h1 : 1 ≤ n) (h2 : n ≤ 64) (h0 : 0 ≤ x) (hx : x < Wd.pw n) (k0 : 0 ≤ y) (hy : y < Wd.pw n) (w : World) : Calls Try.prog 28 #[.agg #[.bool b, .bool s, .int .i64 n], .int .u64 x, .int .u64 y] w (Ret w (.bool (Wd.less s n x y))) := by
  cases s
  · have e : Wd.less false n x y = decide (x < y) := by simp [Wd.less, Wd.sv]
    rw [e]
    clear e
    go_enter Try.func28, Try.ntmps28
    go_wp2
    all_goals (go_ret; exact Ret.mk' rfl ((Later.refl _).alloc _))
  · have e : Wd.less true n x y = decide (wrap64 (Wd.wid true n x) < wrap64 (Wd.wid true n y)) := by rw [Wd.wrap_wid h1 h2 h0 hx, Wd.wrap_wid h1 h2 k0 hy]; rfl
    have E := Lib.hid e
    clear e
    go_enter Try.func28, Try.ntmps28
    go_wp2_with fail
    refine wp_region_later (by kernel_rfl) (by kernel_rfl) ?_
    repeat (go_big_quiet_step ((go_at_call 29; refine quiet_of (wide_any _ _ _ _ h1 h2 (by assumption) (by assumption) _))))
    refine wpQuiet_nil ?_
    rintro _ ⟨g, rfl⟩
    go_wp2
    go_ret
    exact Ret.mk' (by rw [E.out]; rfl) (((Later.refl _).alloc _).more _)
end Go.Proofs.Ytihnemlnnjdagaa
