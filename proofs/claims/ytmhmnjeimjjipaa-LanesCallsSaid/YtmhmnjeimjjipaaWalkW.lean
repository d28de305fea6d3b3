/-
  No statement of the seat is proved here. Contracts of word.May, ones, Is, for every type and number.
-/
import Derived.Test.YtmhmnjeimjjipaaProg
import Derived.Test.YtmhmnjeimjjipaaMore
import Derived.Test.YtmhmnjeimjjipaaPlainW
namespace Go.Proofs.Ytmhmnjeimjjipaa
open Go Go.RowKit

theorem may_any (b s : Bool) (n : Int) (w : World) : Calls Try.prog 32 #[.agg #[.bool b, .bool s, .int .i64 n]] w (Ret w (.bool (Wd.may b s n))) := by
  cases b
  · by_cases h1 : 1 ≤ n
    · by_cases h2 : n ≤ 64
      all_goals
        go_enter Try.func32, Try.ntmps32
        go_wp2
        go_ret
        exact Ret.mk' (by simp [Wd.may, h1, h2]) ((Later.refl _).alloc _)
    · go_enter Try.func32, Try.ntmps32
      go_wp2
      go_ret
      exact Ret.mk' (by simp [Wd.may]; omega) ((Later.refl _).alloc _)
  · cases s
    all_goals
      go_enter Try.func32, Try.ntmps32
      go_wp2
      go_ret
      exact Ret.mk' (by simp [Wd.may]) ((Later.refl _).alloc _)
theorem may_is {b s : Bool} {n : Int} {v : Bool} (h : Wd.may b s n = v) (w : World) : Calls Try.prog 32 #[.agg #[.bool b, .bool s, .int .i64 n]] w (Ret w (.bool v)) := h ▸ may_any b s n w

theorem ones_any (b s : Bool) (n : Int) (h1 : 1 ≤ n) (h2 : n ≤ 64) (w : World) : Calls Try.prog 37 #[.agg #[.bool b, .bool s, .int .i64 n]] w (Ret w (.int .u64 (Wd.pw n - 1))) := by
  go_enter Try.func37, Try.ntmps37
  go_wp2
  go_ret
  exact Ret.mk' (congrArg (Value.int .u64) (Wd.ones_eq h1 h2)) ((Later.refl _).alloc _)

theorem is_any (b s : Bool) (n x : Int) (h0 : 0 ≤ x) (hx : x < 18446744073709551616) (w : World) : Calls Try.prog 35 #[.agg #[.bool b, .bool s, .int .i64 n], .int .u64 x] w (Ret w (.bool (Wd.isw b s n x))) := by
  cases hm : Wd.may b s n
  · have hr : Wd.isw b s n x = false := by simp [Wd.isw, hm]
    rw [hr]
    clear hr
    go_enter Try.func35, Try.ntmps35
    go_wp2_with (go_at_call 32; refine (may_is hm _).mono ?_; rintro e w' ⟨rfl, g, rfl⟩)
    go_ret
    exact Ret.mk (((Later.refl _).alloc _).more _)
  · have hb := Wd.may_bd hm
    obtain ⟨h1, h2⟩ := hb
    have hp := Wd.pw_pos n
    have hp2 := Wd.pw_le h2
    go_enter Try.func35, Try.ntmps35
    go_wp2_with (first | (go_at_call 32; refine (may_is hm _).mono ?_; rintro e w' ⟨rfl, g, rfl⟩) | (go_at_call 37; refine (ones_any _ _ _ h1 h2 _).mono ?_; rintro e w' ⟨rfl, g2, rfl⟩))
    go_ret
    exact Ret.mk' (congrArg Value.bool (Wd.is_test hm h0 hx)) (((Later.refl _).alloc _).more _)
theorem is_is {b s : Bool} {n x : Int} {v : Bool} (h0 : 0 ≤ x) (hx : x < 18446744073709551616) (h : Wd.isw b s n x = v) (w : World) : Calls Try.prog 35 #[.agg #[.bool b, .bool s, .int .i64 n], .int .u64 x] w (Ret w (.bool v)) := h ▸ is_any b s n x h0 hx w

end Go.Proofs.Ytmhmnjeimjjipaa
