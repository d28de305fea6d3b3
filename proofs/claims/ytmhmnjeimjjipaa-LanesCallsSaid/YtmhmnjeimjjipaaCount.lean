/-
  No statement of the seat is proved here. bits.OnesCount64 and lanes.Count at three numbers.
-/
import Derived.Test.YtmhmnjeimjjipaaMore
import Derived.Test.YtmhmnjeimjjipaaProg
import Derived.IntWalk
import Derived.Handy
namespace Go.Proofs.Ytmhmnjeimjjipaa
open Go Go.RowKit
set_option linter.unusedVariables false

theorem ones_3 (w : World) : Calls Try.prog 31 #[.int .u64 11] w (Ret w (.int .i64 3)) := by
  go_enter Try.func31, Try.ntmps31
  go_wp2_with fail
  go_ret
  exact Ret.mk' (by kernel_rfl) (Later.refl _)
theorem count_3 (w : World) : Calls Try.prog 24 #[.int .u64 11] w (Ret w (.int .i64 3)) := by
  go_enter Try.func24, Try.ntmps24
  go_wp2_with (go_at_call 31; refine (ones_3 _).mono ?_; rintro e w' ⟨rfl, g, rfl⟩)
  go_ret
  exact Ret.mk ((Later.refl _).more _)
theorem ones_0 (w : World) : Calls Try.prog 31 #[.int .u64 0] w (Ret w (.int .i64 0)) := by
  go_enter Try.func31, Try.ntmps31
  go_wp2_with fail
  go_ret
  exact Ret.mk' (by kernel_rfl) (Later.refl _)
theorem count_0 (w : World) : Calls Try.prog 24 #[.int .u64 0] w (Ret w (.int .i64 0)) := by
  go_enter Try.func24, Try.ntmps24
  go_wp2_with (go_at_call 31; refine (ones_0 _).mono ?_; rintro e w' ⟨rfl, g, rfl⟩)
  go_ret
  exact Ret.mk ((Later.refl _).more _)
theorem ones_64 (w : World) : Calls Try.prog 31 #[.int .u64 18446744073709551615] w (Ret w (.int .i64 64)) := by
  go_enter Try.func31, Try.ntmps31
  go_wp2_with fail
  go_ret
  exact Ret.mk' (by kernel_rfl) (Later.refl _)
theorem count_64 (w : World) : Calls Try.prog 24 #[.int .u64 18446744073709551615] w (Ret w (.int .i64 64)) := by
  go_enter Try.func24, Try.ntmps24
  go_wp2_with (go_at_call 31; refine (ones_64 _).mono ?_; rintro e w' ⟨rfl, g, rfl⟩)
  go_ret
  exact Ret.mk ((Later.refl _).more _)
end Go.Proofs.Ytmhmnjeimjjipaa
