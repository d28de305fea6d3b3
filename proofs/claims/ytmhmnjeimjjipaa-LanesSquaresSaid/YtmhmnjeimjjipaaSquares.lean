/-
  No statement of the seat is proved here. The walk of the law LanesSquares.
-/
import Derived.Test.YtmhmnjeimjjipaaWakes
namespace Go.Proofs.Ytmhmnjeimjjipaa
open Go Go.RowKit
set_option linter.unusedVariables false
set_option maxHeartbeats 2000000 in
theorem squares_walk (f : Nat → Int) (hf : ∀ i, i < 64 → 0 ≤ f i ∧ f i < 18446744073709551616) (w : World) : Calls Try.prog 3 #[.agg (arr f)] w (Ret w (.bool true)) := by
  obtain ⟨T, hT⟩ : ∃ T, Ln.trn f = T := ⟨_, rfl⟩
  have H1 : ∀ w, Calls Try.prog 9 #[.agg (arr f)] w (Ret w (.agg (arr T))) := fun w => hT ▸ turn_any f hf w
  have H2 : ∀ w, Calls Try.prog 10 #[.agg (arr f)] w (Ret w (.agg (arr T))) := fun w => hT ▸ rturn_any f hf w
  clear hT hf
  go_enter Try.func3, Try.ntmps3
  go_wp2_with fail
  refine wp_region_later (by kernel_rfl) (by kernel_rfl) ?_
  repeat (go_big_quiet_step (first | (go_at_call 9; with_reducible exact quiet_of (H1 _)) | (go_at_call 10; with_reducible exact quiet_of (H2 _)) | (go_at_call 11; with_reducible exact quiet_of (wakes_ok _))))
  refine wpQuiet_nil ?_
  rintro _ ⟨g, rfl⟩
  go_wp2_with fail
  go_ret
  exact Ret.mk (((Later.refl _).alloc _).more _)
end Go.Proofs.Ytmhmnjeimjjipaa
