/-
  No statement of the seat is proved here. word.Convert refuses what is no bool into a bool.
-/
import Derived.Test.YtihnemlnnjdagaaTools
namespace Go.Proofs.Ytihnemlnnjdagaa
open Go Go.RowKit

theorem conv_err (s : Bool) (n x : Int) (h0 : 0 ≤ x) (hx : Wd.isw false s n x = true) (w : World) :
    Calls Try.prog 16 #[.agg #[.bool false, .bool s, .int .i64 n], .agg #[.bool true, .bool false, .int .i64 1], .int .u64 x] w (Ret w (.tuple #[.int .u64 0, .int .i64 1])) := by
  have hm0 := Wd.isw_may hx
  have hm : Wd.may true false 1 = true := rfl
  obtain ⟨h1, h2⟩ := Wd.may_bd hm0
  have hp2 := Wd.pw_le h2
  have hx' := Wd.isw_lt hx
  have hx64 : x < 18446744073709551616 := by omega
  go_enter Try.func16, Try.ntmps16
  go_wp2_with (first | (go_at_call 17; refine (is_is (by assumption) (by assumption) (by assumption) _).mono ?_; rintro e w' ⟨rfl, g, rfl⟩) | (go_at_call 23; refine (may_is hm _).mono ?_; rintro e w' ⟨rfl, g, rfl⟩))
  go_ret2
  exact Ret.mk ((((Later.refl _).alloc _).alloc _).more _)
end Go.Proofs.Ytihnemlnnjdagaa
