/-
  No statement of the seat is proved here. The examples that every law asks ('wakes') hold.
-/
import Derived.Test.YtihnemlnnjdagaaWalkC
namespace Go.Proofs.Ytihnemlnnjdagaa
open Go Go.RowKit

theorem two_is {b s : Bool} {n op x y v : Int} (h0 : 0 ≤ x) (hx : Wd.isw b s n x = true) (k0 : 0 ≤ y) (hy : Wd.isw b s n y = true) (hop : Wd.okOp b op = true) (hv : Wd.twoV s n op x y = v) (w : World) :
    Calls Try.prog 13 #[.int .i64 op, .agg #[.bool b, .bool s, .int .i64 n], .int .u64 x, .int .u64 y] w (Ret w (.tuple #[.int .u64 v, .int .i64 0])) := hv ▸ two_ok b s n op x y h0 hx k0 hy hop w
theorem conv_is {b s : Bool} {n : Int} {b' s' : Bool} {n' x v : Int} (h0 : 0 ≤ x) (hx : Wd.isw b s n x = true) (hm : Wd.may b' s' n' = true) (hbb : (b' && !b) = false) (hv : Wd.cut n' (Wd.sv s n x) = v) (w : World) :
    Calls Try.prog 16 #[.agg #[.bool b, .bool s, .int .i64 n], .agg #[.bool b', .bool s', .int .i64 n'], .int .u64 x] w (Ret w (.tuple #[.int .u64 v, .int .i64 0])) := hv ▸ convert_yes b s n b' s' n' x h0 hx hm hbb w
theorem shift_any (s : Bool) (n x k : Int) (h0 : 0 ≤ x) (hx : Wd.isw false s n x = true) (hk0 : -63 ≤ k) (hk : k ≤ 63) (w : World) :
    Calls Try.prog 15 #[.agg #[.bool false, .bool s, .int .i64 n], .int .u64 x, .int .i64 k] w (Ret w (.tuple #[.int .u64 (Wd.shV s n x k), .int .i64 0])) := by
  by_cases hk1 : 0 ≤ k
  · exact shift_up s n x k h0 hx hk1 hk w
  · cases s
    · exact shift_dn_u n x k h0 hx (by omega) hk0 w
    · exact shift_dn_s n x k h0 hx (by omega) hk0 w
theorem shift_is {s : Bool} {n x k v : Int} (h0 : 0 ≤ x) (hx : Wd.isw false s n x = true) (hk0 : -63 ≤ k) (hk : k ≤ 63) (hv : Wd.shV s n x k = v) (w : World) :
    Calls Try.prog 15 #[.agg #[.bool false, .bool s, .int .i64 n], .int .u64 x, .int .i64 k] w (Ret w (.tuple #[.int .u64 v, .int .i64 0])) := hv ▸ shift_any s n x k h0 hx hk0 hk w
theorem neg_is {s : Bool} {n x v : Int} (h0 : 0 ≤ x) (hx : Wd.isw false s n x = true) (hv : Wd.oneV n 2 x = v) (w : World) :
    Calls Try.prog 21 #[.int .i64 2, .agg #[.bool false, .bool s, .int .i64 n], .int .u64 x] w (Ret w (.tuple #[.int .u64 v, .int .i64 0])) := hv ▸ one_neg s n x h0 hx w

set_option maxHeartbeats 1000000 in
theorem wakes_any (w : World) : Calls Try.prog 12 #[] w (Ret w (.bool true)) := by
  go_enter Try.func12, Try.ntmps12
  go_wp2_with (first | (go_at_call 22; refine (u_any _ _).mono ?_; rintro e w' ⟨rfl, g, rfl⟩) | (go_at_call 25; refine (i_any _ _).mono ?_; rintro e w' ⟨rfl, g, rfl⟩))
  refine (two_is (v := 44) (by decide +kernel) (by decide +kernel) (by decide +kernel) (by decide +kernel) (by decide +kernel) (by decide +kernel) _).mono ?_
  rintro e w' ⟨rfl, g, rfl⟩
  go_wp2_with (first | (go_at_call 22; refine (u_any _ _).mono ?_; rintro e w' ⟨rfl, g, rfl⟩) | (go_at_call 25; refine (i_any _ _).mono ?_; rintro e w' ⟨rfl, g, rfl⟩))
  refine (two_is (v := 255) (by decide +kernel) (by decide +kernel) (by decide +kernel) (by decide +kernel) (by decide +kernel) (by decide +kernel) _).mono ?_
  rintro e w' ⟨rfl, g, rfl⟩
  go_wp2_with (first | (go_at_call 22; refine (u_any _ _).mono ?_; rintro e w' ⟨rfl, g, rfl⟩) | (go_at_call 25; refine (i_any _ _).mono ?_; rintro e w' ⟨rfl, g, rfl⟩))
  refine (two_is (v := 44) (by decide +kernel) (by decide +kernel) (by decide +kernel) (by decide +kernel) (by decide +kernel) (by decide +kernel) _).mono ?_
  rintro e w' ⟨rfl, g, rfl⟩
  go_wp2_with (first | (go_at_call 22; refine (u_any _ _).mono ?_; rintro e w' ⟨rfl, g, rfl⟩) | (go_at_call 25; refine (i_any _ _).mono ?_; rintro e w' ⟨rfl, g, rfl⟩))
  refine (two_is (v := 1) (by decide +kernel) (by decide +kernel) (by decide +kernel) (by decide +kernel) (by decide +kernel) (by decide +kernel) _).mono ?_
  rintro e w' ⟨rfl, g, rfl⟩
  go_wp2_with (first | (go_at_call 22; refine (u_any _ _).mono ?_; rintro e w' ⟨rfl, g, rfl⟩) | (go_at_call 25; refine (i_any _ _).mono ?_; rintro e w' ⟨rfl, g, rfl⟩))
  refine (neg_is (v := 128) (by decide +kernel) (by decide +kernel) (by decide +kernel) _).mono ?_
  rintro e w' ⟨rfl, g, rfl⟩
  go_wp2_with (first | (go_at_call 22; refine (u_any _ _).mono ?_; rintro e w' ⟨rfl, g, rfl⟩) | (go_at_call 25; refine (i_any _ _).mono ?_; rintro e w' ⟨rfl, g, rfl⟩))
  refine (shift_is (v := 192) (by decide +kernel) (by decide +kernel) (by decide +kernel) (by decide +kernel) (by decide +kernel) _).mono ?_
  rintro e w' ⟨rfl, g, rfl⟩
  go_wp2_with (first | (go_at_call 22; refine (u_any _ _).mono ?_; rintro e w' ⟨rfl, g, rfl⟩) | (go_at_call 25; refine (i_any _ _).mono ?_; rintro e w' ⟨rfl, g, rfl⟩))
  refine (shift_is (v := 2) (by decide +kernel) (by decide +kernel) (by decide +kernel) (by decide +kernel) (by decide +kernel) _).mono ?_
  rintro e w' ⟨rfl, g, rfl⟩
  go_wp2_with (first | (go_at_call 22; refine (u_any _ _).mono ?_; rintro e w' ⟨rfl, g, rfl⟩) | (go_at_call 25; refine (i_any _ _).mono ?_; rintro e w' ⟨rfl, g, rfl⟩))
  refine (conv_is (v := 65535) (by decide +kernel) (by decide +kernel) (by decide +kernel) (by decide +kernel) (by decide +kernel) _).mono ?_
  rintro e w' ⟨rfl, g, rfl⟩
  go_wp2_with (first | (go_at_call 22; refine (u_any _ _).mono ?_; rintro e w' ⟨rfl, g, rfl⟩) | (go_at_call 25; refine (i_any _ _).mono ?_; rintro e w' ⟨rfl, g, rfl⟩))
  refine (conv_is (v := 44) (by decide +kernel) (by decide +kernel) (by decide +kernel) (by decide +kernel) (by decide +kernel) _).mono ?_
  rintro e w' ⟨rfl, g, rfl⟩
  go_wp2
  go_ret
  exact Ret.mk ((Later.refl _).more _)
end Go.Proofs.Ytihnemlnnjdagaa
