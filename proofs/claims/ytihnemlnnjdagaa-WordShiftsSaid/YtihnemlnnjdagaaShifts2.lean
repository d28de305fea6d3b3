/-
  No statement of the seat is proved here. The walk of WordShifts, at every case of its tests.
-/
import Derived.Test.YtihnemlnnjdagaaWakes
import Derived.Test.YtihnemlnnjdagaaTools
namespace Go.Proofs.Ytihnemlnnjdagaa
open Go Go.RowKit
set_option linter.unusedVariables false

set_option maxRecDepth 100000 in
set_option maxHeartbeats 2000000 in
theorem shifts_w64f (b : Bool) (s0 : Bool) (s : Bool) (n a j k N A UP AL DN LW PJ U E : Int) (hs : s0 = s) (ha : 0 ≤ a) (hax : a < 18446744073709551616) (hj0 : 0 ≤ j) (hj : j ≤ 255) (hk0 : 0 ≤ k) (hk : k ≤ 255)
    (hN : 1 + n % 64 = N) (hm : Wd.may false s N = true) (eA : Wd.cut N a = A) (ha0 : 0 ≤ A) (hA : Wd.isw false s N A = true) (hpw0 : 1 ≤ (2 : Int) ^ (j % 32).toNat) (hpw1 : (2 : Int) ^ (j % 32).toNat ≤ 18446744073709551615)
    (eUp : Wd.shV s N A (j % 32) = UP) (eMore : Wd.shV s N UP (k % 32) = AL) (eAll : Wd.shV s N A ((j % 32) + (k % 32)) = AL) (eDn : Wd.shV s N A (-(j % 32)) = DN) (eLw : Wd.shV s N DN (-(k % 32)) = LW) (eLs : Wd.shV s N A (-(j % 32) - (k % 32)) = LW) (eBk : Wd.shV s N DN (j % 32) = (bits BinOp.andNot IntKind.u64 A (2 ^ (j % 32).toNat - 1))) (eP : Wd.cut N (2 ^ (j % 32).toNat) = PJ) (hPJ0 : 0 ≤ PJ) (hPJ : Wd.isw false s N PJ = true) (eMul : Wd.twoV s N 6 A PJ = UP) (hUP0 : 0 ≤ UP) (hUP : Wd.isw false s N UP = true) (hDN0 : 0 ≤ DN) (hDN : Wd.isw false s N DN = true) (hp : Wd.hld s A = false) (hu : Wd.val s N A = U) (hw64 : (N == 64) = true) (eE : Wd.shV s N A (-63) = E) (w : World) :
    Calls Try.prog 4 #[.agg #[.bool b, .bool s0, .int .i64 n], .int .u64 a, .agg #[.int .u8 j, .int .u8 k]] w (Ret w (.bool true)) := by
  subst hs
  have HN := Lib.hid hN
  clear hN
  go_enter Try.func4, Try.ntmps4
  go_wp2_with (first | (go_at_call 9; refine (made_is HN.out _).mono ?_; rintro e w' ⟨rfl, g, rfl⟩) | (go_at_call 10; (with_reducible refine (cut_is hm ha hax eA _).mono ?_); rintro e w' ⟨rfl, g, rfl⟩))
  refine wp_region_more (by kernel_rfl) (by kernel_rfl) ?_
  repeat (go_big_quiet_step (fail))
  refine wpQuiet_nil ?_
  rintro _ ⟨g, rfl⟩
  go_wp2_with (first | (go_at_call 15; (with_reducible refine (shift_is ha0 hA (by omega) (by omega) eUp _).mono ?_); rintro e w' ⟨rfl, g, rfl⟩) | (go_at_call 15; (with_reducible refine (shift_is hUP0 hUP (by omega) (by omega) eMore _).mono ?_); rintro e w' ⟨rfl, g, rfl⟩) | (go_at_call 15; (with_reducible refine (shift_is ha0 hA (by omega) (by omega) eAll _).mono ?_); rintro e w' ⟨rfl, g, rfl⟩) | (go_at_call 15; (with_reducible refine (shift_is ha0 hA (by omega) (by omega) eDn _).mono ?_); rintro e w' ⟨rfl, g, rfl⟩) | (go_at_call 15; (with_reducible refine (shift_is hDN0 hDN (by omega) (by omega) eLw _).mono ?_); rintro e w' ⟨rfl, g, rfl⟩) | (go_at_call 15; (with_reducible refine (shift_is ha0 hA (by omega) (by omega) eLs _).mono ?_); rintro e w' ⟨rfl, g, rfl⟩) | (go_at_call 15; (with_reducible refine (shift_is hDN0 hDN (by omega) (by omega) eBk _).mono ?_); rintro e w' ⟨rfl, g, rfl⟩) | (go_at_call 15; (with_reducible refine (shift_is ha0 hA (by omega) (by omega) eE _).mono ?_); rintro e w' ⟨rfl, g, rfl⟩) | (go_at_call 14; (with_reducible refine (value_is ha0 hA hu hp _).mono ?_); rintro e w' ⟨rfl, g, rfl⟩))
  refine wp_region_more (by kernel_rfl) (by kernel_rfl) ?_
  repeat (go_big_quiet_step (first | (go_at_call 12; exact quiet_of (wakes_any _)) | (go_at_call 10; with_reducible exact quiet_of (cut_is hm (by omega) (by omega) eP _)) | (go_at_call 11; with_reducible exact quiet_of (two2_is ha0 hA hPJ0 hPJ rfl eMul _))))
  refine wpQuiet_nil ?_
  rintro _ ⟨g, rfl⟩
  go_wp2_with (first | (go_at_call 15; (with_reducible refine (shift_is ha0 hA (by omega) (by omega) eUp _).mono ?_); rintro e w' ⟨rfl, g, rfl⟩) | (go_at_call 15; (with_reducible refine (shift_is hUP0 hUP (by omega) (by omega) eMore _).mono ?_); rintro e w' ⟨rfl, g, rfl⟩) | (go_at_call 15; (with_reducible refine (shift_is ha0 hA (by omega) (by omega) eAll _).mono ?_); rintro e w' ⟨rfl, g, rfl⟩) | (go_at_call 15; (with_reducible refine (shift_is ha0 hA (by omega) (by omega) eDn _).mono ?_); rintro e w' ⟨rfl, g, rfl⟩) | (go_at_call 15; (with_reducible refine (shift_is hDN0 hDN (by omega) (by omega) eLw _).mono ?_); rintro e w' ⟨rfl, g, rfl⟩) | (go_at_call 15; (with_reducible refine (shift_is ha0 hA (by omega) (by omega) eLs _).mono ?_); rintro e w' ⟨rfl, g, rfl⟩) | (go_at_call 15; (with_reducible refine (shift_is hDN0 hDN (by omega) (by omega) eBk _).mono ?_); rintro e w' ⟨rfl, g, rfl⟩) | (go_at_call 15; (with_reducible refine (shift_is ha0 hA (by omega) (by omega) eE _).mono ?_); rintro e w' ⟨rfl, g, rfl⟩) | (go_at_call 14; (with_reducible refine (value_is ha0 hA hu hp _).mono ?_); rintro e w' ⟨rfl, g, rfl⟩))
  go_ret
  exact Ret.mk ((((Later.refl _).alloc _).alloc _).more _)
set_option maxRecDepth 100000 in
set_option maxHeartbeats 2000000 in
theorem shifts_uf (b : Bool) (s0 : Bool) (n a j k N A UP AL DN LW PJ U E : Int) (hs : s0 = false) (ha : 0 ≤ a) (hax : a < 18446744073709551616) (hj0 : 0 ≤ j) (hj : j ≤ 255) (hk0 : 0 ≤ k) (hk : k ≤ 255)
    (hN : 1 + n % 64 = N) (hm : Wd.may false false N = true) (eA : Wd.cut N a = A) (ha0 : 0 ≤ A) (hA : Wd.isw false false N A = true) (hpw0 : 1 ≤ (2 : Int) ^ (j % 32).toNat) (hpw1 : (2 : Int) ^ (j % 32).toNat ≤ 18446744073709551615)
    (eUp : Wd.shV false N A (j % 32) = UP) (eMore : Wd.shV false N UP (k % 32) = AL) (eAll : Wd.shV false N A ((j % 32) + (k % 32)) = AL) (eDn : Wd.shV false N A (-(j % 32)) = DN) (eLw : Wd.shV false N DN (-(k % 32)) = LW) (eLs : Wd.shV false N A (-(j % 32) - (k % 32)) = LW) (eBk : Wd.shV false N DN (j % 32) = (bits BinOp.andNot IntKind.u64 A (2 ^ (j % 32).toNat - 1))) (eP : Wd.cut N (2 ^ (j % 32).toNat) = PJ) (hPJ0 : 0 ≤ PJ) (hPJ : Wd.isw false false N PJ = true) (eMul : Wd.twoV false N 6 A PJ = UP) (hUP0 : 0 ≤ UP) (hUP : Wd.isw false false N UP = true) (hDN0 : 0 ≤ DN) (hDN : Wd.isw false false N DN = true) (hp : Wd.hld false A = false) (hu : Wd.val false N A = U) (hw64 : (N == 64) = false) (eE : Wd.shV false N A (-63) = 0) (w : World) :
    Calls Try.prog 4 #[.agg #[.bool b, .bool s0, .int .i64 n], .int .u64 a, .agg #[.int .u8 j, .int .u8 k]] w (Ret w (.bool true)) := by
  subst hs
  have HN := Lib.hid hN
  clear hN
  go_enter Try.func4, Try.ntmps4
  go_wp2_with (first | (go_at_call 9; refine (made_is HN.out _).mono ?_; rintro e w' ⟨rfl, g, rfl⟩) | (go_at_call 10; (with_reducible refine (cut_is hm ha hax eA _).mono ?_); rintro e w' ⟨rfl, g, rfl⟩))
  refine wp_region_more (by kernel_rfl) (by kernel_rfl) ?_
  repeat (go_big_quiet_step (fail))
  refine wpQuiet_nil ?_
  rintro _ ⟨g, rfl⟩
  go_wp2_with (first | (go_at_call 15; (with_reducible refine (shift_is ha0 hA (by omega) (by omega) eUp _).mono ?_); rintro e w' ⟨rfl, g, rfl⟩) | (go_at_call 15; (with_reducible refine (shift_is hUP0 hUP (by omega) (by omega) eMore _).mono ?_); rintro e w' ⟨rfl, g, rfl⟩) | (go_at_call 15; (with_reducible refine (shift_is ha0 hA (by omega) (by omega) eAll _).mono ?_); rintro e w' ⟨rfl, g, rfl⟩) | (go_at_call 15; (with_reducible refine (shift_is ha0 hA (by omega) (by omega) eDn _).mono ?_); rintro e w' ⟨rfl, g, rfl⟩) | (go_at_call 15; (with_reducible refine (shift_is hDN0 hDN (by omega) (by omega) eLw _).mono ?_); rintro e w' ⟨rfl, g, rfl⟩) | (go_at_call 15; (with_reducible refine (shift_is ha0 hA (by omega) (by omega) eLs _).mono ?_); rintro e w' ⟨rfl, g, rfl⟩) | (go_at_call 15; (with_reducible refine (shift_is hDN0 hDN (by omega) (by omega) eBk _).mono ?_); rintro e w' ⟨rfl, g, rfl⟩) | (go_at_call 15; (with_reducible refine (shift_is ha0 hA (by omega) (by omega) eE _).mono ?_); rintro e w' ⟨rfl, g, rfl⟩) | (go_at_call 14; (with_reducible refine (value_is ha0 hA hu hp _).mono ?_); rintro e w' ⟨rfl, g, rfl⟩))
  refine wp_region_more (by kernel_rfl) (by kernel_rfl) ?_
  repeat (go_big_quiet_step (first | (go_at_call 12; exact quiet_of (wakes_any _)) | (go_at_call 10; with_reducible exact quiet_of (cut_is hm (by omega) (by omega) eP _)) | (go_at_call 11; with_reducible exact quiet_of (two2_is ha0 hA hPJ0 hPJ rfl eMul _))))
  refine wpQuiet_nil ?_
  rintro _ ⟨g, rfl⟩
  go_wp2_with (first | (go_at_call 15; (with_reducible refine (shift_is ha0 hA (by omega) (by omega) eUp _).mono ?_); rintro e w' ⟨rfl, g, rfl⟩) | (go_at_call 15; (with_reducible refine (shift_is hUP0 hUP (by omega) (by omega) eMore _).mono ?_); rintro e w' ⟨rfl, g, rfl⟩) | (go_at_call 15; (with_reducible refine (shift_is ha0 hA (by omega) (by omega) eAll _).mono ?_); rintro e w' ⟨rfl, g, rfl⟩) | (go_at_call 15; (with_reducible refine (shift_is ha0 hA (by omega) (by omega) eDn _).mono ?_); rintro e w' ⟨rfl, g, rfl⟩) | (go_at_call 15; (with_reducible refine (shift_is hDN0 hDN (by omega) (by omega) eLw _).mono ?_); rintro e w' ⟨rfl, g, rfl⟩) | (go_at_call 15; (with_reducible refine (shift_is ha0 hA (by omega) (by omega) eLs _).mono ?_); rintro e w' ⟨rfl, g, rfl⟩) | (go_at_call 15; (with_reducible refine (shift_is hDN0 hDN (by omega) (by omega) eBk _).mono ?_); rintro e w' ⟨rfl, g, rfl⟩) | (go_at_call 15; (with_reducible refine (shift_is ha0 hA (by omega) (by omega) eE _).mono ?_); rintro e w' ⟨rfl, g, rfl⟩) | (go_at_call 14; (with_reducible refine (value_is ha0 hA hu hp _).mono ?_); rintro e w' ⟨rfl, g, rfl⟩))
  go_ret
  exact Ret.mk ((((Later.refl _).alloc _).alloc _).more _)
set_option maxRecDepth 100000 in
set_option maxHeartbeats 2000000 in
theorem shifts_szf (b : Bool) (s0 : Bool) (n a j k N A UP AL DN LW PJ U E : Int) (hs : s0 = true) (ha : 0 ≤ a) (hax : a < 18446744073709551616) (hj0 : 0 ≤ j) (hj : j ≤ 255) (hk0 : 0 ≤ k) (hk : k ≤ 255)
    (hN : 1 + n % 64 = N) (hm : Wd.may false true N = true) (eA : Wd.cut N a = A) (ha0 : 0 ≤ A) (hA : Wd.isw false true N A = true) (hpw0 : 1 ≤ (2 : Int) ^ (j % 32).toNat) (hpw1 : (2 : Int) ^ (j % 32).toNat ≤ 18446744073709551615)
    (eUp : Wd.shV true N A (j % 32) = UP) (eMore : Wd.shV true N UP (k % 32) = AL) (eAll : Wd.shV true N A ((j % 32) + (k % 32)) = AL) (eDn : Wd.shV true N A (-(j % 32)) = DN) (eLw : Wd.shV true N DN (-(k % 32)) = LW) (eLs : Wd.shV true N A (-(j % 32) - (k % 32)) = LW) (eBk : Wd.shV true N DN (j % 32) = (bits BinOp.andNot IntKind.u64 A (2 ^ (j % 32).toNat - 1))) (eP : Wd.cut N (2 ^ (j % 32).toNat) = PJ) (hPJ0 : 0 ≤ PJ) (hPJ : Wd.isw false true N PJ = true) (eMul : Wd.twoV true N 6 A PJ = UP) (hUP0 : 0 ≤ UP) (hUP : Wd.isw false true N UP = true) (hDN0 : 0 ≤ DN) (hDN : Wd.isw false true N DN = true) (hp : Wd.hld true A = false) (hu : Wd.val true N A = U) (hw64 : (N == 64) = false) (eE : Wd.shV true N A (-63) = 0) (w : World) :
    Calls Try.prog 4 #[.agg #[.bool b, .bool s0, .int .i64 n], .int .u64 a, .agg #[.int .u8 j, .int .u8 k]] w (Ret w (.bool true)) := by
  subst hs
  have HN := Lib.hid hN
  clear hN
  go_enter Try.func4, Try.ntmps4
  go_wp2_with (first | (go_at_call 9; refine (made_is HN.out _).mono ?_; rintro e w' ⟨rfl, g, rfl⟩) | (go_at_call 10; (with_reducible refine (cut_is hm ha hax eA _).mono ?_); rintro e w' ⟨rfl, g, rfl⟩))
  refine wp_region_more (by kernel_rfl) (by kernel_rfl) ?_
  repeat (go_big_quiet_step (fail))
  refine wpQuiet_nil ?_
  rintro _ ⟨g, rfl⟩
  go_wp2_with (first | (go_at_call 15; (with_reducible refine (shift_is ha0 hA (by omega) (by omega) eUp _).mono ?_); rintro e w' ⟨rfl, g, rfl⟩) | (go_at_call 15; (with_reducible refine (shift_is hUP0 hUP (by omega) (by omega) eMore _).mono ?_); rintro e w' ⟨rfl, g, rfl⟩) | (go_at_call 15; (with_reducible refine (shift_is ha0 hA (by omega) (by omega) eAll _).mono ?_); rintro e w' ⟨rfl, g, rfl⟩) | (go_at_call 15; (with_reducible refine (shift_is ha0 hA (by omega) (by omega) eDn _).mono ?_); rintro e w' ⟨rfl, g, rfl⟩) | (go_at_call 15; (with_reducible refine (shift_is hDN0 hDN (by omega) (by omega) eLw _).mono ?_); rintro e w' ⟨rfl, g, rfl⟩) | (go_at_call 15; (with_reducible refine (shift_is ha0 hA (by omega) (by omega) eLs _).mono ?_); rintro e w' ⟨rfl, g, rfl⟩) | (go_at_call 15; (with_reducible refine (shift_is hDN0 hDN (by omega) (by omega) eBk _).mono ?_); rintro e w' ⟨rfl, g, rfl⟩) | (go_at_call 15; (with_reducible refine (shift_is ha0 hA (by omega) (by omega) eE _).mono ?_); rintro e w' ⟨rfl, g, rfl⟩) | (go_at_call 14; (with_reducible refine (value_is ha0 hA hu hp _).mono ?_); rintro e w' ⟨rfl, g, rfl⟩))
  refine wp_region_more (by kernel_rfl) (by kernel_rfl) ?_
  repeat (go_big_quiet_step (first | (go_at_call 12; exact quiet_of (wakes_any _)) | (go_at_call 10; with_reducible exact quiet_of (cut_is hm (by omega) (by omega) eP _)) | (go_at_call 11; with_reducible exact quiet_of (two2_is ha0 hA hPJ0 hPJ rfl eMul _))))
  refine wpQuiet_nil ?_
  rintro _ ⟨g, rfl⟩
  go_wp2_with (first | (go_at_call 15; (with_reducible refine (shift_is ha0 hA (by omega) (by omega) eUp _).mono ?_); rintro e w' ⟨rfl, g, rfl⟩) | (go_at_call 15; (with_reducible refine (shift_is hUP0 hUP (by omega) (by omega) eMore _).mono ?_); rintro e w' ⟨rfl, g, rfl⟩) | (go_at_call 15; (with_reducible refine (shift_is ha0 hA (by omega) (by omega) eAll _).mono ?_); rintro e w' ⟨rfl, g, rfl⟩) | (go_at_call 15; (with_reducible refine (shift_is ha0 hA (by omega) (by omega) eDn _).mono ?_); rintro e w' ⟨rfl, g, rfl⟩) | (go_at_call 15; (with_reducible refine (shift_is hDN0 hDN (by omega) (by omega) eLw _).mono ?_); rintro e w' ⟨rfl, g, rfl⟩) | (go_at_call 15; (with_reducible refine (shift_is ha0 hA (by omega) (by omega) eLs _).mono ?_); rintro e w' ⟨rfl, g, rfl⟩) | (go_at_call 15; (with_reducible refine (shift_is hDN0 hDN (by omega) (by omega) eBk _).mono ?_); rintro e w' ⟨rfl, g, rfl⟩) | (go_at_call 15; (with_reducible refine (shift_is ha0 hA (by omega) (by omega) eE _).mono ?_); rintro e w' ⟨rfl, g, rfl⟩) | (go_at_call 14; (with_reducible refine (value_is ha0 hA hu hp _).mono ?_); rintro e w' ⟨rfl, g, rfl⟩))
  go_ret
  exact Ret.mk ((((Later.refl _).alloc _).alloc _).more _)
set_option maxRecDepth 100000 in
set_option maxHeartbeats 2000000 in
theorem shifts_smf (b : Bool) (s0 : Bool) (n a j k N A UP AL DN LW PJ U E : Int) (hs : s0 = true) (ha : 0 ≤ a) (hax : a < 18446744073709551616) (hj0 : 0 ≤ j) (hj : j ≤ 255) (hk0 : 0 ≤ k) (hk : k ≤ 255)
    (hN : 1 + n % 64 = N) (hm : Wd.may false true N = true) (eA : Wd.cut N a = A) (ha0 : 0 ≤ A) (hA : Wd.isw false true N A = true) (hpw0 : 1 ≤ (2 : Int) ^ (j % 32).toNat) (hpw1 : (2 : Int) ^ (j % 32).toNat ≤ 18446744073709551615)
    (eUp : Wd.shV true N A (j % 32) = UP) (eMore : Wd.shV true N UP (k % 32) = AL) (eAll : Wd.shV true N A ((j % 32) + (k % 32)) = AL) (eDn : Wd.shV true N A (-(j % 32)) = DN) (eLw : Wd.shV true N DN (-(k % 32)) = LW) (eLs : Wd.shV true N A (-(j % 32) - (k % 32)) = LW) (eBk : Wd.shV true N DN (j % 32) = (bits BinOp.andNot IntKind.u64 A (2 ^ (j % 32).toNat - 1))) (eP : Wd.cut N (2 ^ (j % 32).toNat) = PJ) (hPJ0 : 0 ≤ PJ) (hPJ : Wd.isw false true N PJ = true) (eMul : Wd.twoV true N 6 A PJ = UP) (hUP0 : 0 ≤ UP) (hUP : Wd.isw false true N UP = true) (hDN0 : 0 ≤ DN) (hDN : Wd.isw false true N DN = true) (hp : Wd.hld true A = false) (hu : Wd.val true N A = U) (hw64 : (N == 64) = false) (hE0 : (E == 0) = false) (eE : Wd.shV true N A (-63) = E) (eMx : Wd.cut N 18446744073709551615 = E) (w : World) :
    Calls Try.prog 4 #[.agg #[.bool b, .bool s0, .int .i64 n], .int .u64 a, .agg #[.int .u8 j, .int .u8 k]] w (Ret w (.bool true)) := by
  subst hs
  have HN := Lib.hid hN
  clear hN
  go_enter Try.func4, Try.ntmps4
  go_wp2_with (first | (go_at_call 9; refine (made_is HN.out _).mono ?_; rintro e w' ⟨rfl, g, rfl⟩) | (go_at_call 10; (with_reducible refine (cut_is hm ha hax eA _).mono ?_); rintro e w' ⟨rfl, g, rfl⟩))
  refine wp_region_more (by kernel_rfl) (by kernel_rfl) ?_
  repeat (go_big_quiet_step (fail))
  refine wpQuiet_nil ?_
  rintro _ ⟨g, rfl⟩
  go_wp2_with (first | (go_at_call 15; (with_reducible refine (shift_is ha0 hA (by omega) (by omega) eUp _).mono ?_); rintro e w' ⟨rfl, g, rfl⟩) | (go_at_call 15; (with_reducible refine (shift_is hUP0 hUP (by omega) (by omega) eMore _).mono ?_); rintro e w' ⟨rfl, g, rfl⟩) | (go_at_call 15; (with_reducible refine (shift_is ha0 hA (by omega) (by omega) eAll _).mono ?_); rintro e w' ⟨rfl, g, rfl⟩) | (go_at_call 15; (with_reducible refine (shift_is ha0 hA (by omega) (by omega) eDn _).mono ?_); rintro e w' ⟨rfl, g, rfl⟩) | (go_at_call 15; (with_reducible refine (shift_is hDN0 hDN (by omega) (by omega) eLw _).mono ?_); rintro e w' ⟨rfl, g, rfl⟩) | (go_at_call 15; (with_reducible refine (shift_is ha0 hA (by omega) (by omega) eLs _).mono ?_); rintro e w' ⟨rfl, g, rfl⟩) | (go_at_call 15; (with_reducible refine (shift_is hDN0 hDN (by omega) (by omega) eBk _).mono ?_); rintro e w' ⟨rfl, g, rfl⟩) | (go_at_call 15; (with_reducible refine (shift_is ha0 hA (by omega) (by omega) eE _).mono ?_); rintro e w' ⟨rfl, g, rfl⟩) | (go_at_call 14; (with_reducible refine (value_is ha0 hA hu hp _).mono ?_); rintro e w' ⟨rfl, g, rfl⟩) | (go_at_call 10; (with_reducible refine (cut_is hm (by omega) (by omega) eMx _).mono ?_); rintro e w' ⟨rfl, g, rfl⟩))
  refine wp_region_more (by kernel_rfl) (by kernel_rfl) ?_
  repeat (go_big_quiet_step (first | (go_at_call 12; exact quiet_of (wakes_any _)) | (go_at_call 10; with_reducible exact quiet_of (cut_is hm (by omega) (by omega) eP _)) | (go_at_call 11; with_reducible exact quiet_of (two2_is ha0 hA hPJ0 hPJ rfl eMul _))))
  refine wpQuiet_nil ?_
  rintro _ ⟨g, rfl⟩
  go_wp2_with (first | (go_at_call 15; (with_reducible refine (shift_is ha0 hA (by omega) (by omega) eUp _).mono ?_); rintro e w' ⟨rfl, g, rfl⟩) | (go_at_call 15; (with_reducible refine (shift_is hUP0 hUP (by omega) (by omega) eMore _).mono ?_); rintro e w' ⟨rfl, g, rfl⟩) | (go_at_call 15; (with_reducible refine (shift_is ha0 hA (by omega) (by omega) eAll _).mono ?_); rintro e w' ⟨rfl, g, rfl⟩) | (go_at_call 15; (with_reducible refine (shift_is ha0 hA (by omega) (by omega) eDn _).mono ?_); rintro e w' ⟨rfl, g, rfl⟩) | (go_at_call 15; (with_reducible refine (shift_is hDN0 hDN (by omega) (by omega) eLw _).mono ?_); rintro e w' ⟨rfl, g, rfl⟩) | (go_at_call 15; (with_reducible refine (shift_is ha0 hA (by omega) (by omega) eLs _).mono ?_); rintro e w' ⟨rfl, g, rfl⟩) | (go_at_call 15; (with_reducible refine (shift_is hDN0 hDN (by omega) (by omega) eBk _).mono ?_); rintro e w' ⟨rfl, g, rfl⟩) | (go_at_call 15; (with_reducible refine (shift_is ha0 hA (by omega) (by omega) eE _).mono ?_); rintro e w' ⟨rfl, g, rfl⟩) | (go_at_call 14; (with_reducible refine (value_is ha0 hA hu hp _).mono ?_); rintro e w' ⟨rfl, g, rfl⟩) | (go_at_call 10; (with_reducible refine (cut_is hm (by omega) (by omega) eMx _).mono ?_); rintro e w' ⟨rfl, g, rfl⟩))
  go_ret
  exact Ret.mk ((((Later.refl _).alloc _).alloc _).more _)
end Go.Proofs.Ytihnemlnnjdagaa
