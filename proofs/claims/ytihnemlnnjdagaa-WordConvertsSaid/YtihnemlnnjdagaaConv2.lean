/-
  No statement of the seat is proved here. The walk of WordConverts, at every case of its tests.
-/
import Derived.Test.YtihnemlnnjdagaaTools
import Derived.Test.YtihnemlnnjdagaaConvErr
import Derived.Deep.RegionWith
import Derived.Deep.DeepCutAuto
namespace Go.Proofs.Ytihnemlnnjdagaa
open Go Go.RowKit
set_option linter.unusedVariables false

set_option maxRecDepth 100000 in
set_option maxHeartbeats 2000000 in
theorem conv_nn_le (s : Bool) (n n' a N N' A B : Int) (ha : 0 ≤ a) (hax : a < 18446744073709551616) (hN : 1 + n % 64 = N) (hN' : 1 + n' % 64 = N') (hm : Wd.may false s N = true) (hm' : Wd.may false s N' = true) (h1 : 1 ≤ N) (h2 : N ≤ 64) (h1' : 1 ≤ N') (h2' : N' ≤ 64) (eA : Wd.cut N a = A) (ha0 : 0 ≤ A) (hA : Wd.isw false s N A = true) (hrel : N ≤ N') (eB : Wd.cut N' (Wd.sv s N A) = B) (hb0 : 0 ≤ B) (hB : Wd.isw false s N' B = true) (hBx : B < 18446744073709551616) (hlow : bits BinOp.and IntKind.u64 B (18446744073709551615 / 2 ^ (64 - N).toNat) = bits BinOp.and IntKind.u64 A (18446744073709551615 / 2 ^ (64 - N).toNat)) (q : Bool) (hq : Wd.hld s A = q) (hq' : Wd.hld s B = q) (U : Int) (hu : Wd.val s N A = U) (hu' : Wd.val s N' B = U) (eC : Wd.cut N (Wd.sv s N' B) = A) (w : World) :
    Calls Try.prog 5 #[.agg #[.bool false, .bool s, .int .i64 n], .agg #[.bool false, .bool s, .int .i64 n'], .int .u64 a] w (Ret w (.bool true)) := by
  have HN := Lib.hid hN
  clear hN
  have HN' := Lib.hid hN'
  clear hN'
  go_enter Try.func5, Try.ntmps5
  go_upto_region 1 with fail
  go_cut [18] (fun s18 wx => ∃ g, wx = more ((w.alloc (.cells #[.bool false, .bool s, .int .i64 N] 23)).alloc (.cells #[.bool false, .bool s, .int .i64 N'] 23)) g)
  case first =>
    go_region_with (first | (go_at_call 9; (with_reducible refine (made_is HN.out _).mono ?_); rintro e w' ⟨rfl, g, rfl⟩) | (go_at_call 9; (with_reducible refine (made_is HN'.out _).mono ?_); rintro e w' ⟨rfl, g, rfl⟩))
    all_goals (go_wp2_with fail; go_meet; exact ⟨_, rfl⟩)
  case rest =>
    obtain ⟨g, rfl⟩ := hcut
    go_wp2_with (first | (go_at_call 12; refine (wakes_any _).mono ?_; rintro e w' ⟨rfl, g, rfl⟩) | (go_at_call 10; (with_reducible refine (cut_is hm ha hax eA _).mono ?_); rintro e w' ⟨rfl, g, rfl⟩) | (go_at_call 16; (with_reducible refine (conv_is ha0 hA hm' rfl eB _).mono ?_); rintro e w' ⟨rfl, g, rfl⟩) | (go_at_call 17; (with_reducible refine (is_is hb0 hBx hB _).mono ?_); rintro e w' ⟨rfl, g, rfl⟩) | (go_at_call 14; (with_reducible refine (value_is ha0 hA hu hq _).mono ?_); rintro e w' ⟨rfl, g, rfl⟩) | (go_at_call 14; (with_reducible refine (value_is hb0 hB hu' hq' _).mono ?_); rintro e w' ⟨rfl, g, rfl⟩) | (go_at_call 16; (with_reducible refine (conv_is hb0 hB hm rfl eC _).mono ?_); rintro e w' ⟨rfl, g, rfl⟩))
    go_ret
    exact Ret.mk ((((Later.refl _).alloc _).alloc _).more _)
set_option maxRecDepth 100000 in
set_option maxHeartbeats 2000000 in
theorem conv_nn_gt_f (n n' a N N' A B : Int) (ha : 0 ≤ a) (hax : a < 18446744073709551616) (hN : 1 + n % 64 = N) (hN' : 1 + n' % 64 = N') (hm : Wd.may false false N = true) (hm' : Wd.may false false N' = true) (h1 : 1 ≤ N) (h2 : N ≤ 64) (h1' : 1 ≤ N') (h2' : N' ≤ 64) (eA : Wd.cut N a = A) (ha0 : 0 ≤ A) (hA : Wd.isw false false N A = true) (hrel : N' < N) (hdec : decide (N ≤ N') = false) (eB : Wd.cut N' (Wd.sv false N A) = B) (hb0 : 0 ≤ B) (hB : Wd.isw false false N' B = true) (hBx : B < 18446744073709551616) (hlow : bits BinOp.and IntKind.u64 B (18446744073709551615 / 2 ^ (64 - N').toNat) = bits BinOp.and IntKind.u64 A (18446744073709551615 / 2 ^ (64 - N').toNat)) (w : World) :
    Calls Try.prog 5 #[.agg #[.bool false, .bool false, .int .i64 n], .agg #[.bool false, .bool false, .int .i64 n'], .int .u64 a] w (Ret w (.bool true)) := by
  have HN := Lib.hid hN
  clear hN
  have HN' := Lib.hid hN'
  clear hN'
  go_enter Try.func5, Try.ntmps5
  go_upto_region 1 with fail
  go_cut [18] (fun s18 wx => ∃ g, wx = more ((w.alloc (.cells #[.bool false, .bool false, .int .i64 N] 23)).alloc (.cells #[.bool false, .bool false, .int .i64 N'] 23)) g)
  case first =>
    go_region_with (first | (go_at_call 9; (with_reducible refine (made_is HN.out _).mono ?_); rintro e w' ⟨rfl, g, rfl⟩) | (go_at_call 9; (with_reducible refine (made_is HN'.out _).mono ?_); rintro e w' ⟨rfl, g, rfl⟩))
    all_goals (go_wp2_with fail; go_meet; exact ⟨_, rfl⟩)
  case rest =>
    obtain ⟨g, rfl⟩ := hcut
    go_wp2_with (first | (go_at_call 12; refine (wakes_any _).mono ?_; rintro e w' ⟨rfl, g, rfl⟩) | (go_at_call 10; (with_reducible refine (cut_is hm ha hax eA _).mono ?_); rintro e w' ⟨rfl, g, rfl⟩) | (go_at_call 16; (with_reducible refine (conv_is ha0 hA hm' rfl eB _).mono ?_); rintro e w' ⟨rfl, g, rfl⟩) | (go_at_call 17; (with_reducible refine (is_is hb0 hBx hB _).mono ?_); rintro e w' ⟨rfl, g, rfl⟩))
    go_ret
    exact Ret.mk ((((Later.refl _).alloc _).alloc _).more _)
set_option maxRecDepth 100000 in
set_option maxHeartbeats 2000000 in
theorem conv_nn_gt_t (n n' a N N' A B : Int) (ha : 0 ≤ a) (hax : a < 18446744073709551616) (hN : 1 + n % 64 = N) (hN' : 1 + n' % 64 = N') (hm : Wd.may false true N = true) (hm' : Wd.may false true N' = true) (h1 : 1 ≤ N) (h2 : N ≤ 64) (h1' : 1 ≤ N') (h2' : N' ≤ 64) (eA : Wd.cut N a = A) (ha0 : 0 ≤ A) (hA : Wd.isw false true N A = true) (hrel : N' < N) (hdec : decide (N ≤ N') = false) (eB : Wd.cut N' (Wd.sv true N A) = B) (hb0 : 0 ≤ B) (hB : Wd.isw false true N' B = true) (hBx : B < 18446744073709551616) (hlow : bits BinOp.and IntKind.u64 B (18446744073709551615 / 2 ^ (64 - N').toNat) = bits BinOp.and IntKind.u64 A (18446744073709551615 / 2 ^ (64 - N').toNat)) (w : World) :
    Calls Try.prog 5 #[.agg #[.bool false, .bool true, .int .i64 n], .agg #[.bool false, .bool true, .int .i64 n'], .int .u64 a] w (Ret w (.bool true)) := by
  have HN := Lib.hid hN
  clear hN
  have HN' := Lib.hid hN'
  clear hN'
  go_enter Try.func5, Try.ntmps5
  go_upto_region 1 with fail
  go_cut [18] (fun s18 wx => ∃ g, wx = more ((w.alloc (.cells #[.bool false, .bool true, .int .i64 N] 23)).alloc (.cells #[.bool false, .bool true, .int .i64 N'] 23)) g)
  case first =>
    go_region_with (first | (go_at_call 9; (with_reducible refine (made_is HN.out _).mono ?_); rintro e w' ⟨rfl, g, rfl⟩) | (go_at_call 9; (with_reducible refine (made_is HN'.out _).mono ?_); rintro e w' ⟨rfl, g, rfl⟩))
    all_goals (go_wp2_with fail; go_meet; exact ⟨_, rfl⟩)
  case rest =>
    obtain ⟨g, rfl⟩ := hcut
    go_wp2_with (first | (go_at_call 12; refine (wakes_any _).mono ?_; rintro e w' ⟨rfl, g, rfl⟩) | (go_at_call 10; (with_reducible refine (cut_is hm ha hax eA _).mono ?_); rintro e w' ⟨rfl, g, rfl⟩) | (go_at_call 16; (with_reducible refine (conv_is ha0 hA hm' rfl eB _).mono ?_); rintro e w' ⟨rfl, g, rfl⟩) | (go_at_call 17; (with_reducible refine (is_is hb0 hBx hB _).mono ?_); rintro e w' ⟨rfl, g, rfl⟩))
    go_ret
    exact Ret.mk ((((Later.refl _).alloc _).alloc _).more _)
set_option maxRecDepth 100000 in
set_option maxHeartbeats 2000000 in
theorem conv_ft_lt (n n' a N N' A B : Int) (ha : 0 ≤ a) (hax : a < 18446744073709551616) (hN : 1 + n % 64 = N) (hN' : 1 + n' % 64 = N') (hm : Wd.may false false N = true) (hm' : Wd.may false true N' = true) (h1 : 1 ≤ N) (h2 : N ≤ 64) (h1' : 1 ≤ N') (h2' : N' ≤ 64) (eA : Wd.cut N a = A) (ha0 : 0 ≤ A) (hA : Wd.isw false false N A = true) (hrel : N < N') (eB : Wd.cut N' (Wd.sv false N A) = B) (hb0 : 0 ≤ B) (hB : Wd.isw false true N' B = true) (hBx : B < 18446744073709551616) (hlow : bits BinOp.and IntKind.u64 B (18446744073709551615 / 2 ^ (64 - N).toNat) = bits BinOp.and IntKind.u64 A (18446744073709551615 / 2 ^ (64 - N).toNat)) (q : Bool) (hq : Wd.hld false A = q) (hq' : Wd.hld true B = q) (U : Int) (hu : Wd.val false N A = U) (hu' : Wd.val true N' B = U) (eC : Wd.cut N (Wd.sv true N' B) = A) (w : World) :
    Calls Try.prog 5 #[.agg #[.bool false, .bool false, .int .i64 n], .agg #[.bool false, .bool true, .int .i64 n'], .int .u64 a] w (Ret w (.bool true)) := by
  have HN := Lib.hid hN
  clear hN
  have HN' := Lib.hid hN'
  clear hN'
  go_enter Try.func5, Try.ntmps5
  go_upto_region 1 with fail
  go_cut [18] (fun s18 wx => ∃ g, wx = more ((w.alloc (.cells #[.bool false, .bool false, .int .i64 N] 23)).alloc (.cells #[.bool false, .bool true, .int .i64 N'] 23)) g)
  case first =>
    go_region_with (first | (go_at_call 9; (with_reducible refine (made_is HN.out _).mono ?_); rintro e w' ⟨rfl, g, rfl⟩) | (go_at_call 9; (with_reducible refine (made_is HN'.out _).mono ?_); rintro e w' ⟨rfl, g, rfl⟩))
    all_goals (go_wp2_with fail; go_meet; exact ⟨_, rfl⟩)
  case rest =>
    obtain ⟨g, rfl⟩ := hcut
    go_wp2_with (first | (go_at_call 12; refine (wakes_any _).mono ?_; rintro e w' ⟨rfl, g, rfl⟩) | (go_at_call 10; (with_reducible refine (cut_is hm ha hax eA _).mono ?_); rintro e w' ⟨rfl, g, rfl⟩) | (go_at_call 16; (with_reducible refine (conv_is ha0 hA hm' rfl eB _).mono ?_); rintro e w' ⟨rfl, g, rfl⟩) | (go_at_call 17; (with_reducible refine (is_is hb0 hBx hB _).mono ?_); rintro e w' ⟨rfl, g, rfl⟩) | (go_at_call 14; (with_reducible refine (value_is ha0 hA hu hq _).mono ?_); rintro e w' ⟨rfl, g, rfl⟩) | (go_at_call 14; (with_reducible refine (value_is hb0 hB hu' hq' _).mono ?_); rintro e w' ⟨rfl, g, rfl⟩) | (go_at_call 16; (with_reducible refine (conv_is hb0 hB hm rfl eC _).mono ?_); rintro e w' ⟨rfl, g, rfl⟩))
    go_ret
    exact Ret.mk ((((Later.refl _).alloc _).alloc _).more _)
set_option maxRecDepth 100000 in
set_option maxHeartbeats 2000000 in
theorem conv_ft_eq (n n' a N N' A B : Int) (ha : 0 ≤ a) (hax : a < 18446744073709551616) (hN : 1 + n % 64 = N) (hN' : 1 + n' % 64 = N') (hm : Wd.may false false N = true) (hm' : Wd.may false true N' = true) (h1 : 1 ≤ N) (h2 : N ≤ 64) (h1' : 1 ≤ N') (h2' : N' ≤ 64) (eA : Wd.cut N a = A) (ha0 : 0 ≤ A) (hA : Wd.isw false false N A = true) (hrel : N' = N) (eB : Wd.cut N' (Wd.sv false N A) = B) (hb0 : 0 ≤ B) (hB : Wd.isw false true N' B = true) (hBx : B < 18446744073709551616) (hlow : bits BinOp.and IntKind.u64 B (18446744073709551615 / 2 ^ (64 - N').toNat) = bits BinOp.and IntKind.u64 A (18446744073709551615 / 2 ^ (64 - N').toNat)) (w : World) :
    Calls Try.prog 5 #[.agg #[.bool false, .bool false, .int .i64 n], .agg #[.bool false, .bool true, .int .i64 n'], .int .u64 a] w (Ret w (.bool true)) := by
  subst hrel
  have HN := Lib.hid hN
  clear hN
  have HN' := Lib.hid hN'
  clear hN'
  go_enter Try.func5, Try.ntmps5
  go_upto_region 1 with fail
  go_cut [18] (fun s18 wx => ∃ g, wx = more ((w.alloc (.cells #[.bool false, .bool false, .int .i64 N'] 23)).alloc (.cells #[.bool false, .bool true, .int .i64 N'] 23)) g)
  case first =>
    go_region_with (first | (go_at_call 9; (with_reducible refine (made_is HN.out _).mono ?_); rintro e w' ⟨rfl, g, rfl⟩) | (go_at_call 9; (with_reducible refine (made_is HN'.out _).mono ?_); rintro e w' ⟨rfl, g, rfl⟩))
    all_goals (go_wp2_with fail; go_meet; exact ⟨_, rfl⟩)
  case rest =>
    obtain ⟨g, rfl⟩ := hcut
    go_wp2_with (first | (go_at_call 12; refine (wakes_any _).mono ?_; rintro e w' ⟨rfl, g, rfl⟩) | (go_at_call 10; (with_reducible refine (cut_is hm ha hax eA _).mono ?_); rintro e w' ⟨rfl, g, rfl⟩) | (go_at_call 16; (with_reducible refine (conv_is ha0 hA hm' rfl eB _).mono ?_); rintro e w' ⟨rfl, g, rfl⟩) | (go_at_call 17; (with_reducible refine (is_is hb0 hBx hB _).mono ?_); rintro e w' ⟨rfl, g, rfl⟩))
    go_ret
    exact Ret.mk ((((Later.refl _).alloc _).alloc _).more _)
end Go.Proofs.Ytihnemlnnjdagaa
