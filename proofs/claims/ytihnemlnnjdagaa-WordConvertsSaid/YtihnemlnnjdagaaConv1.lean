/-
  No statement of the seat is proved here. The walk of WordConverts, at every case of its tests.
-/
import Derived.Test.YtihnemlnnjdagaaTools
import Derived.Test.YtihnemlnnjdagaaConvErr
import Derived.Deep.RegionWith
import Derived.Deep.DeepCutAuto
namespace Go.Proofs.Ytihnemlnnjdagaa
open Go Go.RowKit
set_option linter.unusedVariables false

set_option maxRecDepth 100000 in
set_option maxHeartbeats 2000000 in
theorem conv_tt (s0 s1 : Bool) (n n' a N N' A B : Int) (ha : 0 ≤ a) (hax : a < 18446744073709551616) (hm : Wd.may true false 1 = true) (hm' : Wd.may true false 1 = true) (h1 : 1 ≤ 1) (h2 : 1 ≤ 64) (h1' : 1 ≤ 1) (h2' : 1 ≤ 64) (eA : Wd.cut 1 a = A) (ha0 : 0 ≤ A) (hA : Wd.isw true false 1 A = true) (eB : Wd.cut 1 (Wd.sv false 1 A) = B) (hb0 : 0 ≤ B) (hB : Wd.isw true false 1 B = true) (hBx : B < 18446744073709551616) (hlow : bits BinOp.and IntKind.u64 B 1 = bits BinOp.and IntKind.u64 A 1) (q : Bool) (hq : Wd.hld false A = q) (hq' : Wd.hld false B = q) (U : Int) (hu : Wd.val false 1 A = U) (hu' : Wd.val false 1 B = U) (eC : Wd.cut 1 (Wd.sv false 1 B) = A) (w : World) :
    Calls Try.prog 5 #[.agg #[.bool true, .bool s0, .int .i64 n], .agg #[.bool true, .bool s1, .int .i64 n'], .int .u64 a] w (Ret w (.bool true)) := by
  go_enter Try.func5, Try.ntmps5
  go_upto_region 1 with fail
  go_cut [18] (fun s18 wx => ∃ g, wx = more ((w.alloc (.cells #[.bool true, .bool false, .int .i64 1] 23)).alloc (.cells #[.bool true, .bool false, .int .i64 1] 23)) g)
  case first =>
    go_region_with (first | (go_at_call 9; (with_reducible refine (made_b _ _ _).mono ?_); rintro e w' ⟨rfl, g, rfl⟩) | (go_at_call 9; (with_reducible refine (made_b _ _ _).mono ?_); rintro e w' ⟨rfl, g, rfl⟩))
    all_goals (go_wp2_with fail; go_meet; exact ⟨_, rfl⟩)
  case rest =>
    obtain ⟨g, rfl⟩ := hcut
    go_wp2_with (first | (go_at_call 12; refine (wakes_any _).mono ?_; rintro e w' ⟨rfl, g, rfl⟩) | (go_at_call 10; (with_reducible refine (cut_is hm ha hax eA _).mono ?_); rintro e w' ⟨rfl, g, rfl⟩) | (go_at_call 16; (with_reducible refine (conv_is ha0 hA hm' rfl eB _).mono ?_); rintro e w' ⟨rfl, g, rfl⟩) | (go_at_call 17; (with_reducible refine (is_is hb0 hBx hB _).mono ?_); rintro e w' ⟨rfl, g, rfl⟩) | (go_at_call 14; (with_reducible refine (value_is ha0 hA hu hq _).mono ?_); rintro e w' ⟨rfl, g, rfl⟩) | (go_at_call 14; (with_reducible refine (value_is hb0 hB hu' hq' _).mono ?_); rintro e w' ⟨rfl, g, rfl⟩) | (go_at_call 16; (with_reducible refine (conv_is hb0 hB hm rfl eC _).mono ?_); rintro e w' ⟨rfl, g, rfl⟩))
    go_ret
    exact Ret.mk ((((Later.refl _).alloc _).alloc _).more _)
set_option maxRecDepth 100000 in
set_option maxHeartbeats 2000000 in
theorem conv_nt (s1 : Bool) (s : Bool) (n n' a N N' A B : Int) (ha : 0 ≤ a) (hax : a < 18446744073709551616) (hN : 1 + n % 64 = N) (hm : Wd.may false s N = true) (hm' : Wd.may true false 1 = true) (h1 : 1 ≤ N) (h2 : N ≤ 64) (h1' : 1 ≤ 1) (h2' : 1 ≤ 64) (eA : Wd.cut N a = A) (ha0 : 0 ≤ A) (hA : Wd.isw false s N A = true) (w : World) :
    Calls Try.prog 5 #[.agg #[.bool false, .bool s, .int .i64 n], .agg #[.bool true, .bool s1, .int .i64 n'], .int .u64 a] w (Ret w (.bool true)) := by
  have HN := Lib.hid hN
  clear hN
  go_enter Try.func5, Try.ntmps5
  go_upto_region 1 with fail
  go_cut [18] (fun s18 wx => ∃ g, wx = more ((w.alloc (.cells #[.bool false, .bool s, .int .i64 N] 23)).alloc (.cells #[.bool true, .bool false, .int .i64 1] 23)) g)
  case first =>
    go_region_with (first | (go_at_call 9; (with_reducible refine (made_is HN.out _).mono ?_); rintro e w' ⟨rfl, g, rfl⟩) | (go_at_call 9; (with_reducible refine (made_b _ _ _).mono ?_); rintro e w' ⟨rfl, g, rfl⟩))
    all_goals (go_wp2_with fail; go_meet; exact ⟨_, rfl⟩)
  case rest =>
    obtain ⟨g, rfl⟩ := hcut
    go_wp2_with (first | (go_at_call 12; refine (wakes_any _).mono ?_; rintro e w' ⟨rfl, g, rfl⟩) | (go_at_call 10; (with_reducible refine (cut_is hm ha hax eA _).mono ?_); rintro e w' ⟨rfl, g, rfl⟩) | (go_at_call 16; (with_reducible refine (conv_err _ _ _ ha0 hA _).mono ?_); rintro e w' ⟨rfl, g, rfl⟩))
    go_ret
    exact Ret.mk ((((Later.refl _).alloc _).alloc _).more _)
set_option maxRecDepth 100000 in
set_option maxHeartbeats 2000000 in
theorem conv_tn_f (s0 : Bool) (n n' a N N' A B : Int) (ha : 0 ≤ a) (hax : a < 18446744073709551616) (hN' : 1 + n' % 64 = N') (hm : Wd.may true false 1 = true) (hm' : Wd.may false false N' = true) (h1 : 1 ≤ 1) (h2 : 1 ≤ 64) (h1' : 1 ≤ N') (h2' : N' ≤ 64) (eA : Wd.cut 1 a = A) (ha0 : 0 ≤ A) (hA : Wd.isw true false 1 A = true) (hrel : 1 ≤ N') (eB : Wd.cut N' (Wd.sv false 1 A) = B) (hb0 : 0 ≤ B) (hB : Wd.isw false false N' B = true) (hBx : B < 18446744073709551616) (hlow : bits BinOp.and IntKind.u64 B 1 = bits BinOp.and IntKind.u64 A 1) (q : Bool) (hq : Wd.hld false A = q) (hq' : Wd.hld false B = q) (U : Int) (hu : Wd.val false 1 A = U) (hu' : Wd.val false N' B = U) (hAB : B = A) (w : World) :
    Calls Try.prog 5 #[.agg #[.bool true, .bool s0, .int .i64 n], .agg #[.bool false, .bool false, .int .i64 n'], .int .u64 a] w (Ret w (.bool true)) := by
  subst hAB
  have HN' := Lib.hid hN'
  clear hN'
  go_enter Try.func5, Try.ntmps5
  go_upto_region 1 with fail
  go_cut [18] (fun s18 wx => ∃ g, wx = more ((w.alloc (.cells #[.bool true, .bool false, .int .i64 1] 23)).alloc (.cells #[.bool false, .bool false, .int .i64 N'] 23)) g)
  case first =>
    go_region_with (first | (go_at_call 9; (with_reducible refine (made_b _ _ _).mono ?_); rintro e w' ⟨rfl, g, rfl⟩) | (go_at_call 9; (with_reducible refine (made_is HN'.out _).mono ?_); rintro e w' ⟨rfl, g, rfl⟩))
    all_goals (go_wp2_with fail; go_meet; exact ⟨_, rfl⟩)
  case rest =>
    obtain ⟨g, rfl⟩ := hcut
    go_wp2_with (first | (go_at_call 12; refine (wakes_any _).mono ?_; rintro e w' ⟨rfl, g, rfl⟩) | (go_at_call 10; (with_reducible refine (cut_is hm ha hax eA _).mono ?_); rintro e w' ⟨rfl, g, rfl⟩) | (go_at_call 16; (with_reducible refine (conv_is ha0 hA hm' rfl eB _).mono ?_); rintro e w' ⟨rfl, g, rfl⟩) | (go_at_call 17; (with_reducible refine (is_is hb0 hBx hB _).mono ?_); rintro e w' ⟨rfl, g, rfl⟩) | (go_at_call 14; (with_reducible refine (value_is ha0 hA hu hq _).mono ?_); rintro e w' ⟨rfl, g, rfl⟩) | (go_at_call 14; (with_reducible refine (value_is hb0 hB hu' hq' _).mono ?_); rintro e w' ⟨rfl, g, rfl⟩))
    go_ret
    exact Ret.mk ((((Later.refl _).alloc _).alloc _).more _)
set_option maxRecDepth 100000 in
set_option maxHeartbeats 2000000 in
theorem conv_tn_t (s0 : Bool) (n n' a N N' A B : Int) (ha : 0 ≤ a) (hax : a < 18446744073709551616) (hN' : 1 + n' % 64 = N') (hm : Wd.may true false 1 = true) (hm' : Wd.may false true N' = true) (h1 : 1 ≤ 1) (h2 : 1 ≤ 64) (h1' : 1 ≤ N') (h2' : N' ≤ 64) (eA : Wd.cut 1 a = A) (ha0 : 0 ≤ A) (hA : Wd.isw true false 1 A = true) (hrel : 1 < N') (eB : Wd.cut N' (Wd.sv false 1 A) = B) (hb0 : 0 ≤ B) (hB : Wd.isw false true N' B = true) (hBx : B < 18446744073709551616) (hlow : bits BinOp.and IntKind.u64 B 1 = bits BinOp.and IntKind.u64 A 1) (q : Bool) (hq : Wd.hld false A = q) (hq' : Wd.hld true B = q) (U : Int) (hu : Wd.val false 1 A = U) (hu' : Wd.val true N' B = U) (hAB : B = A) (w : World) :
    Calls Try.prog 5 #[.agg #[.bool true, .bool s0, .int .i64 n], .agg #[.bool false, .bool true, .int .i64 n'], .int .u64 a] w (Ret w (.bool true)) := by
  subst hAB
  have HN' := Lib.hid hN'
  clear hN'
  go_enter Try.func5, Try.ntmps5
  go_upto_region 1 with fail
  go_cut [18] (fun s18 wx => ∃ g, wx = more ((w.alloc (.cells #[.bool true, .bool false, .int .i64 1] 23)).alloc (.cells #[.bool false, .bool true, .int .i64 N'] 23)) g)
  case first =>
    go_region_with (first | (go_at_call 9; (with_reducible refine (made_b _ _ _).mono ?_); rintro e w' ⟨rfl, g, rfl⟩) | (go_at_call 9; (with_reducible refine (made_is HN'.out _).mono ?_); rintro e w' ⟨rfl, g, rfl⟩))
    all_goals (go_wp2_with fail; go_meet; exact ⟨_, rfl⟩)
  case rest =>
    obtain ⟨g, rfl⟩ := hcut
    go_wp2_with (first | (go_at_call 12; refine (wakes_any _).mono ?_; rintro e w' ⟨rfl, g, rfl⟩) | (go_at_call 10; (with_reducible refine (cut_is hm ha hax eA _).mono ?_); rintro e w' ⟨rfl, g, rfl⟩) | (go_at_call 16; (with_reducible refine (conv_is ha0 hA hm' rfl eB _).mono ?_); rintro e w' ⟨rfl, g, rfl⟩) | (go_at_call 17; (with_reducible refine (is_is hb0 hBx hB _).mono ?_); rintro e w' ⟨rfl, g, rfl⟩) | (go_at_call 14; (with_reducible refine (value_is ha0 hA hu hq _).mono ?_); rintro e w' ⟨rfl, g, rfl⟩) | (go_at_call 14; (with_reducible refine (value_is hb0 hB hu' hq' _).mono ?_); rintro e w' ⟨rfl, g, rfl⟩))
    go_ret
    exact Ret.mk ((((Later.refl _).alloc _).alloc _).more _)
set_option maxRecDepth 100000 in
set_option maxHeartbeats 2000000 in
theorem conv_tn_1 (s0 : Bool) (n n' a N N' A B : Int) (ha : 0 ≤ a) (hax : a < 18446744073709551616) (hN' : 1 + n' % 64 = N') (hm : Wd.may true false 1 = true) (hm' : Wd.may false true N' = true) (h1 : 1 ≤ 1) (h2 : 1 ≤ 64) (h1' : 1 ≤ N') (h2' : N' ≤ 64) (eA : Wd.cut 1 a = A) (ha0 : 0 ≤ A) (hA : Wd.isw true false 1 A = true) (hrel : N' = 1) (eB : Wd.cut N' (Wd.sv false 1 A) = B) (hb0 : 0 ≤ B) (hB : Wd.isw false true N' B = true) (hBx : B < 18446744073709551616) (hlow : bits BinOp.and IntKind.u64 B 1 = bits BinOp.and IntKind.u64 A 1) (w : World) :
    Calls Try.prog 5 #[.agg #[.bool true, .bool s0, .int .i64 n], .agg #[.bool false, .bool true, .int .i64 n'], .int .u64 a] w (Ret w (.bool true)) := by
  subst hrel
  have HN' := Lib.hid hN'
  clear hN'
  go_enter Try.func5, Try.ntmps5
  go_upto_region 1 with fail
  go_cut [18] (fun s18 wx => ∃ g, wx = more ((w.alloc (.cells #[.bool true, .bool false, .int .i64 1] 23)).alloc (.cells #[.bool false, .bool true, .int .i64 1] 23)) g)
  case first =>
    go_region_with (first | (go_at_call 9; (with_reducible refine (made_b _ _ _).mono ?_); rintro e w' ⟨rfl, g, rfl⟩) | (go_at_call 9; (with_reducible refine (made_is HN'.out _).mono ?_); rintro e w' ⟨rfl, g, rfl⟩))
    all_goals (go_wp2_with fail; go_meet; exact ⟨_, rfl⟩)
  case rest =>
    obtain ⟨g, rfl⟩ := hcut
    go_wp2_with (first | (go_at_call 12; refine (wakes_any _).mono ?_; rintro e w' ⟨rfl, g, rfl⟩) | (go_at_call 10; (with_reducible refine (cut_is hm ha hax eA _).mono ?_); rintro e w' ⟨rfl, g, rfl⟩) | (go_at_call 16; (with_reducible refine (conv_is ha0 hA hm' rfl eB _).mono ?_); rintro e w' ⟨rfl, g, rfl⟩) | (go_at_call 17; (with_reducible refine (is_is hb0 hBx hB _).mono ?_); rintro e w' ⟨rfl, g, rfl⟩))
    go_ret
    exact Ret.mk ((((Later.refl _).alloc _).alloc _).more _)
end Go.Proofs.Ytihnemlnnjdagaa
