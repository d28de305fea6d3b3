/-
  No statement of the seat is proved here. The walk of WordOrder at a type that is no bool, in each order of the words, and at bools.
-/
import Derived.Test.YtihnemlnnjdagaaWakes
import Derived.Test.YtihnemlnnjdagaaPlain2
namespace Go.Proofs.Ytihnemlnnjdagaa
open Go Go.RowKit
set_option linter.unusedVariables false

theorem two2_is {b s : Bool} {n op x y v : Int} (h0 : 0 ≤ x) (hx : Wd.isw b s n x = true) (k0 : 0 ≤ y) (hy : Wd.isw b s n y = true) (hop : Wd.okOp b op = true) (hv : Wd.twoV s n op x y = v) (w : World) :
    Calls Try.prog 11 #[.int .i64 op, .agg #[.bool b, .bool s, .int .i64 n], .int .u64 x, .int .u64 y] w (Ret w (.int .u64 v)) := hv ▸ two2 b s n op x y h0 hx k0 hy hop w
theorem made_is {s : Bool} {n N : Int} (h : 1 + n % 64 = N) (w : World) : Calls Try.prog 9 #[.agg #[.bool false, .bool s, .int .i64 n]] w (Ret w (.agg #[.bool false, .bool s, .int .i64 N])) := h ▸ made_n s n w
theorem cut_is {b s : Bool} {n x v : Int} (hm : Wd.may b s n = true) (h0 : 0 ≤ x) (hx : x < 18446744073709551616) (h : Wd.cut n x = v) (w : World) : Calls Try.prog 10 #[.agg #[.bool b, .bool s, .int .i64 n], .int .u64 x] w (Ret w (.int .u64 v)) := h ▸ cut_yes b s n x hm h0 hx w
theorem value_is {b s : Bool} {n x u : Int} {v : Bool} (h0 : 0 ≤ x) (hx : Wd.isw b s n x = true) (hu : Wd.val s n x = u) (hv : Wd.hld s x = v) (w : World) :
    Calls Try.prog 14 #[.agg #[.bool b, .bool s, .int .i64 n], .int .u64 x] w (Ret w (.tuple #[.int .i64 u, .bool v])) := hu ▸ hv ▸ value_any b s n x h0 hx w

set_option maxRecDepth 100000 in
set_option maxHeartbeats 2000000 in
theorem order_lt_tt_0 (s : Bool) (n a b c N A B C U V S S' : Int) (ha : 0 ≤ a) (hax : a < 18446744073709551616) (hb : 0 ≤ b) (hbx : b < 18446744073709551616) (hc : 0 ≤ c) (hcx : c < 18446744073709551616)
    (hN : 1 + n % 64 = N) (hm : Wd.may false s N = true) (eA : Wd.cut N a = A) (eB : Wd.cut N b = B) (eC : Wd.cut N c = C) (ha0 : 0 ≤ A) (hA : Wd.isw false s N A = true) (hb0 : 0 ≤ B) (hB : Wd.isw false s N B = true) (hc0 : 0 ≤ C) (hC : Wd.isw false s N C = true)
    (h7 : Wd.twoV s N 7 A B = 0) (h8 : Wd.twoV s N 8 A B = 1) (h9 : Wd.twoV s N 9 A B = 1) (h10 : Wd.twoV s N 10 A B = 1) (h11 : Wd.twoV s N 11 A B = 0) (h12 : Wd.twoV s N 12 A B = 0) (h7' : Wd.twoV s N 7 B A = 0) (h11' : Wd.twoV s N 11 B A = 1) (heq : (A == B) = false) (hp : Wd.hld s A = true) (hu : Wd.val s N A = U) (hv : Wd.val s N B = V) (q : Bool) (hq : Wd.hld s B = q) (hqq : q = true) (huv : decide (U < V) = true) (hbc : Wd.twoV s N 9 B C = 0) (h4 : Wd.twoV s N 4 A C = S) (h4' : Wd.twoV s N 4 B C = S') (hs0 : 0 ≤ S) (hS : Wd.isw false s N S = true) (hs0' : 0 ≤ S') (hS' : Wd.isw false s N S' = true) (hfin : Wd.twoV s N 7 S S' = 0) (w : World) :
    Calls Try.prog 3 #[.agg #[.bool false, .bool s, .int .i64 n], .agg #[.int .u64 a, .int .u64 b, .int .u64 c]] w (Ret w (.bool true)) := by
  have HN := Lib.hid hN
  clear hN
  subst hqq
  go_enter Try.func3, Try.ntmps3
  go_wp2_with (go_at_call 9; refine (made_is HN.out _).mono ?_; rintro e w' ⟨rfl, g, rfl⟩)
  refine wp_region_more (by kernel_rfl) (by kernel_rfl) ?_
  repeat (go_big_quiet_step (first | (go_at_call 10; with_reducible exact quiet_of (cut_is hm ha hax eA _)) | (go_at_call 10; with_reducible exact quiet_of (cut_is hm hb hbx eB _)) | (go_at_call 10; with_reducible exact quiet_of (cut_is hm hc hcx eC _))))
  refine wpQuiet_nil ?_
  rintro _ ⟨g, rfl⟩
  go_wp2_with fail
  refine wp_region_more (by kernel_rfl) (by kernel_rfl) ?_
  repeat (go_big_quiet_step (first | (go_at_call 11; with_reducible exact quiet_of (two2_is ha0 hA hb0 hB rfl h7 _)) | (go_at_call 11; with_reducible exact quiet_of (two2_is ha0 hA hb0 hB rfl h8 _))))
  refine wpQuiet_nil ?_
  rintro _ ⟨g, rfl⟩
  go_wp2_with (first | (go_at_call 12; refine (wakes_any _).mono ?_; rintro e w' ⟨rfl, g, rfl⟩) | (go_at_call 11; (with_reducible refine (two2_is hb0 hB ha0 hA rfl h7' _).mono ?_); rintro e w' ⟨rfl, g, rfl⟩) | (go_at_call 11; (with_reducible refine (two2_is ha0 hA hb0 hB rfl h10 _).mono ?_); rintro e w' ⟨rfl, g, rfl⟩) | (go_at_call 11; (with_reducible refine (two2_is ha0 hA hb0 hB rfl h12 _).mono ?_); rintro e w' ⟨rfl, g, rfl⟩) | (go_at_call 11; (with_reducible refine (two2_is hb0 hB ha0 hA rfl h11' _).mono ?_); rintro e w' ⟨rfl, g, rfl⟩) | (go_at_call 11; (with_reducible refine (two2_is hb0 hB hc0 hC rfl hbc _).mono ?_); rintro e w' ⟨rfl, g, rfl⟩) | (go_at_call 14; (with_reducible refine (value_is ha0 hA hu hp _).mono ?_); rintro e w' ⟨rfl, g, rfl⟩) | (go_at_call 14; (with_reducible refine (value_is hb0 hB hv hq _).mono ?_); rintro e w' ⟨rfl, g, rfl⟩))
  refine wp_region_more (by kernel_rfl) (by kernel_rfl) ?_
  repeat (go_big_quiet_step (first | (go_at_call 11; with_reducible exact quiet_of (two2_is ha0 hA hb0 hB rfl h9 _)) | (go_at_call 11; with_reducible exact quiet_of (two2_is ha0 hA hb0 hB rfl h11 _))))
  refine wpQuiet_nil ?_
  rintro _ ⟨g, rfl⟩
  go_wp2_with (first | (go_at_call 12; refine (wakes_any _).mono ?_; rintro e w' ⟨rfl, g, rfl⟩) | (go_at_call 11; (with_reducible refine (two2_is hb0 hB ha0 hA rfl h7' _).mono ?_); rintro e w' ⟨rfl, g, rfl⟩) | (go_at_call 11; (with_reducible refine (two2_is ha0 hA hb0 hB rfl h10 _).mono ?_); rintro e w' ⟨rfl, g, rfl⟩) | (go_at_call 11; (with_reducible refine (two2_is ha0 hA hb0 hB rfl h12 _).mono ?_); rintro e w' ⟨rfl, g, rfl⟩) | (go_at_call 11; (with_reducible refine (two2_is hb0 hB ha0 hA rfl h11' _).mono ?_); rintro e w' ⟨rfl, g, rfl⟩) | (go_at_call 11; (with_reducible refine (two2_is hb0 hB hc0 hC rfl hbc _).mono ?_); rintro e w' ⟨rfl, g, rfl⟩) | (go_at_call 14; (with_reducible refine (value_is ha0 hA hu hp _).mono ?_); rintro e w' ⟨rfl, g, rfl⟩) | (go_at_call 14; (with_reducible refine (value_is hb0 hB hv hq _).mono ?_); rintro e w' ⟨rfl, g, rfl⟩))
  refine wp_region_more (by kernel_rfl) (by kernel_rfl) ?_
  repeat (go_big_quiet_step (first | (go_at_call 11; with_reducible exact quiet_of (two2_is ha0 hA hc0 hC rfl h4 _)) | (go_at_call 11; with_reducible exact quiet_of (two2_is hb0 hB hc0 hC rfl h4' _)) | (go_at_call 11; with_reducible exact quiet_of (two2_is hs0 hS hs0' hS' rfl hfin _))))
  refine wpQuiet_nil ?_
  rintro _ ⟨g, rfl⟩
  go_wp2
  go_ret
  exact Ret.mk ((((Later.refl _).alloc _).alloc _).more _)
set_option maxRecDepth 100000 in
set_option maxHeartbeats 2000000 in
theorem order_lt_tt_1 (s : Bool) (n a b c N A B C U V S S' : Int) (ha : 0 ≤ a) (hax : a < 18446744073709551616) (hb : 0 ≤ b) (hbx : b < 18446744073709551616) (hc : 0 ≤ c) (hcx : c < 18446744073709551616)
    (hN : 1 + n % 64 = N) (hm : Wd.may false s N = true) (eA : Wd.cut N a = A) (eB : Wd.cut N b = B) (eC : Wd.cut N c = C) (ha0 : 0 ≤ A) (hA : Wd.isw false s N A = true) (hb0 : 0 ≤ B) (hB : Wd.isw false s N B = true) (hc0 : 0 ≤ C) (hC : Wd.isw false s N C = true)
    (h7 : Wd.twoV s N 7 A B = 0) (h8 : Wd.twoV s N 8 A B = 1) (h9 : Wd.twoV s N 9 A B = 1) (h10 : Wd.twoV s N 10 A B = 1) (h11 : Wd.twoV s N 11 A B = 0) (h12 : Wd.twoV s N 12 A B = 0) (h7' : Wd.twoV s N 7 B A = 0) (h11' : Wd.twoV s N 11 B A = 1) (heq : (A == B) = false) (hp : Wd.hld s A = true) (hu : Wd.val s N A = U) (hv : Wd.val s N B = V) (q : Bool) (hq : Wd.hld s B = q) (hqq : q = true) (huv : decide (U < V) = true) (hbc : Wd.twoV s N 9 B C = 1) (hac : Wd.twoV s N 9 A C = 1) (h4 : Wd.twoV s N 4 A C = S) (h4' : Wd.twoV s N 4 B C = S') (hs0 : 0 ≤ S) (hS : Wd.isw false s N S = true) (hs0' : 0 ≤ S') (hS' : Wd.isw false s N S' = true) (hfin : Wd.twoV s N 7 S S' = 0) (w : World) :
    Calls Try.prog 3 #[.agg #[.bool false, .bool s, .int .i64 n], .agg #[.int .u64 a, .int .u64 b, .int .u64 c]] w (Ret w (.bool true)) := by
  have HN := Lib.hid hN
  clear hN
  subst hqq
  go_enter Try.func3, Try.ntmps3
  go_wp2_with (go_at_call 9; refine (made_is HN.out _).mono ?_; rintro e w' ⟨rfl, g, rfl⟩)
  refine wp_region_more (by kernel_rfl) (by kernel_rfl) ?_
  repeat (go_big_quiet_step (first | (go_at_call 10; with_reducible exact quiet_of (cut_is hm ha hax eA _)) | (go_at_call 10; with_reducible exact quiet_of (cut_is hm hb hbx eB _)) | (go_at_call 10; with_reducible exact quiet_of (cut_is hm hc hcx eC _))))
  refine wpQuiet_nil ?_
  rintro _ ⟨g, rfl⟩
  go_wp2_with fail
  refine wp_region_more (by kernel_rfl) (by kernel_rfl) ?_
  repeat (go_big_quiet_step (first | (go_at_call 11; with_reducible exact quiet_of (two2_is ha0 hA hb0 hB rfl h7 _)) | (go_at_call 11; with_reducible exact quiet_of (two2_is ha0 hA hb0 hB rfl h8 _))))
  refine wpQuiet_nil ?_
  rintro _ ⟨g, rfl⟩
  go_wp2_with (first | (go_at_call 12; refine (wakes_any _).mono ?_; rintro e w' ⟨rfl, g, rfl⟩) | (go_at_call 11; (with_reducible refine (two2_is hb0 hB ha0 hA rfl h7' _).mono ?_); rintro e w' ⟨rfl, g, rfl⟩) | (go_at_call 11; (with_reducible refine (two2_is ha0 hA hb0 hB rfl h10 _).mono ?_); rintro e w' ⟨rfl, g, rfl⟩) | (go_at_call 11; (with_reducible refine (two2_is ha0 hA hb0 hB rfl h12 _).mono ?_); rintro e w' ⟨rfl, g, rfl⟩) | (go_at_call 11; (with_reducible refine (two2_is hb0 hB ha0 hA rfl h11' _).mono ?_); rintro e w' ⟨rfl, g, rfl⟩) | (go_at_call 11; (with_reducible refine (two2_is hb0 hB hc0 hC rfl hbc _).mono ?_); rintro e w' ⟨rfl, g, rfl⟩) | (go_at_call 11; (with_reducible refine (two2_is ha0 hA hc0 hC rfl hac _).mono ?_); rintro e w' ⟨rfl, g, rfl⟩) | (go_at_call 14; (with_reducible refine (value_is ha0 hA hu hp _).mono ?_); rintro e w' ⟨rfl, g, rfl⟩) | (go_at_call 14; (with_reducible refine (value_is hb0 hB hv hq _).mono ?_); rintro e w' ⟨rfl, g, rfl⟩))
  refine wp_region_more (by kernel_rfl) (by kernel_rfl) ?_
  repeat (go_big_quiet_step (first | (go_at_call 11; with_reducible exact quiet_of (two2_is ha0 hA hb0 hB rfl h9 _)) | (go_at_call 11; with_reducible exact quiet_of (two2_is ha0 hA hb0 hB rfl h11 _))))
  refine wpQuiet_nil ?_
  rintro _ ⟨g, rfl⟩
  go_wp2_with (first | (go_at_call 12; refine (wakes_any _).mono ?_; rintro e w' ⟨rfl, g, rfl⟩) | (go_at_call 11; (with_reducible refine (two2_is hb0 hB ha0 hA rfl h7' _).mono ?_); rintro e w' ⟨rfl, g, rfl⟩) | (go_at_call 11; (with_reducible refine (two2_is ha0 hA hb0 hB rfl h10 _).mono ?_); rintro e w' ⟨rfl, g, rfl⟩) | (go_at_call 11; (with_reducible refine (two2_is ha0 hA hb0 hB rfl h12 _).mono ?_); rintro e w' ⟨rfl, g, rfl⟩) | (go_at_call 11; (with_reducible refine (two2_is hb0 hB ha0 hA rfl h11' _).mono ?_); rintro e w' ⟨rfl, g, rfl⟩) | (go_at_call 11; (with_reducible refine (two2_is hb0 hB hc0 hC rfl hbc _).mono ?_); rintro e w' ⟨rfl, g, rfl⟩) | (go_at_call 11; (with_reducible refine (two2_is ha0 hA hc0 hC rfl hac _).mono ?_); rintro e w' ⟨rfl, g, rfl⟩) | (go_at_call 14; (with_reducible refine (value_is ha0 hA hu hp _).mono ?_); rintro e w' ⟨rfl, g, rfl⟩) | (go_at_call 14; (with_reducible refine (value_is hb0 hB hv hq _).mono ?_); rintro e w' ⟨rfl, g, rfl⟩))
  refine wp_region_more (by kernel_rfl) (by kernel_rfl) ?_
  repeat (go_big_quiet_step (first | (go_at_call 11; with_reducible exact quiet_of (two2_is ha0 hA hc0 hC rfl h4 _)) | (go_at_call 11; with_reducible exact quiet_of (two2_is hb0 hB hc0 hC rfl h4' _)) | (go_at_call 11; with_reducible exact quiet_of (two2_is hs0 hS hs0' hS' rfl hfin _))))
  refine wpQuiet_nil ?_
  rintro _ ⟨g, rfl⟩
  go_wp2
  go_ret
  exact Ret.mk ((((Later.refl _).alloc _).alloc _).more _)
set_option maxRecDepth 100000 in
set_option maxHeartbeats 2000000 in
theorem order_lt_tf_0 (s : Bool) (n a b c N A B C U V S S' : Int) (ha : 0 ≤ a) (hax : a < 18446744073709551616) (hb : 0 ≤ b) (hbx : b < 18446744073709551616) (hc : 0 ≤ c) (hcx : c < 18446744073709551616)
    (hN : 1 + n % 64 = N) (hm : Wd.may false s N = true) (eA : Wd.cut N a = A) (eB : Wd.cut N b = B) (eC : Wd.cut N c = C) (ha0 : 0 ≤ A) (hA : Wd.isw false s N A = true) (hb0 : 0 ≤ B) (hB : Wd.isw false s N B = true) (hc0 : 0 ≤ C) (hC : Wd.isw false s N C = true)
    (h7 : Wd.twoV s N 7 A B = 0) (h8 : Wd.twoV s N 8 A B = 1) (h9 : Wd.twoV s N 9 A B = 1) (h10 : Wd.twoV s N 10 A B = 1) (h11 : Wd.twoV s N 11 A B = 0) (h12 : Wd.twoV s N 12 A B = 0) (h7' : Wd.twoV s N 7 B A = 0) (h11' : Wd.twoV s N 11 B A = 1) (heq : (A == B) = false) (hp : Wd.hld s A = true) (hu : Wd.val s N A = U) (hv : Wd.val s N B = V) (q : Bool) (hq : Wd.hld s B = q) (hqq : q = false) (hbc : Wd.twoV s N 9 B C = 0) (h4 : Wd.twoV s N 4 A C = S) (h4' : Wd.twoV s N 4 B C = S') (hs0 : 0 ≤ S) (hS : Wd.isw false s N S = true) (hs0' : 0 ≤ S') (hS' : Wd.isw false s N S' = true) (hfin : Wd.twoV s N 7 S S' = 0) (w : World) :
    Calls Try.prog 3 #[.agg #[.bool false, .bool s, .int .i64 n], .agg #[.int .u64 a, .int .u64 b, .int .u64 c]] w (Ret w (.bool true)) := by
  have HN := Lib.hid hN
  clear hN
  subst hqq
  go_enter Try.func3, Try.ntmps3
  go_wp2_with (go_at_call 9; refine (made_is HN.out _).mono ?_; rintro e w' ⟨rfl, g, rfl⟩)
  refine wp_region_more (by kernel_rfl) (by kernel_rfl) ?_
  repeat (go_big_quiet_step (first | (go_at_call 10; with_reducible exact quiet_of (cut_is hm ha hax eA _)) | (go_at_call 10; with_reducible exact quiet_of (cut_is hm hb hbx eB _)) | (go_at_call 10; with_reducible exact quiet_of (cut_is hm hc hcx eC _))))
  refine wpQuiet_nil ?_
  rintro _ ⟨g, rfl⟩
  go_wp2_with fail
  refine wp_region_more (by kernel_rfl) (by kernel_rfl) ?_
  repeat (go_big_quiet_step (first | (go_at_call 11; with_reducible exact quiet_of (two2_is ha0 hA hb0 hB rfl h7 _)) | (go_at_call 11; with_reducible exact quiet_of (two2_is ha0 hA hb0 hB rfl h8 _))))
  refine wpQuiet_nil ?_
  rintro _ ⟨g, rfl⟩
  go_wp2_with (first | (go_at_call 12; refine (wakes_any _).mono ?_; rintro e w' ⟨rfl, g, rfl⟩) | (go_at_call 11; (with_reducible refine (two2_is hb0 hB ha0 hA rfl h7' _).mono ?_); rintro e w' ⟨rfl, g, rfl⟩) | (go_at_call 11; (with_reducible refine (two2_is ha0 hA hb0 hB rfl h10 _).mono ?_); rintro e w' ⟨rfl, g, rfl⟩) | (go_at_call 11; (with_reducible refine (two2_is ha0 hA hb0 hB rfl h12 _).mono ?_); rintro e w' ⟨rfl, g, rfl⟩) | (go_at_call 11; (with_reducible refine (two2_is hb0 hB ha0 hA rfl h11' _).mono ?_); rintro e w' ⟨rfl, g, rfl⟩) | (go_at_call 11; (with_reducible refine (two2_is hb0 hB hc0 hC rfl hbc _).mono ?_); rintro e w' ⟨rfl, g, rfl⟩) | (go_at_call 14; (with_reducible refine (value_is ha0 hA hu hp _).mono ?_); rintro e w' ⟨rfl, g, rfl⟩) | (go_at_call 14; (with_reducible refine (value_is hb0 hB hv hq _).mono ?_); rintro e w' ⟨rfl, g, rfl⟩))
  refine wp_region_more (by kernel_rfl) (by kernel_rfl) ?_
  repeat (go_big_quiet_step (first | (go_at_call 11; with_reducible exact quiet_of (two2_is ha0 hA hb0 hB rfl h9 _)) | (go_at_call 11; with_reducible exact quiet_of (two2_is ha0 hA hb0 hB rfl h11 _))))
  refine wpQuiet_nil ?_
  rintro _ ⟨g, rfl⟩
  go_wp2_with (first | (go_at_call 12; refine (wakes_any _).mono ?_; rintro e w' ⟨rfl, g, rfl⟩) | (go_at_call 11; (with_reducible refine (two2_is hb0 hB ha0 hA rfl h7' _).mono ?_); rintro e w' ⟨rfl, g, rfl⟩) | (go_at_call 11; (with_reducible refine (two2_is ha0 hA hb0 hB rfl h10 _).mono ?_); rintro e w' ⟨rfl, g, rfl⟩) | (go_at_call 11; (with_reducible refine (two2_is ha0 hA hb0 hB rfl h12 _).mono ?_); rintro e w' ⟨rfl, g, rfl⟩) | (go_at_call 11; (with_reducible refine (two2_is hb0 hB ha0 hA rfl h11' _).mono ?_); rintro e w' ⟨rfl, g, rfl⟩) | (go_at_call 11; (with_reducible refine (two2_is hb0 hB hc0 hC rfl hbc _).mono ?_); rintro e w' ⟨rfl, g, rfl⟩) | (go_at_call 14; (with_reducible refine (value_is ha0 hA hu hp _).mono ?_); rintro e w' ⟨rfl, g, rfl⟩) | (go_at_call 14; (with_reducible refine (value_is hb0 hB hv hq _).mono ?_); rintro e w' ⟨rfl, g, rfl⟩))
  refine wp_region_more (by kernel_rfl) (by kernel_rfl) ?_
  repeat (go_big_quiet_step (first | (go_at_call 11; with_reducible exact quiet_of (two2_is ha0 hA hc0 hC rfl h4 _)) | (go_at_call 11; with_reducible exact quiet_of (two2_is hb0 hB hc0 hC rfl h4' _)) | (go_at_call 11; with_reducible exact quiet_of (two2_is hs0 hS hs0' hS' rfl hfin _))))
  refine wpQuiet_nil ?_
  rintro _ ⟨g, rfl⟩
  go_wp2
  go_ret
  exact Ret.mk ((((Later.refl _).alloc _).alloc _).more _)
set_option maxRecDepth 100000 in
set_option maxHeartbeats 2000000 in
theorem order_lt_tf_1 (s : Bool) (n a b c N A B C U V S S' : Int) (ha : 0 ≤ a) (hax : a < 18446744073709551616) (hb : 0 ≤ b) (hbx : b < 18446744073709551616) (hc : 0 ≤ c) (hcx : c < 18446744073709551616)
    (hN : 1 + n % 64 = N) (hm : Wd.may false s N = true) (eA : Wd.cut N a = A) (eB : Wd.cut N b = B) (eC : Wd.cut N c = C) (ha0 : 0 ≤ A) (hA : Wd.isw false s N A = true) (hb0 : 0 ≤ B) (hB : Wd.isw false s N B = true) (hc0 : 0 ≤ C) (hC : Wd.isw false s N C = true)
    (h7 : Wd.twoV s N 7 A B = 0) (h8 : Wd.twoV s N 8 A B = 1) (h9 : Wd.twoV s N 9 A B = 1) (h10 : Wd.twoV s N 10 A B = 1) (h11 : Wd.twoV s N 11 A B = 0) (h12 : Wd.twoV s N 12 A B = 0) (h7' : Wd.twoV s N 7 B A = 0) (h11' : Wd.twoV s N 11 B A = 1) (heq : (A == B) = false) (hp : Wd.hld s A = true) (hu : Wd.val s N A = U) (hv : Wd.val s N B = V) (q : Bool) (hq : Wd.hld s B = q) (hqq : q = false) (hbc : Wd.twoV s N 9 B C = 1) (hac : Wd.twoV s N 9 A C = 1) (h4 : Wd.twoV s N 4 A C = S) (h4' : Wd.twoV s N 4 B C = S') (hs0 : 0 ≤ S) (hS : Wd.isw false s N S = true) (hs0' : 0 ≤ S') (hS' : Wd.isw false s N S' = true) (hfin : Wd.twoV s N 7 S S' = 0) (w : World) :
    Calls Try.prog 3 #[.agg #[.bool false, .bool s, .int .i64 n], .agg #[.int .u64 a, .int .u64 b, .int .u64 c]] w (Ret w (.bool true)) := by
  have HN := Lib.hid hN
  clear hN
  subst hqq
  go_enter Try.func3, Try.ntmps3
  go_wp2_with (go_at_call 9; refine (made_is HN.out _).mono ?_; rintro e w' ⟨rfl, g, rfl⟩)
  refine wp_region_more (by kernel_rfl) (by kernel_rfl) ?_
  repeat (go_big_quiet_step (first | (go_at_call 10; with_reducible exact quiet_of (cut_is hm ha hax eA _)) | (go_at_call 10; with_reducible exact quiet_of (cut_is hm hb hbx eB _)) | (go_at_call 10; with_reducible exact quiet_of (cut_is hm hc hcx eC _))))
  refine wpQuiet_nil ?_
  rintro _ ⟨g, rfl⟩
  go_wp2_with fail
  refine wp_region_more (by kernel_rfl) (by kernel_rfl) ?_
  repeat (go_big_quiet_step (first | (go_at_call 11; with_reducible exact quiet_of (two2_is ha0 hA hb0 hB rfl h7 _)) | (go_at_call 11; with_reducible exact quiet_of (two2_is ha0 hA hb0 hB rfl h8 _))))
  refine wpQuiet_nil ?_
  rintro _ ⟨g, rfl⟩
  go_wp2_with (first | (go_at_call 12; refine (wakes_any _).mono ?_; rintro e w' ⟨rfl, g, rfl⟩) | (go_at_call 11; (with_reducible refine (two2_is hb0 hB ha0 hA rfl h7' _).mono ?_); rintro e w' ⟨rfl, g, rfl⟩) | (go_at_call 11; (with_reducible refine (two2_is ha0 hA hb0 hB rfl h10 _).mono ?_); rintro e w' ⟨rfl, g, rfl⟩) | (go_at_call 11; (with_reducible refine (two2_is ha0 hA hb0 hB rfl h12 _).mono ?_); rintro e w' ⟨rfl, g, rfl⟩) | (go_at_call 11; (with_reducible refine (two2_is hb0 hB ha0 hA rfl h11' _).mono ?_); rintro e w' ⟨rfl, g, rfl⟩) | (go_at_call 11; (with_reducible refine (two2_is hb0 hB hc0 hC rfl hbc _).mono ?_); rintro e w' ⟨rfl, g, rfl⟩) | (go_at_call 11; (with_reducible refine (two2_is ha0 hA hc0 hC rfl hac _).mono ?_); rintro e w' ⟨rfl, g, rfl⟩) | (go_at_call 14; (with_reducible refine (value_is ha0 hA hu hp _).mono ?_); rintro e w' ⟨rfl, g, rfl⟩) | (go_at_call 14; (with_reducible refine (value_is hb0 hB hv hq _).mono ?_); rintro e w' ⟨rfl, g, rfl⟩))
  refine wp_region_more (by kernel_rfl) (by kernel_rfl) ?_
  repeat (go_big_quiet_step (first | (go_at_call 11; with_reducible exact quiet_of (two2_is ha0 hA hb0 hB rfl h9 _)) | (go_at_call 11; with_reducible exact quiet_of (two2_is ha0 hA hb0 hB rfl h11 _))))
  refine wpQuiet_nil ?_
  rintro _ ⟨g, rfl⟩
  go_wp2_with (first | (go_at_call 12; refine (wakes_any _).mono ?_; rintro e w' ⟨rfl, g, rfl⟩) | (go_at_call 11; (with_reducible refine (two2_is hb0 hB ha0 hA rfl h7' _).mono ?_); rintro e w' ⟨rfl, g, rfl⟩) | (go_at_call 11; (with_reducible refine (two2_is ha0 hA hb0 hB rfl h10 _).mono ?_); rintro e w' ⟨rfl, g, rfl⟩) | (go_at_call 11; (with_reducible refine (two2_is ha0 hA hb0 hB rfl h12 _).mono ?_); rintro e w' ⟨rfl, g, rfl⟩) | (go_at_call 11; (with_reducible refine (two2_is hb0 hB ha0 hA rfl h11' _).mono ?_); rintro e w' ⟨rfl, g, rfl⟩) | (go_at_call 11; (with_reducible refine (two2_is hb0 hB hc0 hC rfl hbc _).mono ?_); rintro e w' ⟨rfl, g, rfl⟩) | (go_at_call 11; (with_reducible refine (two2_is ha0 hA hc0 hC rfl hac _).mono ?_); rintro e w' ⟨rfl, g, rfl⟩) | (go_at_call 14; (with_reducible refine (value_is ha0 hA hu hp _).mono ?_); rintro e w' ⟨rfl, g, rfl⟩) | (go_at_call 14; (with_reducible refine (value_is hb0 hB hv hq _).mono ?_); rintro e w' ⟨rfl, g, rfl⟩))
  refine wp_region_more (by kernel_rfl) (by kernel_rfl) ?_
  repeat (go_big_quiet_step (first | (go_at_call 11; with_reducible exact quiet_of (two2_is ha0 hA hc0 hC rfl h4 _)) | (go_at_call 11; with_reducible exact quiet_of (two2_is hb0 hB hc0 hC rfl h4' _)) | (go_at_call 11; with_reducible exact quiet_of (two2_is hs0 hS hs0' hS' rfl hfin _))))
  refine wpQuiet_nil ?_
  rintro _ ⟨g, rfl⟩
  go_wp2
  go_ret
  exact Ret.mk ((((Later.refl _).alloc _).alloc _).more _)
set_option maxRecDepth 100000 in
set_option maxHeartbeats 2000000 in
theorem order_lt_f_0 (s : Bool) (n a b c N A B C U V S S' : Int) (ha : 0 ≤ a) (hax : a < 18446744073709551616) (hb : 0 ≤ b) (hbx : b < 18446744073709551616) (hc : 0 ≤ c) (hcx : c < 18446744073709551616)
    (hN : 1 + n % 64 = N) (hm : Wd.may false s N = true) (eA : Wd.cut N a = A) (eB : Wd.cut N b = B) (eC : Wd.cut N c = C) (ha0 : 0 ≤ A) (hA : Wd.isw false s N A = true) (hb0 : 0 ≤ B) (hB : Wd.isw false s N B = true) (hc0 : 0 ≤ C) (hC : Wd.isw false s N C = true)
    (h7 : Wd.twoV s N 7 A B = 0) (h8 : Wd.twoV s N 8 A B = 1) (h9 : Wd.twoV s N 9 A B = 1) (h10 : Wd.twoV s N 10 A B = 1) (h11 : Wd.twoV s N 11 A B = 0) (h12 : Wd.twoV s N 12 A B = 0) (h7' : Wd.twoV s N 7 B A = 0) (h11' : Wd.twoV s N 11 B A = 1) (heq : (A == B) = false) (hp : Wd.hld s A = false) (hu : Wd.val s N A = U) (hv : Wd.val s N B = V) (q : Bool) (hq : Wd.hld s B = q) (hbc : Wd.twoV s N 9 B C = 0) (h4 : Wd.twoV s N 4 A C = S) (h4' : Wd.twoV s N 4 B C = S') (hs0 : 0 ≤ S) (hS : Wd.isw false s N S = true) (hs0' : 0 ≤ S') (hS' : Wd.isw false s N S' = true) (hfin : Wd.twoV s N 7 S S' = 0) (w : World) :
    Calls Try.prog 3 #[.agg #[.bool false, .bool s, .int .i64 n], .agg #[.int .u64 a, .int .u64 b, .int .u64 c]] w (Ret w (.bool true)) := by
  have HN := Lib.hid hN
  clear hN
  go_enter Try.func3, Try.ntmps3
  go_wp2_with (go_at_call 9; refine (made_is HN.out _).mono ?_; rintro e w' ⟨rfl, g, rfl⟩)
  refine wp_region_more (by kernel_rfl) (by kernel_rfl) ?_
  repeat (go_big_quiet_step (first | (go_at_call 10; with_reducible exact quiet_of (cut_is hm ha hax eA _)) | (go_at_call 10; with_reducible exact quiet_of (cut_is hm hb hbx eB _)) | (go_at_call 10; with_reducible exact quiet_of (cut_is hm hc hcx eC _))))
  refine wpQuiet_nil ?_
  rintro _ ⟨g, rfl⟩
  go_wp2_with fail
  refine wp_region_more (by kernel_rfl) (by kernel_rfl) ?_
  repeat (go_big_quiet_step (first | (go_at_call 11; with_reducible exact quiet_of (two2_is ha0 hA hb0 hB rfl h7 _)) | (go_at_call 11; with_reducible exact quiet_of (two2_is ha0 hA hb0 hB rfl h8 _))))
  refine wpQuiet_nil ?_
  rintro _ ⟨g, rfl⟩
  go_wp2_with (first | (go_at_call 12; refine (wakes_any _).mono ?_; rintro e w' ⟨rfl, g, rfl⟩) | (go_at_call 11; (with_reducible refine (two2_is hb0 hB ha0 hA rfl h7' _).mono ?_); rintro e w' ⟨rfl, g, rfl⟩) | (go_at_call 11; (with_reducible refine (two2_is ha0 hA hb0 hB rfl h10 _).mono ?_); rintro e w' ⟨rfl, g, rfl⟩) | (go_at_call 11; (with_reducible refine (two2_is ha0 hA hb0 hB rfl h12 _).mono ?_); rintro e w' ⟨rfl, g, rfl⟩) | (go_at_call 11; (with_reducible refine (two2_is hb0 hB ha0 hA rfl h11' _).mono ?_); rintro e w' ⟨rfl, g, rfl⟩) | (go_at_call 11; (with_reducible refine (two2_is hb0 hB hc0 hC rfl hbc _).mono ?_); rintro e w' ⟨rfl, g, rfl⟩) | (go_at_call 14; (with_reducible refine (value_is ha0 hA hu hp _).mono ?_); rintro e w' ⟨rfl, g, rfl⟩) | (go_at_call 14; (with_reducible refine (value_is hb0 hB hv hq _).mono ?_); rintro e w' ⟨rfl, g, rfl⟩))
  refine wp_region_more (by kernel_rfl) (by kernel_rfl) ?_
  repeat (go_big_quiet_step (first | (go_at_call 11; with_reducible exact quiet_of (two2_is ha0 hA hb0 hB rfl h9 _)) | (go_at_call 11; with_reducible exact quiet_of (two2_is ha0 hA hb0 hB rfl h11 _))))
  refine wpQuiet_nil ?_
  rintro _ ⟨g, rfl⟩
  go_wp2_with (first | (go_at_call 12; refine (wakes_any _).mono ?_; rintro e w' ⟨rfl, g, rfl⟩) | (go_at_call 11; (with_reducible refine (two2_is hb0 hB ha0 hA rfl h7' _).mono ?_); rintro e w' ⟨rfl, g, rfl⟩) | (go_at_call 11; (with_reducible refine (two2_is ha0 hA hb0 hB rfl h10 _).mono ?_); rintro e w' ⟨rfl, g, rfl⟩) | (go_at_call 11; (with_reducible refine (two2_is ha0 hA hb0 hB rfl h12 _).mono ?_); rintro e w' ⟨rfl, g, rfl⟩) | (go_at_call 11; (with_reducible refine (two2_is hb0 hB ha0 hA rfl h11' _).mono ?_); rintro e w' ⟨rfl, g, rfl⟩) | (go_at_call 11; (with_reducible refine (two2_is hb0 hB hc0 hC rfl hbc _).mono ?_); rintro e w' ⟨rfl, g, rfl⟩) | (go_at_call 14; (with_reducible refine (value_is ha0 hA hu hp _).mono ?_); rintro e w' ⟨rfl, g, rfl⟩) | (go_at_call 14; (with_reducible refine (value_is hb0 hB hv hq _).mono ?_); rintro e w' ⟨rfl, g, rfl⟩))
  refine wp_region_more (by kernel_rfl) (by kernel_rfl) ?_
  repeat (go_big_quiet_step (first | (go_at_call 11; with_reducible exact quiet_of (two2_is ha0 hA hc0 hC rfl h4 _)) | (go_at_call 11; with_reducible exact quiet_of (two2_is hb0 hB hc0 hC rfl h4' _)) | (go_at_call 11; with_reducible exact quiet_of (two2_is hs0 hS hs0' hS' rfl hfin _))))
  refine wpQuiet_nil ?_
  rintro _ ⟨g, rfl⟩
  go_wp2
  go_ret
  exact Ret.mk ((((Later.refl _).alloc _).alloc _).more _)
set_option maxRecDepth 100000 in
set_option maxHeartbeats 2000000 in
theorem order_lt_f_1 (s : Bool) (n a b c N A B C U V S S' : Int) (ha : 0 ≤ a) (hax : a < 18446744073709551616) (hb : 0 ≤ b) (hbx : b < 18446744073709551616) (hc : 0 ≤ c) (hcx : c < 18446744073709551616)
    (hN : 1 + n % 64 = N) (hm : Wd.may false s N = true) (eA : Wd.cut N a = A) (eB : Wd.cut N b = B) (eC : Wd.cut N c = C) (ha0 : 0 ≤ A) (hA : Wd.isw false s N A = true) (hb0 : 0 ≤ B) (hB : Wd.isw false s N B = true) (hc0 : 0 ≤ C) (hC : Wd.isw false s N C = true)
    (h7 : Wd.twoV s N 7 A B = 0) (h8 : Wd.twoV s N 8 A B = 1) (h9 : Wd.twoV s N 9 A B = 1) (h10 : Wd.twoV s N 10 A B = 1) (h11 : Wd.twoV s N 11 A B = 0) (h12 : Wd.twoV s N 12 A B = 0) (h7' : Wd.twoV s N 7 B A = 0) (h11' : Wd.twoV s N 11 B A = 1) (heq : (A == B) = false) (hp : Wd.hld s A = false) (hu : Wd.val s N A = U) (hv : Wd.val s N B = V) (q : Bool) (hq : Wd.hld s B = q) (hbc : Wd.twoV s N 9 B C = 1) (hac : Wd.twoV s N 9 A C = 1) (h4 : Wd.twoV s N 4 A C = S) (h4' : Wd.twoV s N 4 B C = S') (hs0 : 0 ≤ S) (hS : Wd.isw false s N S = true) (hs0' : 0 ≤ S') (hS' : Wd.isw false s N S' = true) (hfin : Wd.twoV s N 7 S S' = 0) (w : World) :
    Calls Try.prog 3 #[.agg #[.bool false, .bool s, .int .i64 n], .agg #[.int .u64 a, .int .u64 b, .int .u64 c]] w (Ret w (.bool true)) := by
  have HN := Lib.hid hN
  clear hN
  go_enter Try.func3, Try.ntmps3
  go_wp2_with (go_at_call 9; refine (made_is HN.out _).mono ?_; rintro e w' ⟨rfl, g, rfl⟩)
  refine wp_region_more (by kernel_rfl) (by kernel_rfl) ?_
  repeat (go_big_quiet_step (first | (go_at_call 10; with_reducible exact quiet_of (cut_is hm ha hax eA _)) | (go_at_call 10; with_reducible exact quiet_of (cut_is hm hb hbx eB _)) | (go_at_call 10; with_reducible exact quiet_of (cut_is hm hc hcx eC _))))
  refine wpQuiet_nil ?_
  rintro _ ⟨g, rfl⟩
  go_wp2_with fail
  refine wp_region_more (by kernel_rfl) (by kernel_rfl) ?_
  repeat (go_big_quiet_step (first | (go_at_call 11; with_reducible exact quiet_of (two2_is ha0 hA hb0 hB rfl h7 _)) | (go_at_call 11; with_reducible exact quiet_of (two2_is ha0 hA hb0 hB rfl h8 _))))
  refine wpQuiet_nil ?_
  rintro _ ⟨g, rfl⟩
  go_wp2_with (first | (go_at_call 12; refine (wakes_any _).mono ?_; rintro e w' ⟨rfl, g, rfl⟩) | (go_at_call 11; (with_reducible refine (two2_is hb0 hB ha0 hA rfl h7' _).mono ?_); rintro e w' ⟨rfl, g, rfl⟩) | (go_at_call 11; (with_reducible refine (two2_is ha0 hA hb0 hB rfl h10 _).mono ?_); rintro e w' ⟨rfl, g, rfl⟩) | (go_at_call 11; (with_reducible refine (two2_is ha0 hA hb0 hB rfl h12 _).mono ?_); rintro e w' ⟨rfl, g, rfl⟩) | (go_at_call 11; (with_reducible refine (two2_is hb0 hB ha0 hA rfl h11' _).mono ?_); rintro e w' ⟨rfl, g, rfl⟩) | (go_at_call 11; (with_reducible refine (two2_is hb0 hB hc0 hC rfl hbc _).mono ?_); rintro e w' ⟨rfl, g, rfl⟩) | (go_at_call 11; (with_reducible refine (two2_is ha0 hA hc0 hC rfl hac _).mono ?_); rintro e w' ⟨rfl, g, rfl⟩) | (go_at_call 14; (with_reducible refine (value_is ha0 hA hu hp _).mono ?_); rintro e w' ⟨rfl, g, rfl⟩) | (go_at_call 14; (with_reducible refine (value_is hb0 hB hv hq _).mono ?_); rintro e w' ⟨rfl, g, rfl⟩))
  refine wp_region_more (by kernel_rfl) (by kernel_rfl) ?_
  repeat (go_big_quiet_step (first | (go_at_call 11; with_reducible exact quiet_of (two2_is ha0 hA hb0 hB rfl h9 _)) | (go_at_call 11; with_reducible exact quiet_of (two2_is ha0 hA hb0 hB rfl h11 _))))
  refine wpQuiet_nil ?_
  rintro _ ⟨g, rfl⟩
  go_wp2_with (first | (go_at_call 12; refine (wakes_any _).mono ?_; rintro e w' ⟨rfl, g, rfl⟩) | (go_at_call 11; (with_reducible refine (two2_is hb0 hB ha0 hA rfl h7' _).mono ?_); rintro e w' ⟨rfl, g, rfl⟩) | (go_at_call 11; (with_reducible refine (two2_is ha0 hA hb0 hB rfl h10 _).mono ?_); rintro e w' ⟨rfl, g, rfl⟩) | (go_at_call 11; (with_reducible refine (two2_is ha0 hA hb0 hB rfl h12 _).mono ?_); rintro e w' ⟨rfl, g, rfl⟩) | (go_at_call 11; (with_reducible refine (two2_is hb0 hB ha0 hA rfl h11' _).mono ?_); rintro e w' ⟨rfl, g, rfl⟩) | (go_at_call 11; (with_reducible refine (two2_is hb0 hB hc0 hC rfl hbc _).mono ?_); rintro e w' ⟨rfl, g, rfl⟩) | (go_at_call 11; (with_reducible refine (two2_is ha0 hA hc0 hC rfl hac _).mono ?_); rintro e w' ⟨rfl, g, rfl⟩) | (go_at_call 14; (with_reducible refine (value_is ha0 hA hu hp _).mono ?_); rintro e w' ⟨rfl, g, rfl⟩) | (go_at_call 14; (with_reducible refine (value_is hb0 hB hv hq _).mono ?_); rintro e w' ⟨rfl, g, rfl⟩))
  refine wp_region_more (by kernel_rfl) (by kernel_rfl) ?_
  repeat (go_big_quiet_step (first | (go_at_call 11; with_reducible exact quiet_of (two2_is ha0 hA hc0 hC rfl h4 _)) | (go_at_call 11; with_reducible exact quiet_of (two2_is hb0 hB hc0 hC rfl h4' _)) | (go_at_call 11; with_reducible exact quiet_of (two2_is hs0 hS hs0' hS' rfl hfin _))))
  refine wpQuiet_nil ?_
  rintro _ ⟨g, rfl⟩
  go_wp2
  go_ret
  exact Ret.mk ((((Later.refl _).alloc _).alloc _).more _)
set_option maxRecDepth 100000 in
set_option maxHeartbeats 2000000 in
theorem order_eq_tt (s : Bool) (n a b c N A B C U V S S' : Int) (ha : 0 ≤ a) (hax : a < 18446744073709551616) (hb : 0 ≤ b) (hbx : b < 18446744073709551616) (hc : 0 ≤ c) (hcx : c < 18446744073709551616)
    (hN : 1 + n % 64 = N) (hm : Wd.may false s N = true) (eA : Wd.cut N a = A) (eB : Wd.cut N b = B) (eC : Wd.cut N c = C) (ha0 : 0 ≤ A) (hA : Wd.isw false s N A = true) (hb0 : 0 ≤ B) (hB : Wd.isw false s N B = true) (hc0 : 0 ≤ C) (hC : Wd.isw false s N C = true)
    (h7 : Wd.twoV s N 7 A B = 1) (h8 : Wd.twoV s N 8 A B = 0) (h9 : Wd.twoV s N 9 A B = 0) (h10 : Wd.twoV s N 10 A B = 1) (h11 : Wd.twoV s N 11 A B = 0) (h12 : Wd.twoV s N 12 A B = 1) (h7' : Wd.twoV s N 7 B A = 1) (h11' : Wd.twoV s N 11 B A = 0) (heq : (A == B) = true) (hp : Wd.hld s A = true) (hu : Wd.val s N A = U) (hv : Wd.val s N B = V) (q : Bool) (hq : Wd.hld s B = q) (hqq : q = true) (huv : decide (U < V) = false) (h4 : Wd.twoV s N 4 A C = S) (h4' : Wd.twoV s N 4 B C = S') (hs0 : 0 ≤ S) (hS : Wd.isw false s N S = true) (hs0' : 0 ≤ S') (hS' : Wd.isw false s N S' = true) (hfin : Wd.twoV s N 7 S S' = 1) (w : World) :
    Calls Try.prog 3 #[.agg #[.bool false, .bool s, .int .i64 n], .agg #[.int .u64 a, .int .u64 b, .int .u64 c]] w (Ret w (.bool true)) := by
  have HN := Lib.hid hN
  clear hN
  subst hqq
  go_enter Try.func3, Try.ntmps3
  go_wp2_with (go_at_call 9; refine (made_is HN.out _).mono ?_; rintro e w' ⟨rfl, g, rfl⟩)
  refine wp_region_more (by kernel_rfl) (by kernel_rfl) ?_
  repeat (go_big_quiet_step (first | (go_at_call 10; with_reducible exact quiet_of (cut_is hm ha hax eA _)) | (go_at_call 10; with_reducible exact quiet_of (cut_is hm hb hbx eB _)) | (go_at_call 10; with_reducible exact quiet_of (cut_is hm hc hcx eC _))))
  refine wpQuiet_nil ?_
  rintro _ ⟨g, rfl⟩
  go_wp2_with fail
  refine wp_region_more (by kernel_rfl) (by kernel_rfl) ?_
  repeat (go_big_quiet_step (first | (go_at_call 11; with_reducible exact quiet_of (two2_is ha0 hA hb0 hB rfl h7 _)) | (go_at_call 11; with_reducible exact quiet_of (two2_is ha0 hA hb0 hB rfl h8 _))))
  refine wpQuiet_nil ?_
  rintro _ ⟨g, rfl⟩
  go_wp2_with (first | (go_at_call 12; refine (wakes_any _).mono ?_; rintro e w' ⟨rfl, g, rfl⟩) | (go_at_call 11; (with_reducible refine (two2_is hb0 hB ha0 hA rfl h7' _).mono ?_); rintro e w' ⟨rfl, g, rfl⟩) | (go_at_call 11; (with_reducible refine (two2_is ha0 hA hb0 hB rfl h10 _).mono ?_); rintro e w' ⟨rfl, g, rfl⟩) | (go_at_call 11; (with_reducible refine (two2_is ha0 hA hb0 hB rfl h12 _).mono ?_); rintro e w' ⟨rfl, g, rfl⟩) | (go_at_call 11; (with_reducible refine (two2_is hb0 hB ha0 hA rfl h11' _).mono ?_); rintro e w' ⟨rfl, g, rfl⟩) | (go_at_call 14; (with_reducible refine (value_is ha0 hA hu hp _).mono ?_); rintro e w' ⟨rfl, g, rfl⟩) | (go_at_call 14; (with_reducible refine (value_is hb0 hB hv hq _).mono ?_); rintro e w' ⟨rfl, g, rfl⟩))
  refine wp_region_more (by kernel_rfl) (by kernel_rfl) ?_
  repeat (go_big_quiet_step (first | (go_at_call 11; with_reducible exact quiet_of (two2_is ha0 hA hb0 hB rfl h9 _)) | (go_at_call 11; with_reducible exact quiet_of (two2_is ha0 hA hb0 hB rfl h11 _))))
  refine wpQuiet_nil ?_
  rintro _ ⟨g, rfl⟩
  go_wp2_with (first | (go_at_call 12; refine (wakes_any _).mono ?_; rintro e w' ⟨rfl, g, rfl⟩) | (go_at_call 11; (with_reducible refine (two2_is hb0 hB ha0 hA rfl h7' _).mono ?_); rintro e w' ⟨rfl, g, rfl⟩) | (go_at_call 11; (with_reducible refine (two2_is ha0 hA hb0 hB rfl h10 _).mono ?_); rintro e w' ⟨rfl, g, rfl⟩) | (go_at_call 11; (with_reducible refine (two2_is ha0 hA hb0 hB rfl h12 _).mono ?_); rintro e w' ⟨rfl, g, rfl⟩) | (go_at_call 11; (with_reducible refine (two2_is hb0 hB ha0 hA rfl h11' _).mono ?_); rintro e w' ⟨rfl, g, rfl⟩) | (go_at_call 14; (with_reducible refine (value_is ha0 hA hu hp _).mono ?_); rintro e w' ⟨rfl, g, rfl⟩) | (go_at_call 14; (with_reducible refine (value_is hb0 hB hv hq _).mono ?_); rintro e w' ⟨rfl, g, rfl⟩))
  refine wp_region_more (by kernel_rfl) (by kernel_rfl) ?_
  repeat (go_big_quiet_step (first | (go_at_call 11; with_reducible exact quiet_of (two2_is ha0 hA hc0 hC rfl h4 _)) | (go_at_call 11; with_reducible exact quiet_of (two2_is hb0 hB hc0 hC rfl h4' _)) | (go_at_call 11; with_reducible exact quiet_of (two2_is hs0 hS hs0' hS' rfl hfin _))))
  refine wpQuiet_nil ?_
  rintro _ ⟨g, rfl⟩
  go_wp2
  go_ret
  exact Ret.mk ((((Later.refl _).alloc _).alloc _).more _)
set_option maxRecDepth 100000 in
set_option maxHeartbeats 2000000 in
theorem order_eq_tf (s : Bool) (n a b c N A B C U V S S' : Int) (ha : 0 ≤ a) (hax : a < 18446744073709551616) (hb : 0 ≤ b) (hbx : b < 18446744073709551616) (hc : 0 ≤ c) (hcx : c < 18446744073709551616)
    (hN : 1 + n % 64 = N) (hm : Wd.may false s N = true) (eA : Wd.cut N a = A) (eB : Wd.cut N b = B) (eC : Wd.cut N c = C) (ha0 : 0 ≤ A) (hA : Wd.isw false s N A = true) (hb0 : 0 ≤ B) (hB : Wd.isw false s N B = true) (hc0 : 0 ≤ C) (hC : Wd.isw false s N C = true)
    (h7 : Wd.twoV s N 7 A B = 1) (h8 : Wd.twoV s N 8 A B = 0) (h9 : Wd.twoV s N 9 A B = 0) (h10 : Wd.twoV s N 10 A B = 1) (h11 : Wd.twoV s N 11 A B = 0) (h12 : Wd.twoV s N 12 A B = 1) (h7' : Wd.twoV s N 7 B A = 1) (h11' : Wd.twoV s N 11 B A = 0) (heq : (A == B) = true) (hp : Wd.hld s A = true) (hu : Wd.val s N A = U) (hv : Wd.val s N B = V) (q : Bool) (hq : Wd.hld s B = q) (hqq : q = false) (h4 : Wd.twoV s N 4 A C = S) (h4' : Wd.twoV s N 4 B C = S') (hs0 : 0 ≤ S) (hS : Wd.isw false s N S = true) (hs0' : 0 ≤ S') (hS' : Wd.isw false s N S' = true) (hfin : Wd.twoV s N 7 S S' = 1) (w : World) :
    Calls Try.prog 3 #[.agg #[.bool false, .bool s, .int .i64 n], .agg #[.int .u64 a, .int .u64 b, .int .u64 c]] w (Ret w (.bool true)) := by
  have HN := Lib.hid hN
  clear hN
  subst hqq
  go_enter Try.func3, Try.ntmps3
  go_wp2_with (go_at_call 9; refine (made_is HN.out _).mono ?_; rintro e w' ⟨rfl, g, rfl⟩)
  refine wp_region_more (by kernel_rfl) (by kernel_rfl) ?_
  repeat (go_big_quiet_step (first | (go_at_call 10; with_reducible exact quiet_of (cut_is hm ha hax eA _)) | (go_at_call 10; with_reducible exact quiet_of (cut_is hm hb hbx eB _)) | (go_at_call 10; with_reducible exact quiet_of (cut_is hm hc hcx eC _))))
  refine wpQuiet_nil ?_
  rintro _ ⟨g, rfl⟩
  go_wp2_with fail
  refine wp_region_more (by kernel_rfl) (by kernel_rfl) ?_
  repeat (go_big_quiet_step (first | (go_at_call 11; with_reducible exact quiet_of (two2_is ha0 hA hb0 hB rfl h7 _)) | (go_at_call 11; with_reducible exact quiet_of (two2_is ha0 hA hb0 hB rfl h8 _))))
  refine wpQuiet_nil ?_
  rintro _ ⟨g, rfl⟩
  go_wp2_with (first | (go_at_call 12; refine (wakes_any _).mono ?_; rintro e w' ⟨rfl, g, rfl⟩) | (go_at_call 11; (with_reducible refine (two2_is hb0 hB ha0 hA rfl h7' _).mono ?_); rintro e w' ⟨rfl, g, rfl⟩) | (go_at_call 11; (with_reducible refine (two2_is ha0 hA hb0 hB rfl h10 _).mono ?_); rintro e w' ⟨rfl, g, rfl⟩) | (go_at_call 11; (with_reducible refine (two2_is ha0 hA hb0 hB rfl h12 _).mono ?_); rintro e w' ⟨rfl, g, rfl⟩) | (go_at_call 11; (with_reducible refine (two2_is hb0 hB ha0 hA rfl h11' _).mono ?_); rintro e w' ⟨rfl, g, rfl⟩) | (go_at_call 14; (with_reducible refine (value_is ha0 hA hu hp _).mono ?_); rintro e w' ⟨rfl, g, rfl⟩) | (go_at_call 14; (with_reducible refine (value_is hb0 hB hv hq _).mono ?_); rintro e w' ⟨rfl, g, rfl⟩))
  refine wp_region_more (by kernel_rfl) (by kernel_rfl) ?_
  repeat (go_big_quiet_step (first | (go_at_call 11; with_reducible exact quiet_of (two2_is ha0 hA hb0 hB rfl h9 _)) | (go_at_call 11; with_reducible exact quiet_of (two2_is ha0 hA hb0 hB rfl h11 _))))
  refine wpQuiet_nil ?_
  rintro _ ⟨g, rfl⟩
  go_wp2_with (first | (go_at_call 12; refine (wakes_any _).mono ?_; rintro e w' ⟨rfl, g, rfl⟩) | (go_at_call 11; (with_reducible refine (two2_is hb0 hB ha0 hA rfl h7' _).mono ?_); rintro e w' ⟨rfl, g, rfl⟩) | (go_at_call 11; (with_reducible refine (two2_is ha0 hA hb0 hB rfl h10 _).mono ?_); rintro e w' ⟨rfl, g, rfl⟩) | (go_at_call 11; (with_reducible refine (two2_is ha0 hA hb0 hB rfl h12 _).mono ?_); rintro e w' ⟨rfl, g, rfl⟩) | (go_at_call 11; (with_reducible refine (two2_is hb0 hB ha0 hA rfl h11' _).mono ?_); rintro e w' ⟨rfl, g, rfl⟩) | (go_at_call 14; (with_reducible refine (value_is ha0 hA hu hp _).mono ?_); rintro e w' ⟨rfl, g, rfl⟩) | (go_at_call 14; (with_reducible refine (value_is hb0 hB hv hq _).mono ?_); rintro e w' ⟨rfl, g, rfl⟩))
  refine wp_region_more (by kernel_rfl) (by kernel_rfl) ?_
  repeat (go_big_quiet_step (first | (go_at_call 11; with_reducible exact quiet_of (two2_is ha0 hA hc0 hC rfl h4 _)) | (go_at_call 11; with_reducible exact quiet_of (two2_is hb0 hB hc0 hC rfl h4' _)) | (go_at_call 11; with_reducible exact quiet_of (two2_is hs0 hS hs0' hS' rfl hfin _))))
  refine wpQuiet_nil ?_
  rintro _ ⟨g, rfl⟩
  go_wp2
  go_ret
  exact Ret.mk ((((Later.refl _).alloc _).alloc _).more _)
set_option maxRecDepth 100000 in
set_option maxHeartbeats 2000000 in
theorem order_eq_f (s : Bool) (n a b c N A B C U V S S' : Int) (ha : 0 ≤ a) (hax : a < 18446744073709551616) (hb : 0 ≤ b) (hbx : b < 18446744073709551616) (hc : 0 ≤ c) (hcx : c < 18446744073709551616)
    (hN : 1 + n % 64 = N) (hm : Wd.may false s N = true) (eA : Wd.cut N a = A) (eB : Wd.cut N b = B) (eC : Wd.cut N c = C) (ha0 : 0 ≤ A) (hA : Wd.isw false s N A = true) (hb0 : 0 ≤ B) (hB : Wd.isw false s N B = true) (hc0 : 0 ≤ C) (hC : Wd.isw false s N C = true)
    (h7 : Wd.twoV s N 7 A B = 1) (h8 : Wd.twoV s N 8 A B = 0) (h9 : Wd.twoV s N 9 A B = 0) (h10 : Wd.twoV s N 10 A B = 1) (h11 : Wd.twoV s N 11 A B = 0) (h12 : Wd.twoV s N 12 A B = 1) (h7' : Wd.twoV s N 7 B A = 1) (h11' : Wd.twoV s N 11 B A = 0) (heq : (A == B) = true) (hp : Wd.hld s A = false) (hu : Wd.val s N A = U) (hv : Wd.val s N B = V) (q : Bool) (hq : Wd.hld s B = q) (h4 : Wd.twoV s N 4 A C = S) (h4' : Wd.twoV s N 4 B C = S') (hs0 : 0 ≤ S) (hS : Wd.isw false s N S = true) (hs0' : 0 ≤ S') (hS' : Wd.isw false s N S' = true) (hfin : Wd.twoV s N 7 S S' = 1) (w : World) :
    Calls Try.prog 3 #[.agg #[.bool false, .bool s, .int .i64 n], .agg #[.int .u64 a, .int .u64 b, .int .u64 c]] w (Ret w (.bool true)) := by
  have HN := Lib.hid hN
  clear hN
  go_enter Try.func3, Try.ntmps3
  go_wp2_with (go_at_call 9; refine (made_is HN.out _).mono ?_; rintro e w' ⟨rfl, g, rfl⟩)
  refine wp_region_more (by kernel_rfl) (by kernel_rfl) ?_
  repeat (go_big_quiet_step (first | (go_at_call 10; with_reducible exact quiet_of (cut_is hm ha hax eA _)) | (go_at_call 10; with_reducible exact quiet_of (cut_is hm hb hbx eB _)) | (go_at_call 10; with_reducible exact quiet_of (cut_is hm hc hcx eC _))))
  refine wpQuiet_nil ?_
  rintro _ ⟨g, rfl⟩
  go_wp2_with fail
  refine wp_region_more (by kernel_rfl) (by kernel_rfl) ?_
  repeat (go_big_quiet_step (first | (go_at_call 11; with_reducible exact quiet_of (two2_is ha0 hA hb0 hB rfl h7 _)) | (go_at_call 11; with_reducible exact quiet_of (two2_is ha0 hA hb0 hB rfl h8 _))))
  refine wpQuiet_nil ?_
  rintro _ ⟨g, rfl⟩
  go_wp2_with (first | (go_at_call 12; refine (wakes_any _).mono ?_; rintro e w' ⟨rfl, g, rfl⟩) | (go_at_call 11; (with_reducible refine (two2_is hb0 hB ha0 hA rfl h7' _).mono ?_); rintro e w' ⟨rfl, g, rfl⟩) | (go_at_call 11; (with_reducible refine (two2_is ha0 hA hb0 hB rfl h10 _).mono ?_); rintro e w' ⟨rfl, g, rfl⟩) | (go_at_call 11; (with_reducible refine (two2_is ha0 hA hb0 hB rfl h12 _).mono ?_); rintro e w' ⟨rfl, g, rfl⟩) | (go_at_call 11; (with_reducible refine (two2_is hb0 hB ha0 hA rfl h11' _).mono ?_); rintro e w' ⟨rfl, g, rfl⟩) | (go_at_call 14; (with_reducible refine (value_is ha0 hA hu hp _).mono ?_); rintro e w' ⟨rfl, g, rfl⟩) | (go_at_call 14; (with_reducible refine (value_is hb0 hB hv hq _).mono ?_); rintro e w' ⟨rfl, g, rfl⟩))
  refine wp_region_more (by kernel_rfl) (by kernel_rfl) ?_
  repeat (go_big_quiet_step (first | (go_at_call 11; with_reducible exact quiet_of (two2_is ha0 hA hb0 hB rfl h9 _)) | (go_at_call 11; with_reducible exact quiet_of (two2_is ha0 hA hb0 hB rfl h11 _))))
  refine wpQuiet_nil ?_
  rintro _ ⟨g, rfl⟩
  go_wp2_with (first | (go_at_call 12; refine (wakes_any _).mono ?_; rintro e w' ⟨rfl, g, rfl⟩) | (go_at_call 11; (with_reducible refine (two2_is hb0 hB ha0 hA rfl h7' _).mono ?_); rintro e w' ⟨rfl, g, rfl⟩) | (go_at_call 11; (with_reducible refine (two2_is ha0 hA hb0 hB rfl h10 _).mono ?_); rintro e w' ⟨rfl, g, rfl⟩) | (go_at_call 11; (with_reducible refine (two2_is ha0 hA hb0 hB rfl h12 _).mono ?_); rintro e w' ⟨rfl, g, rfl⟩) | (go_at_call 11; (with_reducible refine (two2_is hb0 hB ha0 hA rfl h11' _).mono ?_); rintro e w' ⟨rfl, g, rfl⟩) | (go_at_call 14; (with_reducible refine (value_is ha0 hA hu hp _).mono ?_); rintro e w' ⟨rfl, g, rfl⟩) | (go_at_call 14; (with_reducible refine (value_is hb0 hB hv hq _).mono ?_); rintro e w' ⟨rfl, g, rfl⟩))
  refine wp_region_more (by kernel_rfl) (by kernel_rfl) ?_
  repeat (go_big_quiet_step (first | (go_at_call 11; with_reducible exact quiet_of (two2_is ha0 hA hc0 hC rfl h4 _)) | (go_at_call 11; with_reducible exact quiet_of (two2_is hb0 hB hc0 hC rfl h4' _)) | (go_at_call 11; with_reducible exact quiet_of (two2_is hs0 hS hs0' hS' rfl hfin _))))
  refine wpQuiet_nil ?_
  rintro _ ⟨g, rfl⟩
  go_wp2
  go_ret
  exact Ret.mk ((((Later.refl _).alloc _).alloc _).more _)
set_option maxRecDepth 100000 in
set_option maxHeartbeats 2000000 in
theorem order_gt_tt (s : Bool) (n a b c N A B C U V S S' : Int) (ha : 0 ≤ a) (hax : a < 18446744073709551616) (hb : 0 ≤ b) (hbx : b < 18446744073709551616) (hc : 0 ≤ c) (hcx : c < 18446744073709551616)
    (hN : 1 + n % 64 = N) (hm : Wd.may false s N = true) (eA : Wd.cut N a = A) (eB : Wd.cut N b = B) (eC : Wd.cut N c = C) (ha0 : 0 ≤ A) (hA : Wd.isw false s N A = true) (hb0 : 0 ≤ B) (hB : Wd.isw false s N B = true) (hc0 : 0 ≤ C) (hC : Wd.isw false s N C = true)
    (h7 : Wd.twoV s N 7 A B = 0) (h8 : Wd.twoV s N 8 A B = 1) (h9 : Wd.twoV s N 9 A B = 0) (h10 : Wd.twoV s N 10 A B = 0) (h11 : Wd.twoV s N 11 A B = 1) (h12 : Wd.twoV s N 12 A B = 1) (h7' : Wd.twoV s N 7 B A = 0) (h11' : Wd.twoV s N 11 B A = 0) (heq : (A == B) = false) (hp : Wd.hld s A = true) (hu : Wd.val s N A = U) (hv : Wd.val s N B = V) (q : Bool) (hq : Wd.hld s B = q) (hqq : q = true) (huv : decide (U < V) = false) (h4 : Wd.twoV s N 4 A C = S) (h4' : Wd.twoV s N 4 B C = S') (hs0 : 0 ≤ S) (hS : Wd.isw false s N S = true) (hs0' : 0 ≤ S') (hS' : Wd.isw false s N S' = true) (hfin : Wd.twoV s N 7 S S' = 0) (w : World) :
    Calls Try.prog 3 #[.agg #[.bool false, .bool s, .int .i64 n], .agg #[.int .u64 a, .int .u64 b, .int .u64 c]] w (Ret w (.bool true)) := by
  have HN := Lib.hid hN
  clear hN
  subst hqq
  go_enter Try.func3, Try.ntmps3
  go_wp2_with (go_at_call 9; refine (made_is HN.out _).mono ?_; rintro e w' ⟨rfl, g, rfl⟩)
  refine wp_region_more (by kernel_rfl) (by kernel_rfl) ?_
  repeat (go_big_quiet_step (first | (go_at_call 10; with_reducible exact quiet_of (cut_is hm ha hax eA _)) | (go_at_call 10; with_reducible exact quiet_of (cut_is hm hb hbx eB _)) | (go_at_call 10; with_reducible exact quiet_of (cut_is hm hc hcx eC _))))
  refine wpQuiet_nil ?_
  rintro _ ⟨g, rfl⟩
  go_wp2_with fail
  refine wp_region_more (by kernel_rfl) (by kernel_rfl) ?_
  repeat (go_big_quiet_step (first | (go_at_call 11; with_reducible exact quiet_of (two2_is ha0 hA hb0 hB rfl h7 _)) | (go_at_call 11; with_reducible exact quiet_of (two2_is ha0 hA hb0 hB rfl h8 _))))
  refine wpQuiet_nil ?_
  rintro _ ⟨g, rfl⟩
  go_wp2_with (first | (go_at_call 12; refine (wakes_any _).mono ?_; rintro e w' ⟨rfl, g, rfl⟩) | (go_at_call 11; (with_reducible refine (two2_is hb0 hB ha0 hA rfl h7' _).mono ?_); rintro e w' ⟨rfl, g, rfl⟩) | (go_at_call 11; (with_reducible refine (two2_is ha0 hA hb0 hB rfl h10 _).mono ?_); rintro e w' ⟨rfl, g, rfl⟩) | (go_at_call 11; (with_reducible refine (two2_is ha0 hA hb0 hB rfl h12 _).mono ?_); rintro e w' ⟨rfl, g, rfl⟩) | (go_at_call 11; (with_reducible refine (two2_is hb0 hB ha0 hA rfl h11' _).mono ?_); rintro e w' ⟨rfl, g, rfl⟩) | (go_at_call 14; (with_reducible refine (value_is ha0 hA hu hp _).mono ?_); rintro e w' ⟨rfl, g, rfl⟩) | (go_at_call 14; (with_reducible refine (value_is hb0 hB hv hq _).mono ?_); rintro e w' ⟨rfl, g, rfl⟩))
  refine wp_region_more (by kernel_rfl) (by kernel_rfl) ?_
  repeat (go_big_quiet_step (first | (go_at_call 11; with_reducible exact quiet_of (two2_is ha0 hA hb0 hB rfl h9 _)) | (go_at_call 11; with_reducible exact quiet_of (two2_is ha0 hA hb0 hB rfl h11 _))))
  refine wpQuiet_nil ?_
  rintro _ ⟨g, rfl⟩
  go_wp2_with (first | (go_at_call 12; refine (wakes_any _).mono ?_; rintro e w' ⟨rfl, g, rfl⟩) | (go_at_call 11; (with_reducible refine (two2_is hb0 hB ha0 hA rfl h7' _).mono ?_); rintro e w' ⟨rfl, g, rfl⟩) | (go_at_call 11; (with_reducible refine (two2_is ha0 hA hb0 hB rfl h10 _).mono ?_); rintro e w' ⟨rfl, g, rfl⟩) | (go_at_call 11; (with_reducible refine (two2_is ha0 hA hb0 hB rfl h12 _).mono ?_); rintro e w' ⟨rfl, g, rfl⟩) | (go_at_call 11; (with_reducible refine (two2_is hb0 hB ha0 hA rfl h11' _).mono ?_); rintro e w' ⟨rfl, g, rfl⟩) | (go_at_call 14; (with_reducible refine (value_is ha0 hA hu hp _).mono ?_); rintro e w' ⟨rfl, g, rfl⟩) | (go_at_call 14; (with_reducible refine (value_is hb0 hB hv hq _).mono ?_); rintro e w' ⟨rfl, g, rfl⟩))
  refine wp_region_more (by kernel_rfl) (by kernel_rfl) ?_
  repeat (go_big_quiet_step (first | (go_at_call 11; with_reducible exact quiet_of (two2_is ha0 hA hc0 hC rfl h4 _)) | (go_at_call 11; with_reducible exact quiet_of (two2_is hb0 hB hc0 hC rfl h4' _)) | (go_at_call 11; with_reducible exact quiet_of (two2_is hs0 hS hs0' hS' rfl hfin _))))
  refine wpQuiet_nil ?_
  rintro _ ⟨g, rfl⟩
  go_wp2
  go_ret
  exact Ret.mk ((((Later.refl _).alloc _).alloc _).more _)
set_option maxRecDepth 100000 in
set_option maxHeartbeats 2000000 in
theorem order_gt_tf (s : Bool) (n a b c N A B C U V S S' : Int) (ha : 0 ≤ a) (hax : a < 18446744073709551616) (hb : 0 ≤ b) (hbx : b < 18446744073709551616) (hc : 0 ≤ c) (hcx : c < 18446744073709551616)
    (hN : 1 + n % 64 = N) (hm : Wd.may false s N = true) (eA : Wd.cut N a = A) (eB : Wd.cut N b = B) (eC : Wd.cut N c = C) (ha0 : 0 ≤ A) (hA : Wd.isw false s N A = true) (hb0 : 0 ≤ B) (hB : Wd.isw false s N B = true) (hc0 : 0 ≤ C) (hC : Wd.isw false s N C = true)
    (h7 : Wd.twoV s N 7 A B = 0) (h8 : Wd.twoV s N 8 A B = 1) (h9 : Wd.twoV s N 9 A B = 0) (h10 : Wd.twoV s N 10 A B = 0) (h11 : Wd.twoV s N 11 A B = 1) (h12 : Wd.twoV s N 12 A B = 1) (h7' : Wd.twoV s N 7 B A = 0) (h11' : Wd.twoV s N 11 B A = 0) (heq : (A == B) = false) (hp : Wd.hld s A = true) (hu : Wd.val s N A = U) (hv : Wd.val s N B = V) (q : Bool) (hq : Wd.hld s B = q) (hqq : q = false) (h4 : Wd.twoV s N 4 A C = S) (h4' : Wd.twoV s N 4 B C = S') (hs0 : 0 ≤ S) (hS : Wd.isw false s N S = true) (hs0' : 0 ≤ S') (hS' : Wd.isw false s N S' = true) (hfin : Wd.twoV s N 7 S S' = 0) (w : World) :
    Calls Try.prog 3 #[.agg #[.bool false, .bool s, .int .i64 n], .agg #[.int .u64 a, .int .u64 b, .int .u64 c]] w (Ret w (.bool true)) := by
  have HN := Lib.hid hN
  clear hN
  subst hqq
  go_enter Try.func3, Try.ntmps3
  go_wp2_with (go_at_call 9; refine (made_is HN.out _).mono ?_; rintro e w' ⟨rfl, g, rfl⟩)
  refine wp_region_more (by kernel_rfl) (by kernel_rfl) ?_
  repeat (go_big_quiet_step (first | (go_at_call 10; with_reducible exact quiet_of (cut_is hm ha hax eA _)) | (go_at_call 10; with_reducible exact quiet_of (cut_is hm hb hbx eB _)) | (go_at_call 10; with_reducible exact quiet_of (cut_is hm hc hcx eC _))))
  refine wpQuiet_nil ?_
  rintro _ ⟨g, rfl⟩
  go_wp2_with fail
  refine wp_region_more (by kernel_rfl) (by kernel_rfl) ?_
  repeat (go_big_quiet_step (first | (go_at_call 11; with_reducible exact quiet_of (two2_is ha0 hA hb0 hB rfl h7 _)) | (go_at_call 11; with_reducible exact quiet_of (two2_is ha0 hA hb0 hB rfl h8 _))))
  refine wpQuiet_nil ?_
  rintro _ ⟨g, rfl⟩
  go_wp2_with (first | (go_at_call 12; refine (wakes_any _).mono ?_; rintro e w' ⟨rfl, g, rfl⟩) | (go_at_call 11; (with_reducible refine (two2_is hb0 hB ha0 hA rfl h7' _).mono ?_); rintro e w' ⟨rfl, g, rfl⟩) | (go_at_call 11; (with_reducible refine (two2_is ha0 hA hb0 hB rfl h10 _).mono ?_); rintro e w' ⟨rfl, g, rfl⟩) | (go_at_call 11; (with_reducible refine (two2_is ha0 hA hb0 hB rfl h12 _).mono ?_); rintro e w' ⟨rfl, g, rfl⟩) | (go_at_call 11; (with_reducible refine (two2_is hb0 hB ha0 hA rfl h11' _).mono ?_); rintro e w' ⟨rfl, g, rfl⟩) | (go_at_call 14; (with_reducible refine (value_is ha0 hA hu hp _).mono ?_); rintro e w' ⟨rfl, g, rfl⟩) | (go_at_call 14; (with_reducible refine (value_is hb0 hB hv hq _).mono ?_); rintro e w' ⟨rfl, g, rfl⟩))
  refine wp_region_more (by kernel_rfl) (by kernel_rfl) ?_
  repeat (go_big_quiet_step (first | (go_at_call 11; with_reducible exact quiet_of (two2_is ha0 hA hb0 hB rfl h9 _)) | (go_at_call 11; with_reducible exact quiet_of (two2_is ha0 hA hb0 hB rfl h11 _))))
  refine wpQuiet_nil ?_
  rintro _ ⟨g, rfl⟩
  go_wp2_with (first | (go_at_call 12; refine (wakes_any _).mono ?_; rintro e w' ⟨rfl, g, rfl⟩) | (go_at_call 11; (with_reducible refine (two2_is hb0 hB ha0 hA rfl h7' _).mono ?_); rintro e w' ⟨rfl, g, rfl⟩) | (go_at_call 11; (with_reducible refine (two2_is ha0 hA hb0 hB rfl h10 _).mono ?_); rintro e w' ⟨rfl, g, rfl⟩) | (go_at_call 11; (with_reducible refine (two2_is ha0 hA hb0 hB rfl h12 _).mono ?_); rintro e w' ⟨rfl, g, rfl⟩) | (go_at_call 11; (with_reducible refine (two2_is hb0 hB ha0 hA rfl h11' _).mono ?_); rintro e w' ⟨rfl, g, rfl⟩) | (go_at_call 14; (with_reducible refine (value_is ha0 hA hu hp _).mono ?_); rintro e w' ⟨rfl, g, rfl⟩) | (go_at_call 14; (with_reducible refine (value_is hb0 hB hv hq _).mono ?_); rintro e w' ⟨rfl, g, rfl⟩))
  refine wp_region_more (by kernel_rfl) (by kernel_rfl) ?_
  repeat (go_big_quiet_step (first | (go_at_call 11; with_reducible exact quiet_of (two2_is ha0 hA hc0 hC rfl h4 _)) | (go_at_call 11; with_reducible exact quiet_of (two2_is hb0 hB hc0 hC rfl h4' _)) | (go_at_call 11; with_reducible exact quiet_of (two2_is hs0 hS hs0' hS' rfl hfin _))))
  refine wpQuiet_nil ?_
  rintro _ ⟨g, rfl⟩
  go_wp2
  go_ret
  exact Ret.mk ((((Later.refl _).alloc _).alloc _).more _)
set_option maxRecDepth 100000 in
set_option maxHeartbeats 2000000 in
theorem order_gt_f (s : Bool) (n a b c N A B C U V S S' : Int) (ha : 0 ≤ a) (hax : a < 18446744073709551616) (hb : 0 ≤ b) (hbx : b < 18446744073709551616) (hc : 0 ≤ c) (hcx : c < 18446744073709551616)
    (hN : 1 + n % 64 = N) (hm : Wd.may false s N = true) (eA : Wd.cut N a = A) (eB : Wd.cut N b = B) (eC : Wd.cut N c = C) (ha0 : 0 ≤ A) (hA : Wd.isw false s N A = true) (hb0 : 0 ≤ B) (hB : Wd.isw false s N B = true) (hc0 : 0 ≤ C) (hC : Wd.isw false s N C = true)
    (h7 : Wd.twoV s N 7 A B = 0) (h8 : Wd.twoV s N 8 A B = 1) (h9 : Wd.twoV s N 9 A B = 0) (h10 : Wd.twoV s N 10 A B = 0) (h11 : Wd.twoV s N 11 A B = 1) (h12 : Wd.twoV s N 12 A B = 1) (h7' : Wd.twoV s N 7 B A = 0) (h11' : Wd.twoV s N 11 B A = 0) (heq : (A == B) = false) (hp : Wd.hld s A = false) (hu : Wd.val s N A = U) (hv : Wd.val s N B = V) (q : Bool) (hq : Wd.hld s B = q) (h4 : Wd.twoV s N 4 A C = S) (h4' : Wd.twoV s N 4 B C = S') (hs0 : 0 ≤ S) (hS : Wd.isw false s N S = true) (hs0' : 0 ≤ S') (hS' : Wd.isw false s N S' = true) (hfin : Wd.twoV s N 7 S S' = 0) (w : World) :
    Calls Try.prog 3 #[.agg #[.bool false, .bool s, .int .i64 n], .agg #[.int .u64 a, .int .u64 b, .int .u64 c]] w (Ret w (.bool true)) := by
  have HN := Lib.hid hN
  clear hN
  go_enter Try.func3, Try.ntmps3
  go_wp2_with (go_at_call 9; refine (made_is HN.out _).mono ?_; rintro e w' ⟨rfl, g, rfl⟩)
  refine wp_region_more (by kernel_rfl) (by kernel_rfl) ?_
  repeat (go_big_quiet_step (first | (go_at_call 10; with_reducible exact quiet_of (cut_is hm ha hax eA _)) | (go_at_call 10; with_reducible exact quiet_of (cut_is hm hb hbx eB _)) | (go_at_call 10; with_reducible exact quiet_of (cut_is hm hc hcx eC _))))
  refine wpQuiet_nil ?_
  rintro _ ⟨g, rfl⟩
  go_wp2_with fail
  refine wp_region_more (by kernel_rfl) (by kernel_rfl) ?_
  repeat (go_big_quiet_step (first | (go_at_call 11; with_reducible exact quiet_of (two2_is ha0 hA hb0 hB rfl h7 _)) | (go_at_call 11; with_reducible exact quiet_of (two2_is ha0 hA hb0 hB rfl h8 _))))
  refine wpQuiet_nil ?_
  rintro _ ⟨g, rfl⟩
  go_wp2_with (first | (go_at_call 12; refine (wakes_any _).mono ?_; rintro e w' ⟨rfl, g, rfl⟩) | (go_at_call 11; (with_reducible refine (two2_is hb0 hB ha0 hA rfl h7' _).mono ?_); rintro e w' ⟨rfl, g, rfl⟩) | (go_at_call 11; (with_reducible refine (two2_is ha0 hA hb0 hB rfl h10 _).mono ?_); rintro e w' ⟨rfl, g, rfl⟩) | (go_at_call 11; (with_reducible refine (two2_is ha0 hA hb0 hB rfl h12 _).mono ?_); rintro e w' ⟨rfl, g, rfl⟩) | (go_at_call 11; (with_reducible refine (two2_is hb0 hB ha0 hA rfl h11' _).mono ?_); rintro e w' ⟨rfl, g, rfl⟩) | (go_at_call 14; (with_reducible refine (value_is ha0 hA hu hp _).mono ?_); rintro e w' ⟨rfl, g, rfl⟩) | (go_at_call 14; (with_reducible refine (value_is hb0 hB hv hq _).mono ?_); rintro e w' ⟨rfl, g, rfl⟩))
  refine wp_region_more (by kernel_rfl) (by kernel_rfl) ?_
  repeat (go_big_quiet_step (first | (go_at_call 11; with_reducible exact quiet_of (two2_is ha0 hA hb0 hB rfl h9 _)) | (go_at_call 11; with_reducible exact quiet_of (two2_is ha0 hA hb0 hB rfl h11 _))))
  refine wpQuiet_nil ?_
  rintro _ ⟨g, rfl⟩
  go_wp2_with (first | (go_at_call 12; refine (wakes_any _).mono ?_; rintro e w' ⟨rfl, g, rfl⟩) | (go_at_call 11; (with_reducible refine (two2_is hb0 hB ha0 hA rfl h7' _).mono ?_); rintro e w' ⟨rfl, g, rfl⟩) | (go_at_call 11; (with_reducible refine (two2_is ha0 hA hb0 hB rfl h10 _).mono ?_); rintro e w' ⟨rfl, g, rfl⟩) | (go_at_call 11; (with_reducible refine (two2_is ha0 hA hb0 hB rfl h12 _).mono ?_); rintro e w' ⟨rfl, g, rfl⟩) | (go_at_call 11; (with_reducible refine (two2_is hb0 hB ha0 hA rfl h11' _).mono ?_); rintro e w' ⟨rfl, g, rfl⟩) | (go_at_call 14; (with_reducible refine (value_is ha0 hA hu hp _).mono ?_); rintro e w' ⟨rfl, g, rfl⟩) | (go_at_call 14; (with_reducible refine (value_is hb0 hB hv hq _).mono ?_); rintro e w' ⟨rfl, g, rfl⟩))
  refine wp_region_more (by kernel_rfl) (by kernel_rfl) ?_
  repeat (go_big_quiet_step (first | (go_at_call 11; with_reducible exact quiet_of (two2_is ha0 hA hc0 hC rfl h4 _)) | (go_at_call 11; with_reducible exact quiet_of (two2_is hb0 hB hc0 hC rfl h4' _)) | (go_at_call 11; with_reducible exact quiet_of (two2_is hs0 hS hs0' hS' rfl hfin _))))
  refine wpQuiet_nil ?_
  rintro _ ⟨g, rfl⟩
  go_wp2
  go_ret
  exact Ret.mk ((((Later.refl _).alloc _).alloc _).more _)
end Go.Proofs.Ytihnemlnnjdagaa
