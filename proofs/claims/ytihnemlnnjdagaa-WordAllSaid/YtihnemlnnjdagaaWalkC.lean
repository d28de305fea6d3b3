/-
  No statement of the seat is proved here. Contracts of word.Two where it refuses; of word.Value, One, Shift, Convert at words; of the law's own helpers made, two, U, I, Bool.
-/
import Derived.Test.YtihnemlnnjdagaaWalkB
import Derived.Handy
namespace Go.Proofs.Ytihnemlnnjdagaa
open Go Go.RowKit

theorem two_ok (b s : Bool) (n op x y : Int) (h0 : 0 ≤ x) (hx : Wd.isw b s n x = true) (k0 : 0 ≤ y) (hy : Wd.isw b s n y = true) (hop : Wd.okOp b op = true) (w : World) :
    Calls Try.prog 13 #[.int .i64 op, .agg #[.bool b, .bool s, .int .i64 n], .int .u64 x, .int .u64 y] w (Ret w (.tuple #[.int .u64 (Wd.twoV s n op x y), .int .i64 0])) := by
  rcases Wd.okOp_cases hop with rfl | rfl | rfl | rfl | rfl | ⟨hb, rfl | rfl | rfl | rfl | rfl | rfl | rfl⟩
  · exact two_1 b s n x y h0 hx k0 hy w
  · exact two_2 b s n x y h0 hx k0 hy w
  · exact two_3 b s n x y h0 hx k0 hy w
  · exact two_7 b s n x y h0 hx k0 hy w
  · exact two_8 b s n x y h0 hx k0 hy w
  · exact two_4 b s n x y h0 hx k0 hy w hb
  · exact two_5 b s n x y h0 hx k0 hy w hb
  · exact two_6 b s n x y h0 hx k0 hy w hb
  · exact two_9 b s n x y h0 hx k0 hy w hb
  · exact two_10 b s n x y h0 hx k0 hy w hb
  · exact two_11 b s n x y h0 hx k0 hy w hb
  · exact two_12 b s n x y h0 hx k0 hy w hb

/-- word.Value of a word. -/
theorem value_any (b s : Bool) (n x : Int) (h0 : 0 ≤ x) (hx : Wd.isw b s n x = true) (w : World) :
    Calls Try.prog 14 #[.agg #[.bool b, .bool s, .int .i64 n], .int .u64 x] w (Ret w (.tuple #[.int .i64 (Wd.val s n x), .bool (Wd.hld s x)])) := by
  have hm := Wd.isw_may hx
  obtain ⟨h1, h2⟩ := Wd.may_bd hm
  have hp2 := Wd.pw_le h2
  have hx' := Wd.isw_lt hx
  have hx64 : x < 18446744073709551616 := by omega
  cases s
  · have e : wrap64 (Wd.wid false n x) = wrap64 x := by rw [Wd.wid_u h0 hx64]
    have E := Lib.hid e
    by_cases hc : x < 9223372036854775808
    · have h3 : ¬ wrap64 (Wd.wid false n x) < 0 := by rw [e]; unfold wrap64; omega
      clear e
      go_enter Try.func14, Try.ntmps14
      go_wp2_with (first | (go_at_call 17; refine (is_is (by assumption) (by assumption) (by assumption) _).mono ?_; rintro e w' ⟨rfl, g, rfl⟩) | (go_at_call 29; refine (wide_any _ _ _ _ h1 h2 (by assumption) (by assumption) _).mono ?_; rintro e w' ⟨rfl, g, rfl⟩))
      go_ret2
      exact Ret.mk' (by show Value.tuple #[.int .i64 (wrap64 (Wd.wid false n x)), .bool true] = _; rw [E.out, show wrap64 x = x by unfold wrap64; omega]; simp [Wd.val, Wd.hld, Wd.sv, hc]) (((Later.refl _).alloc _).more _)
    · have h3 : wrap64 (Wd.wid false n x) < 0 := by rw [e]; unfold wrap64; omega
      clear e
      go_enter Try.func14, Try.ntmps14
      go_wp2_with (first | (go_at_call 17; refine (is_is (by assumption) (by assumption) (by assumption) _).mono ?_; rintro e w' ⟨rfl, g, rfl⟩) | (go_at_call 29; refine (wide_any _ _ _ _ h1 h2 (by assumption) (by assumption) _).mono ?_; rintro e w' ⟨rfl, g, rfl⟩))
      go_ret2
      exact Ret.mk' (by show Value.tuple #[.int .i64 0, .bool false] = _; simp [Wd.val, Wd.hld, show decide (x < 9223372036854775808) = false by simpa using hc]) (((Later.refl _).alloc _).more _)
  · have e : wrap64 (Wd.wid true n x) = Wd.sv true n x := Wd.wrap_wid h1 h2 h0 hx'
    have E := Lib.hid e
    clear e
    go_enter Try.func14, Try.ntmps14
    go_wp2_with (first | (go_at_call 17; refine (is_is (by assumption) (by assumption) (by assumption) _).mono ?_; rintro e w' ⟨rfl, g, rfl⟩) | (go_at_call 29; refine (wide_any _ _ _ _ h1 h2 (by assumption) (by assumption) _).mono ?_; rintro e w' ⟨rfl, g, rfl⟩))
    go_ret2
    exact Ret.mk' (by show Value.tuple #[.int .i64 (wrap64 (Wd.wid true n x)), .bool true] = _; rw [E.out]; simp [Wd.val, Wd.hld]) (((Later.refl _).alloc _).more _)

theorem one_not (b s : Bool) (n x : Int) (h0 : 0 ≤ x) (hx : Wd.isw b s n x = true) (w : World) :
    Calls Try.prog 21 #[.int .i64 1, .agg #[.bool b, .bool s, .int .i64 n], .int .u64 x] w (Ret w (.tuple #[.int .u64 (Wd.oneV n 1 x), .int .i64 0])) := by
  have hm := Wd.isw_may hx
  obtain ⟨h1, h2⟩ := Wd.may_bd hm
  have hp2 := Wd.pw_le h2
  have hx' := Wd.isw_lt hx
  have hx64 : x < 18446744073709551616 := by omega
  have hsg : IntKind.u64.signed = false := rfl
  go_enter Try.func21, Try.ntmps21
  go_wp2_with (first | (go_at_call 17; refine (is_is (by assumption) (by assumption) (by assumption) _).mono ?_; rintro e w' ⟨rfl, g, rfl⟩) | (go_at_call 10; refine (cut_yes _ _ _ _ hm (by exact (Wd.not_bd h0 hx64).1) (by exact (Wd.not_bd h0 hx64).2) _).mono ?_; rintro e w' ⟨rfl, g, rfl⟩))
  go_ret2
  exact Ret.mk' (congrArg (fun v => Value.tuple #[.int .u64 v, .int .i64 0]) (by rw [Wd.not_wrap h0 hx64, Wd.cut_wrap h1 h2]; rfl)) (((Later.refl _).alloc _).more _)
theorem one_neg (s : Bool) (n x : Int) (h0 : 0 ≤ x) (hx : Wd.isw false s n x = true) (w : World) :
    Calls Try.prog 21 #[.int .i64 2, .agg #[.bool false, .bool s, .int .i64 n], .int .u64 x] w (Ret w (.tuple #[.int .u64 (Wd.oneV n 2 x), .int .i64 0])) := by
  have hm := Wd.isw_may hx
  obtain ⟨h1, h2⟩ := Wd.may_bd hm
  have hp2 := Wd.pw_le h2
  have hx' := Wd.isw_lt hx
  have hx64 : x < 18446744073709551616 := by omega
  go_enter Try.func21, Try.ntmps21
  go_wp2_with (first | (go_at_call 17; refine (is_is (by assumption) (by assumption) (by assumption) _).mono ?_; rintro e w' ⟨rfl, g, rfl⟩) | (go_at_call 10; refine (cut_yes _ _ _ _ hm (by exact (Wd.wrap_bd _).1) (by exact (Wd.wrap_bd _).2) _).mono ?_; rintro e w' ⟨rfl, g, rfl⟩))
  go_ret2
  exact Ret.mk' (congrArg (fun v => Value.tuple #[.int .u64 v, .int .i64 0]) (by rw [Wd.cut_wrap h1 h2]; rfl)) (((Later.refl _).alloc _).more _)

theorem shift_up (s : Bool) (n x k : Int) (h0 : 0 ≤ x) (hx : Wd.isw false s n x = true) (hk0 : 0 ≤ k) (hk : k ≤ 63) (w : World) :
    Calls Try.prog 15 #[.agg #[.bool false, .bool s, .int .i64 n], .int .u64 x, .int .i64 k] w (Ret w (.tuple #[.int .u64 (Wd.shV s n x k), .int .i64 0])) := by
  have hm := Wd.isw_may hx
  obtain ⟨h1, h2⟩ := Wd.may_bd hm
  have hp2 := Wd.pw_le h2
  have hx' := Wd.isw_lt hx
  have hx64 : x < 18446744073709551616 := by omega
  go_enter Try.func15, Try.ntmps15
  go_wp2_with (first | (go_at_call 17; refine (is_is (by assumption) (by assumption) (by assumption) _).mono ?_; rintro e w' ⟨rfl, g, rfl⟩))
  refine wp_region_more (by kernel_rfl) (by kernel_rfl) ?_
  repeat (go_big_quiet_step ((go_at_call 10; refine quiet_of (cut_yes _ _ _ _ hm (by first | exact (Wd.wrap_bd _).1 | exact (Wd.wid_bd _ _ _).1) (by first | exact (Wd.wrap_bd _).2 | exact (Wd.wid_bd _ _ _).2) _))))
  refine wpQuiet_nil ?_
  rintro _ ⟨g, rfl⟩
  go_wp2
  go_ret2
  exact Ret.mk' (congrArg (fun v => Value.tuple #[.int .u64 v, .int .i64 0]) (by rw [Wd.cut_wrap h1 h2]; simp [Wd.shV, Wd.pw, hk0])) (((Later.refl _).alloc _).more _)
theorem shift_dn_s (n x k : Int) (h0 : 0 ≤ x) (hx : Wd.isw false true n x = true) (hk0 : k < 0) (hk : -63 ≤ k) (w : World) :
    Calls Try.prog 15 #[.agg #[.bool false, .bool true, .int .i64 n], .int .u64 x, .int .i64 k] w (Ret w (.tuple #[.int .u64 (Wd.shV true n x k), .int .i64 0])) := by
  have hm := Wd.isw_may hx
  obtain ⟨h1, h2⟩ := Wd.may_bd hm
  have hp2 := Wd.pw_le h2
  have hx' := Wd.isw_lt hx
  have hx64 : x < 18446744073709551616 := by omega
  have e : wrap64 (Wd.wid true n x) = Wd.sv true n x := Wd.wrap_wid h1 h2 h0 hx'
  have E := Lib.hid e
  clear e
  go_enter Try.func15, Try.ntmps15
  go_wp2_with (first | (go_at_call 17; refine (is_is (by assumption) (by assumption) (by assumption) _).mono ?_; rintro e w' ⟨rfl, g, rfl⟩))
  refine wp_region_more (by kernel_rfl) (by kernel_rfl) ?_
  repeat (go_big_quiet_step (first | (go_at_call 10; refine quiet_of (cut_yes _ _ _ _ hm (by first | exact (Wd.wrap_bd _).1 | exact (Wd.wid_bd _ _ _).1) (by first | exact (Wd.wrap_bd _).2 | exact (Wd.wid_bd _ _ _).2) _)) | (go_at_call 29; refine quiet_of (wide_any _ _ _ _ h1 h2 (by assumption) (by assumption) _))))
  refine wpQuiet_nil ?_
  rintro _ ⟨g, rfl⟩
  go_wp2
  go_ret2
  exact Ret.mk' (congrArg (fun v => Value.tuple #[.int .u64 v, .int .i64 0]) (by rw [Wd.cut_wrap h1 h2, E.out]; simp [Wd.shV, Wd.pw, show ¬ (0 : Int) ≤ k by omega])) (((Later.refl _).alloc _).more _)
theorem shift_dn_u (n x k : Int) (h0 : 0 ≤ x) (hx : Wd.isw false false n x = true) (hk0 : k < 0) (hk : -63 ≤ k) (w : World) :
    Calls Try.prog 15 #[.agg #[.bool false, .bool false, .int .i64 n], .int .u64 x, .int .i64 k] w (Ret w (.tuple #[.int .u64 (Wd.shV false n x k), .int .i64 0])) := by
  have hm := Wd.isw_may hx
  obtain ⟨h1, h2⟩ := Wd.may_bd hm
  have hp2 := Wd.pw_le h2
  have hx' := Wd.isw_lt hx
  have hx64 : x < 18446744073709551616 := by omega
  go_enter Try.func15, Try.ntmps15
  go_wp2_with (first | (go_at_call 17; refine (is_is (by assumption) (by assumption) (by assumption) _).mono ?_; rintro e w' ⟨rfl, g, rfl⟩))
  go_ret2
  exact Ret.mk' (congrArg (fun v => Value.tuple #[.int .u64 v, .int .i64 0]) (Wd.sh_dn_u h0 hx' hk0)) (((Later.refl _).alloc _).more _)

theorem convert_yes (b s : Bool) (n : Int) (b' s' : Bool) (n' x : Int) (h0 : 0 ≤ x) (hx : Wd.isw b s n x = true) (hm : Wd.may b' s' n' = true) (hbb : (b' && !b) = false) (w : World) :
    Calls Try.prog 16 #[.agg #[.bool b, .bool s, .int .i64 n], .agg #[.bool b', .bool s', .int .i64 n'], .int .u64 x] w (Ret w (.tuple #[.int .u64 (Wd.cut n' (Wd.sv s n x)), .int .i64 0])) := by
  have hm0 := Wd.isw_may hx
  obtain ⟨h1, h2⟩ := Wd.may_bd hm0
  obtain ⟨j1, j2⟩ := Wd.may_bd hm
  have hp2 := Wd.pw_le h2
  have hx' := Wd.isw_lt hx
  have hx64 : x < 18446744073709551616 := by omega
  cases b' <;> cases b <;> first | (simp at hbb; done) | (
    go_enter Try.func16, Try.ntmps16
    go_wp2_with (first | (go_at_call 17; refine (is_is (by assumption) (by assumption) (by assumption) _).mono ?_; rintro e w' ⟨rfl, g, rfl⟩) | (go_at_call 23; refine (may_is hm _).mono ?_; rintro e w' ⟨rfl, g, rfl⟩))
    refine wp_region_more (by kernel_rfl) (by kernel_rfl) ?_
    repeat (go_big_quiet_step (first | (go_at_call 10; refine quiet_of (cut_yes _ _ _ _ hm (by first | exact (Wd.wrap_bd _).1 | exact (Wd.wid_bd _ _ _).1) (by first | exact (Wd.wrap_bd _).2 | exact (Wd.wid_bd _ _ _).2) _)) | (go_at_call 29; refine quiet_of (wide_any _ _ _ _ h1 h2 (by assumption) (by assumption) _))))
    refine wpQuiet_nil ?_
    rintro _ ⟨g, rfl⟩
    go_wp2
    go_ret2
    exact Ret.mk' (congrArg (fun v => Value.tuple #[.int .u64 v, .int .i64 0]) (Wd.cut_wid j1 j2)) ((((Later.refl _).alloc _).alloc _).more _))

theorem made_b (s : Bool) (n : Int) (w : World) : Calls Try.prog 9 #[.agg #[.bool true, .bool s, .int .i64 n]] w (Ret w (.agg #[.bool true, .bool false, .int .i64 1])) := by
  go_enter Try.func9, Try.ntmps9
  go_wp2
  go_returns
  exact Ret.mk ((((Later.refl _).alloc _).alloc _).alloc _)
theorem made_n (s : Bool) (n : Int) (w : World) : Calls Try.prog 9 #[.agg #[.bool false, .bool s, .int .i64 n]] w (Ret w (.agg #[.bool false, .bool s, .int .i64 (1 + n % 64)])) := by
  go_enter Try.func9, Try.ntmps9
  go_wp2
  go_returns
  exact Ret.mk' (by rw [Wd.made_calc]) (((Later.refl _).alloc _).alloc _)

/-- The law's 'two', where Two does not refuse. -/
theorem two2 (b s : Bool) (n op x y : Int) (h0 : 0 ≤ x) (hx : Wd.isw b s n x = true) (k0 : 0 ≤ y) (hy : Wd.isw b s n y = true) (hop : Wd.okOp b op = true) (w : World) :
    Calls Try.prog 11 #[.int .i64 op, .agg #[.bool b, .bool s, .int .i64 n], .int .u64 x, .int .u64 y] w (Ret w (.int .u64 (Wd.twoV s n op x y))) := by
  go_enter Try.func11, Try.ntmps11
  go_wp2_with (go_at_call 13; refine (two_ok _ _ _ _ _ _ h0 hx k0 hy hop _).mono ?_; rintro e w' ⟨rfl, g, rfl⟩)
  go_ret
  exact Ret.mk (((Later.refl _).alloc _).more _)
theorem u_any (n : Int) (w : World) : Calls Try.prog 22 #[.int .i64 n] w (Ret w (.agg #[.bool false, .bool false, .int .i64 n])) := by
  go_enter Try.func22, Try.ntmps22
  go_wp2
  go_returns
  exact Ret.mk ((Later.refl _).alloc _)
theorem i_any (n : Int) (w : World) : Calls Try.prog 25 #[.int .i64 n] w (Ret w (.agg #[.bool false, .bool true, .int .i64 n])) := by
  go_enter Try.func25, Try.ntmps25
  go_wp2
  go_returns
  exact Ret.mk ((Later.refl _).alloc _)
end Go.Proofs.Ytihnemlnnjdagaa
