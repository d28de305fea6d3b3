/-
  No statement of the seat is proved here. Contracts of the document's All and, where it refuses, of word.All, for every op, type and row of words.
-/
import Derived.Test.YtihnemlnnjdagaaRowE
import Derived.Test.YtihnemlnnjdagaaRing
import Derived.BigQuiet
namespace Go.Proofs.Ytihnemlnnjdagaa
open Go Go.RowKit Bt
set_option linter.unusedVariables false
theorem rtwo_ok {b s : Bool} {op : Int} {N X Y : Nat} (hx : Wd.isw b s N X = true) (hy : Wd.isw b s N Y = true) (hop : op = 1 ∨ op = 2 ∨ op = 3 ∨ b = false ∧ (op = 4 ∨ op = 6)) (w : World) :
    Calls Try.prog 34 #[.int .i64 op, .agg #[.bool b, .bool s, .int .i64 N], .int .u64 X, .int .u64 Y] w (Ret w (.tuple #[.int .u64 (Wd.twoV s N op X Y), .int .i64 0])) := by
  have hp := pw_cast N
  rcases hop with rfl | rfl | rfl | ⟨rfl, rfl | rfl⟩
  · rw [Wd.tw1, Wd.andI, Int.toNat_natCast, Int.toNat_natCast]
    cases b
    · exact rtwo_1f hx hy w
    · exact rtwo_1t hx hy w
  · rw [Wd.tw2, Wd.orI, Int.toNat_natCast, Int.toNat_natCast]
    cases b
    · exact rtwo_2f hx hy w
    · exact rtwo_2t hx hy w
  · rw [Wd.tw3, Wd.xorI, Int.toNat_natCast, Int.toNat_natCast]
    cases b
    · exact rtwo_3f hx hy w
    · exact rtwo_3t hx hy w
  · rw [Wd.tw4, Wd.cut, hp, show ((X : Int) + Y) % ((2 ^ N : Nat) : Int) = (((X + Y) % 2 ^ N : Nat) : Int) by simp]
    exact rtwo_4 hx hy w
  · rw [Wd.tw6, Wd.cut, hp, show ((X : Int) * Y) % ((2 ^ N : Nat) : Int) = ((X * Y % 2 ^ N : Nat) : Int) by simp]
    exact rtwo_6 hx hy w
set_option maxRecDepth 100000 in
theorem rtwo_bad {b s : Bool} {op : Int} {N X Y : Nat} (hx : Wd.isw b s N X = true) (hY : Y < 18446744073709551616) (hy : Wd.isw b s N Y = false) (w : World) :
    Calls Try.prog 34 #[.int .i64 op, .agg #[.bool b, .bool s, .int .i64 N], .int .u64 X, .int .u64 Y] w (Ret w (.tuple #[.int .u64 0, .int .i64 1])) := by
  obtain ⟨xN, x64, n1, n2⟩ := isw_nat hx
  have HX := Lib.hid (fun w => ris_is (v := true) hx x64 w)
  have HY := Lib.hid (fun w => ris_is (v := false) hy hY w)
  have tok1 : True := trivial
  clear hx hy
  go_enter Try.func34, Try.ntmps34
  go_wp2_with (first
    | (go_at_call 35; have _t := tok1; refine (HX.out _).mono ?_; rintro e w1 ⟨rfl, g1, rfl⟩; clear _t tok1)
    | (go_at_call 35; refine (HY.out _).mono ?_; rintro e w2 ⟨rfl, g2, rfl⟩))
  go_ret2
  exact Ret.mk (((Later.refl _).alloc _).more _)
theorem rtwo_is {b s : Bool} {op x y : Int} {N : Nat} (h0 : 0 ≤ x) (hx : Wd.isw b s N x = true) (k0 : 0 ≤ y) (hy : Wd.isw b s N y = true) (hop : op = 1 ∨ op = 2 ∨ op = 3 ∨ b = false ∧ (op = 4 ∨ op = 6)) (w : World) :
    Calls Try.prog 34 #[.int .i64 op, .agg #[.bool b, .bool s, .int .i64 N], .int .u64 x, .int .u64 y] w (Ret w (.tuple #[.int .u64 (Wd.twoV s N op x y), .int .i64 0])) := by
  obtain ⟨X, rfl⟩ := Int.eq_ofNat_of_zero_le h0
  obtain ⟨Y, rfl⟩ := Int.eq_ofNat_of_zero_le k0
  exact rtwo_ok hx hy hop w
theorem rtwo_isf {b s : Bool} {op x y : Int} {N : Nat} (h0 : 0 ≤ x) (hx : Wd.isw b s N x = true) (k0 : 0 ≤ y) (k1 : y < 18446744073709551616) (hy : Wd.isw b s N y = false) (w : World) :
    Calls Try.prog 34 #[.int .i64 op, .agg #[.bool b, .bool s, .int .i64 N], .int .u64 x, .int .u64 y] w (Ret w (.tuple #[.int .u64 0, .int .i64 1])) := by
  obtain ⟨X, rfl⟩ := Int.eq_ofNat_of_zero_le h0
  obtain ⟨Y, rfl⟩ := Int.eq_ofNat_of_zero_le k0
  exact rtwo_bad hx (by omega) hy w

set_option maxRecDepth 100000 in
set_option maxHeartbeats 4000000 in
theorem rall_1t {s : Bool} {N : Nat} (hm : Wd.may true s N = true) (A : Option Addr) (l : List Int) (cap : Nat) (w : World) (hl : l.length ≤ 9223372036854775807) (hn : Nums w A l) (hb : ∀ k, 0 ≤ l.getD k 0 ∧ l.getD k 0 < 18446744073709551616) :
    Calls Try.prog 20 #[.int .i64 1, .agg #[.bool true, .bool s, .int .i64 N], .slice A l.length cap] w (Ret w (.tuple #[.int .u64 (Wd.allF true s N 1 (Wd.allI N 1) l).1, .int .i64 (Wd.allF true s N 1 (Wd.allI N 1) l).2])) := by
  obtain ⟨h1, h2⟩ := Wd.may_bd hm
  have hp := pw_cast N
  have hp2 := Nat.two_pow_pos N
  have hph := Wd.pw_half h1
  have hpp := Wd.pw_pos ((N : Int) - 1)
  have HI : Hid (Wd.allI N 1 = ((2 ^ N - 1 : Nat) : Int)) := Lib.hid (by show Wd.cut (N : Int) (-1) = _; rw [Wd.cut_m1 h1, hp]; omega)
  have h00 : Wd.isw true s N ((2 ^ N - 1 : Nat) : Int) = true := by rw [Wd.isw, hm, Bool.true_and, decide_eq_true_eq]; omega
  have hi0 : (0 : Int) ≤ ((2 ^ N - 1 : Nat) : Int) := by omega
  have HOne := Lib.hid (rone_1 true s N hm)
  have HM := Lib.hid (rmay_is hm)
  have HT := Lib.hid (fun x y h0 hx k0 hy w => rtwo_is (b := true) (s := s) (op := 1) (x := x) (y := y) (N := N) h0 hx k0 hy (.inl rfl) w)
  have HTf := Lib.hid (fun x y h0 hx k0 k1 hy w => rtwo_isf (b := true) (s := s) (op := 1) (x := x) (y := y) (N := N) h0 hx k0 k1 hy w)
  have HB := Lib.hid hb
  have HN := Lib.hid hn
  have HF : Hid (Wd.allF true s N 1 ((2 ^ N - 1 : Nat) : Int) (l.drop 0) = Wd.allF true s N 1 (Wd.allI N 1) l) := Lib.hid (by rw [HI.out]; rfl)
  have HS := Lib.hid (fun (acc x : Int) (h0 : 0 ≤ acc) (ha : Wd.isw true s N acc = true) (k0 : 0 ≤ x) (hx : Wd.isw true s N x = true) => two_word (b := true) (s := s) (n := N) (op := 1) h0 ha k0 hx (by omega))
  clear hb hn hm hp hp2 hph hpp
  generalize Wd.allF true s N 1 (Wd.allI N 1) l = V at *
  generalize ((2 ^ N - 1 : Nat) : Int) = ini at *
  go_enter Try.func20, Try.ntmps20
  go_wp2_with (first
    | (go_at_call 30; refine (HM.out _).mono ?_; rintro e w1 ⟨rfl, g1, rfl⟩)
    | (go_at_call 33; refine (HOne.out _).mono ?_; rintro e w2 ⟨rfl, g2, rfl⟩))
  go_loopw [8, 9, 10, 11] (fun a i _ _ wr => ∃ (k : Nat) (acc : Int) (g : Grow), k ≤ l.length ∧ i = .int .i64 k ∧ a = .int .u64 acc ∧ 0 ≤ acc ∧ Hid (Wd.isw true s N acc = true) ∧ Hid (Wd.allF true s N 1 acc (l.drop k) = V) ∧ wr = more (w.alloc (.cells #[.bool true, .bool s, .int .i64 N] 23)) g) (fun _ i _ _ _ => l.length - (intOf i).toNat)
  case atStart => exact ⟨0, ini, _, Nat.zero_le _, rfl, rfl, hi0, Lib.hid h00, HF, rfl⟩
  case round =>
    obtain ⟨k, acc, g, hk, rfl, rfl, ha0, haw, hF, rfl⟩ := hrel
    by_cases hlt : k < l.length
    · obtain ⟨bl, off, rfl, hbl, hcell⟩ := HN.out k hlt
      have hbx := HB.out k
      have HSt := Lib.hid (Wd.allF_step (b := true) (s := s) (n := N) (op := 1) (acc := acc) hlt rfl)
      generalize l.getD k 0 = x at *
      have hbl1 : bl < w.heap.size + 1 := by omega
      cases hw : Wd.isw true s N x
      · have HC := Lib.hid (HTf.out acc x ha0 haw.out hbx.1 hbx.2 hw)
        have Hw := Lib.hid hw
        clear hw
        go_upto_region 11 with fail
        refine wp_region_more (by kernel_rfl) (by kernel_rfl) ?_
        repeat (go_big_quiet_step (first | (go_at_call 34; with_reducible exact quiet_of (HC.out _))))
        refine wpQuiet_nil ?_
        rintro _ ⟨g3, rfl⟩
        go_wp2_with fail
        go_ret2
        exact Ret.mk' (by have h := HSt.out; rw [Hw.out] at h; rw [← hF.out, h]; rfl) (((Later.refl _).alloc _).more _)
      · have ht := HS.out acc x ha0 haw.out hbx.1 hw
        have HC := Lib.hid (HT.out acc x ha0 haw.out hbx.1 hw)
        have Hw := Lib.hid hw
        have Ht := Lib.hid ht
        have ht0 := ht.1
        clear hw ht
        obtain ⟨t, htt⟩ : ∃ t, Wd.twoV s N 1 acc x = t := ⟨_, rfl⟩
        rw [htt] at HC ht0
        have Htt := Lib.hid htt
        clear htt
        go_upto_region 11 with fail
        refine wp_region_more (by kernel_rfl) (by kernel_rfl) ?_
        repeat (go_big_quiet_step (first | (go_at_call 34; with_reducible exact quiet_of (HC.out _))))
        refine wpQuiet_nil ?_
        rintro _ ⟨g3, rfl⟩
        go_wp2_with fail
        go_roundw
        case rel => exact ⟨k + 1, _, _, by omega, by go_num, rfl, ht0, Lib.hid (by rw [← Htt.out]; exact Ht.out.2), Lib.hid (by have h := HSt.out; rw [Hw.out] at h; rw [← hF.out, h, ← Htt.out]; rfl), rfl⟩
        case measure => simp [intOf]; omega
    · have HE := Lib.hid (Wd.allF_end (b := true) (s := s) (n := N) (op := 1) (acc := acc) (l := l) (k := k) (by omega))
      go_wp2_with fail
      go_ret2
      exact Ret.mk' (by rw [← hF.out, HE.out]; rfl) (((Later.refl _).alloc _).more _)

set_option maxRecDepth 100000 in
set_option maxHeartbeats 4000000 in
theorem rall_1f {s : Bool} {N : Nat} (hm : Wd.may false s N = true) (A : Option Addr) (l : List Int) (cap : Nat) (w : World) (hl : l.length ≤ 9223372036854775807) (hn : Nums w A l) (hb : ∀ k, 0 ≤ l.getD k 0 ∧ l.getD k 0 < 18446744073709551616) :
    Calls Try.prog 20 #[.int .i64 1, .agg #[.bool false, .bool s, .int .i64 N], .slice A l.length cap] w (Ret w (.tuple #[.int .u64 (Wd.allF false s N 1 (Wd.allI N 1) l).1, .int .i64 (Wd.allF false s N 1 (Wd.allI N 1) l).2])) := by
  obtain ⟨h1, h2⟩ := Wd.may_bd hm
  have hp := pw_cast N
  have hp2 := Nat.two_pow_pos N
  have hph := Wd.pw_half h1
  have hpp := Wd.pw_pos ((N : Int) - 1)
  have HI : Hid (Wd.allI N 1 = ((2 ^ N - 1 : Nat) : Int)) := Lib.hid (by show Wd.cut (N : Int) (-1) = _; rw [Wd.cut_m1 h1, hp]; omega)
  have h00 : Wd.isw false s N ((2 ^ N - 1 : Nat) : Int) = true := by rw [Wd.isw, hm, Bool.true_and, decide_eq_true_eq]; omega
  have hi0 : (0 : Int) ≤ ((2 ^ N - 1 : Nat) : Int) := by omega
  have HOne := Lib.hid (rone_1 false s N hm)
  have HM := Lib.hid (rmay_is hm)
  have HT := Lib.hid (fun x y h0 hx k0 hy w => rtwo_is (b := false) (s := s) (op := 1) (x := x) (y := y) (N := N) h0 hx k0 hy (.inl rfl) w)
  have HTf := Lib.hid (fun x y h0 hx k0 k1 hy w => rtwo_isf (b := false) (s := s) (op := 1) (x := x) (y := y) (N := N) h0 hx k0 k1 hy w)
  have HB := Lib.hid hb
  have HN := Lib.hid hn
  have HF : Hid (Wd.allF false s N 1 ((2 ^ N - 1 : Nat) : Int) (l.drop 0) = Wd.allF false s N 1 (Wd.allI N 1) l) := Lib.hid (by rw [HI.out]; rfl)
  have HS := Lib.hid (fun (acc x : Int) (h0 : 0 ≤ acc) (ha : Wd.isw false s N acc = true) (k0 : 0 ≤ x) (hx : Wd.isw false s N x = true) => two_word (b := false) (s := s) (n := N) (op := 1) h0 ha k0 hx (by omega))
  clear hb hn hm hp hp2 hph hpp
  generalize Wd.allF false s N 1 (Wd.allI N 1) l = V at *
  generalize ((2 ^ N - 1 : Nat) : Int) = ini at *
  go_enter Try.func20, Try.ntmps20
  go_wp2_with (first
    | (go_at_call 30; refine (HM.out _).mono ?_; rintro e w1 ⟨rfl, g1, rfl⟩)
    | (go_at_call 33; refine (HOne.out _).mono ?_; rintro e w2 ⟨rfl, g2, rfl⟩))
  go_loopw [8, 9, 10, 11] (fun a i _ _ wr => ∃ (k : Nat) (acc : Int) (g : Grow), k ≤ l.length ∧ i = .int .i64 k ∧ a = .int .u64 acc ∧ 0 ≤ acc ∧ Hid (Wd.isw false s N acc = true) ∧ Hid (Wd.allF false s N 1 acc (l.drop k) = V) ∧ wr = more (w.alloc (.cells #[.bool false, .bool s, .int .i64 N] 23)) g) (fun _ i _ _ _ => l.length - (intOf i).toNat)
  case atStart => exact ⟨0, ini, _, Nat.zero_le _, rfl, rfl, hi0, Lib.hid h00, HF, rfl⟩
  case round =>
    obtain ⟨k, acc, g, hk, rfl, rfl, ha0, haw, hF, rfl⟩ := hrel
    by_cases hlt : k < l.length
    · obtain ⟨bl, off, rfl, hbl, hcell⟩ := HN.out k hlt
      have hbx := HB.out k
      have HSt := Lib.hid (Wd.allF_step (b := false) (s := s) (n := N) (op := 1) (acc := acc) hlt rfl)
      generalize l.getD k 0 = x at *
      have hbl1 : bl < w.heap.size + 1 := by omega
      cases hw : Wd.isw false s N x
      · have HC := Lib.hid (HTf.out acc x ha0 haw.out hbx.1 hbx.2 hw)
        have Hw := Lib.hid hw
        clear hw
        go_upto_region 11 with fail
        refine wp_region_more (by kernel_rfl) (by kernel_rfl) ?_
        repeat (go_big_quiet_step (first | (go_at_call 34; with_reducible exact quiet_of (HC.out _))))
        refine wpQuiet_nil ?_
        rintro _ ⟨g3, rfl⟩
        go_wp2_with fail
        go_ret2
        exact Ret.mk' (by have h := HSt.out; rw [Hw.out] at h; rw [← hF.out, h]; rfl) (((Later.refl _).alloc _).more _)
      · have ht := HS.out acc x ha0 haw.out hbx.1 hw
        have HC := Lib.hid (HT.out acc x ha0 haw.out hbx.1 hw)
        have Hw := Lib.hid hw
        have Ht := Lib.hid ht
        have ht0 := ht.1
        clear hw ht
        obtain ⟨t, htt⟩ : ∃ t, Wd.twoV s N 1 acc x = t := ⟨_, rfl⟩
        rw [htt] at HC ht0
        have Htt := Lib.hid htt
        clear htt
        go_upto_region 11 with fail
        refine wp_region_more (by kernel_rfl) (by kernel_rfl) ?_
        repeat (go_big_quiet_step (first | (go_at_call 34; with_reducible exact quiet_of (HC.out _))))
        refine wpQuiet_nil ?_
        rintro _ ⟨g3, rfl⟩
        go_wp2_with fail
        go_roundw
        case rel => exact ⟨k + 1, _, _, by omega, by go_num, rfl, ht0, Lib.hid (by rw [← Htt.out]; exact Ht.out.2), Lib.hid (by have h := HSt.out; rw [Hw.out] at h; rw [← hF.out, h, ← Htt.out]; rfl), rfl⟩
        case measure => simp [intOf]; omega
    · have HE := Lib.hid (Wd.allF_end (b := false) (s := s) (n := N) (op := 1) (acc := acc) (l := l) (k := k) (by omega))
      go_wp2_with fail
      go_ret2
      exact Ret.mk' (by rw [← hF.out, HE.out]; rfl) (((Later.refl _).alloc _).more _)

set_option maxRecDepth 100000 in
set_option maxHeartbeats 4000000 in
theorem rall_2t {s : Bool} {N : Nat} (hm : Wd.may true s N = true) (A : Option Addr) (l : List Int) (cap : Nat) (w : World) (hl : l.length ≤ 9223372036854775807) (hn : Nums w A l) (hb : ∀ k, 0 ≤ l.getD k 0 ∧ l.getD k 0 < 18446744073709551616) :
    Calls Try.prog 20 #[.int .i64 2, .agg #[.bool true, .bool s, .int .i64 N], .slice A l.length cap] w (Ret w (.tuple #[.int .u64 (Wd.allF true s N 2 (Wd.allI N 2) l).1, .int .i64 (Wd.allF true s N 2 (Wd.allI N 2) l).2])) := by
  obtain ⟨h1, h2⟩ := Wd.may_bd hm
  have hp := pw_cast N
  have hp2 := Nat.two_pow_pos N
  have hph := Wd.pw_half h1
  have hpp := Wd.pw_pos ((N : Int) - 1)
  have HI : Hid (Wd.allI N 2 = 0) := Lib.hid (by rfl)
  have h00 : Wd.isw true s N 0 = true := by rw [Wd.isw, hm, Bool.true_and, decide_eq_true_eq]; omega
  have hi0 : (0 : Int) ≤ 0 := by omega
  have HOne := Lib.hid (rone_1 true s N hm)
  have HM := Lib.hid (rmay_is hm)
  have HT := Lib.hid (fun x y h0 hx k0 hy w => rtwo_is (b := true) (s := s) (op := 2) (x := x) (y := y) (N := N) h0 hx k0 hy (.inr (.inl rfl)) w)
  have HTf := Lib.hid (fun x y h0 hx k0 k1 hy w => rtwo_isf (b := true) (s := s) (op := 2) (x := x) (y := y) (N := N) h0 hx k0 k1 hy w)
  have HB := Lib.hid hb
  have HN := Lib.hid hn
  have HF : Hid (Wd.allF true s N 2 0 (l.drop 0) = Wd.allF true s N 2 (Wd.allI N 2) l) := Lib.hid (by rw [HI.out]; rfl)
  have HS := Lib.hid (fun (acc x : Int) (h0 : 0 ≤ acc) (ha : Wd.isw true s N acc = true) (k0 : 0 ≤ x) (hx : Wd.isw true s N x = true) => two_word (b := true) (s := s) (n := N) (op := 2) h0 ha k0 hx (by omega))
  clear hb hn hm hp hp2 hph hpp
  generalize Wd.allF true s N 2 (Wd.allI N 2) l = V at *
  skip
  go_enter Try.func20, Try.ntmps20
  go_wp2_with (first
    | (go_at_call 30; refine (HM.out _).mono ?_; rintro e w1 ⟨rfl, g1, rfl⟩)
    | (go_at_call 33; refine (HOne.out _).mono ?_; rintro e w2 ⟨rfl, g2, rfl⟩))
  go_loopw [8, 9, 10, 11] (fun a i _ _ wr => ∃ (k : Nat) (acc : Int) (g : Grow), k ≤ l.length ∧ i = .int .i64 k ∧ a = .int .u64 acc ∧ 0 ≤ acc ∧ Hid (Wd.isw true s N acc = true) ∧ Hid (Wd.allF true s N 2 acc (l.drop k) = V) ∧ wr = more (w.alloc (.cells #[.bool true, .bool s, .int .i64 N] 23)) g) (fun _ i _ _ _ => l.length - (intOf i).toNat)
  case atStart => exact ⟨0, 0, _, Nat.zero_le _, rfl, rfl, hi0, Lib.hid h00, HF, rfl⟩
  case round =>
    obtain ⟨k, acc, g, hk, rfl, rfl, ha0, haw, hF, rfl⟩ := hrel
    by_cases hlt : k < l.length
    · obtain ⟨bl, off, rfl, hbl, hcell⟩ := HN.out k hlt
      have hbx := HB.out k
      have HSt := Lib.hid (Wd.allF_step (b := true) (s := s) (n := N) (op := 2) (acc := acc) hlt rfl)
      generalize l.getD k 0 = x at *
      have hbl1 : bl < w.heap.size + 1 := by omega
      cases hw : Wd.isw true s N x
      · have HC := Lib.hid (HTf.out acc x ha0 haw.out hbx.1 hbx.2 hw)
        have Hw := Lib.hid hw
        clear hw
        go_upto_region 11 with fail
        refine wp_region_more (by kernel_rfl) (by kernel_rfl) ?_
        repeat (go_big_quiet_step (first | (go_at_call 34; with_reducible exact quiet_of (HC.out _))))
        refine wpQuiet_nil ?_
        rintro _ ⟨g3, rfl⟩
        go_wp2_with fail
        go_ret2
        exact Ret.mk' (by have h := HSt.out; rw [Hw.out] at h; rw [← hF.out, h]; rfl) (((Later.refl _).alloc _).more _)
      · have ht := HS.out acc x ha0 haw.out hbx.1 hw
        have HC := Lib.hid (HT.out acc x ha0 haw.out hbx.1 hw)
        have Hw := Lib.hid hw
        have Ht := Lib.hid ht
        have ht0 := ht.1
        clear hw ht
        obtain ⟨t, htt⟩ : ∃ t, Wd.twoV s N 2 acc x = t := ⟨_, rfl⟩
        rw [htt] at HC ht0
        have Htt := Lib.hid htt
        clear htt
        go_upto_region 11 with fail
        refine wp_region_more (by kernel_rfl) (by kernel_rfl) ?_
        repeat (go_big_quiet_step (first | (go_at_call 34; with_reducible exact quiet_of (HC.out _))))
        refine wpQuiet_nil ?_
        rintro _ ⟨g3, rfl⟩
        go_wp2_with fail
        go_roundw
        case rel => exact ⟨k + 1, _, _, by omega, by go_num, rfl, ht0, Lib.hid (by rw [← Htt.out]; exact Ht.out.2), Lib.hid (by have h := HSt.out; rw [Hw.out] at h; rw [← hF.out, h, ← Htt.out]; rfl), rfl⟩
        case measure => simp [intOf]; omega
    · have HE := Lib.hid (Wd.allF_end (b := true) (s := s) (n := N) (op := 2) (acc := acc) (l := l) (k := k) (by omega))
      go_wp2_with fail
      go_ret2
      exact Ret.mk' (by rw [← hF.out, HE.out]; rfl) (((Later.refl _).alloc _).more _)

set_option maxRecDepth 100000 in
set_option maxHeartbeats 4000000 in
theorem rall_2f {s : Bool} {N : Nat} (hm : Wd.may false s N = true) (A : Option Addr) (l : List Int) (cap : Nat) (w : World) (hl : l.length ≤ 9223372036854775807) (hn : Nums w A l) (hb : ∀ k, 0 ≤ l.getD k 0 ∧ l.getD k 0 < 18446744073709551616) :
    Calls Try.prog 20 #[.int .i64 2, .agg #[.bool false, .bool s, .int .i64 N], .slice A l.length cap] w (Ret w (.tuple #[.int .u64 (Wd.allF false s N 2 (Wd.allI N 2) l).1, .int .i64 (Wd.allF false s N 2 (Wd.allI N 2) l).2])) := by
  obtain ⟨h1, h2⟩ := Wd.may_bd hm
  have hp := pw_cast N
  have hp2 := Nat.two_pow_pos N
  have hph := Wd.pw_half h1
  have hpp := Wd.pw_pos ((N : Int) - 1)
  have HI : Hid (Wd.allI N 2 = 0) := Lib.hid (by rfl)
  have h00 : Wd.isw false s N 0 = true := by rw [Wd.isw, hm, Bool.true_and, decide_eq_true_eq]; omega
  have hi0 : (0 : Int) ≤ 0 := by omega
  have HOne := Lib.hid (rone_1 false s N hm)
  have HM := Lib.hid (rmay_is hm)
  have HT := Lib.hid (fun x y h0 hx k0 hy w => rtwo_is (b := false) (s := s) (op := 2) (x := x) (y := y) (N := N) h0 hx k0 hy (.inr (.inl rfl)) w)
  have HTf := Lib.hid (fun x y h0 hx k0 k1 hy w => rtwo_isf (b := false) (s := s) (op := 2) (x := x) (y := y) (N := N) h0 hx k0 k1 hy w)
  have HB := Lib.hid hb
  have HN := Lib.hid hn
  have HF : Hid (Wd.allF false s N 2 0 (l.drop 0) = Wd.allF false s N 2 (Wd.allI N 2) l) := Lib.hid (by rw [HI.out]; rfl)
  have HS := Lib.hid (fun (acc x : Int) (h0 : 0 ≤ acc) (ha : Wd.isw false s N acc = true) (k0 : 0 ≤ x) (hx : Wd.isw false s N x = true) => two_word (b := false) (s := s) (n := N) (op := 2) h0 ha k0 hx (by omega))
  clear hb hn hm hp hp2 hph hpp
  generalize Wd.allF false s N 2 (Wd.allI N 2) l = V at *
  skip
  go_enter Try.func20, Try.ntmps20
  go_wp2_with (first
    | (go_at_call 30; refine (HM.out _).mono ?_; rintro e w1 ⟨rfl, g1, rfl⟩)
    | (go_at_call 33; refine (HOne.out _).mono ?_; rintro e w2 ⟨rfl, g2, rfl⟩))
  go_loopw [8, 9, 10, 11] (fun a i _ _ wr => ∃ (k : Nat) (acc : Int) (g : Grow), k ≤ l.length ∧ i = .int .i64 k ∧ a = .int .u64 acc ∧ 0 ≤ acc ∧ Hid (Wd.isw false s N acc = true) ∧ Hid (Wd.allF false s N 2 acc (l.drop k) = V) ∧ wr = more (w.alloc (.cells #[.bool false, .bool s, .int .i64 N] 23)) g) (fun _ i _ _ _ => l.length - (intOf i).toNat)
  case atStart => exact ⟨0, 0, _, Nat.zero_le _, rfl, rfl, hi0, Lib.hid h00, HF, rfl⟩
  case round =>
    obtain ⟨k, acc, g, hk, rfl, rfl, ha0, haw, hF, rfl⟩ := hrel
    by_cases hlt : k < l.length
    · obtain ⟨bl, off, rfl, hbl, hcell⟩ := HN.out k hlt
      have hbx := HB.out k
      have HSt := Lib.hid (Wd.allF_step (b := false) (s := s) (n := N) (op := 2) (acc := acc) hlt rfl)
      generalize l.getD k 0 = x at *
      have hbl1 : bl < w.heap.size + 1 := by omega
      cases hw : Wd.isw false s N x
      · have HC := Lib.hid (HTf.out acc x ha0 haw.out hbx.1 hbx.2 hw)
        have Hw := Lib.hid hw
        clear hw
        go_upto_region 11 with fail
        refine wp_region_more (by kernel_rfl) (by kernel_rfl) ?_
        repeat (go_big_quiet_step (first | (go_at_call 34; with_reducible exact quiet_of (HC.out _))))
        refine wpQuiet_nil ?_
        rintro _ ⟨g3, rfl⟩
        go_wp2_with fail
        go_ret2
        exact Ret.mk' (by have h := HSt.out; rw [Hw.out] at h; rw [← hF.out, h]; rfl) (((Later.refl _).alloc _).more _)
      · have ht := HS.out acc x ha0 haw.out hbx.1 hw
        have HC := Lib.hid (HT.out acc x ha0 haw.out hbx.1 hw)
        have Hw := Lib.hid hw
        have Ht := Lib.hid ht
        have ht0 := ht.1
        clear hw ht
        obtain ⟨t, htt⟩ : ∃ t, Wd.twoV s N 2 acc x = t := ⟨_, rfl⟩
        rw [htt] at HC ht0
        have Htt := Lib.hid htt
        clear htt
        go_upto_region 11 with fail
        refine wp_region_more (by kernel_rfl) (by kernel_rfl) ?_
        repeat (go_big_quiet_step (first | (go_at_call 34; with_reducible exact quiet_of (HC.out _))))
        refine wpQuiet_nil ?_
        rintro _ ⟨g3, rfl⟩
        go_wp2_with fail
        go_roundw
        case rel => exact ⟨k + 1, _, _, by omega, by go_num, rfl, ht0, Lib.hid (by rw [← Htt.out]; exact Ht.out.2), Lib.hid (by have h := HSt.out; rw [Hw.out] at h; rw [← hF.out, h, ← Htt.out]; rfl), rfl⟩
        case measure => simp [intOf]; omega
    · have HE := Lib.hid (Wd.allF_end (b := false) (s := s) (n := N) (op := 2) (acc := acc) (l := l) (k := k) (by omega))
      go_wp2_with fail
      go_ret2
      exact Ret.mk' (by rw [← hF.out, HE.out]; rfl) (((Later.refl _).alloc _).more _)

set_option maxRecDepth 100000 in
set_option maxHeartbeats 4000000 in
theorem rall_3t {s : Bool} {N : Nat} (hm : Wd.may true s N = true) (A : Option Addr) (l : List Int) (cap : Nat) (w : World) (hl : l.length ≤ 9223372036854775807) (hn : Nums w A l) (hb : ∀ k, 0 ≤ l.getD k 0 ∧ l.getD k 0 < 18446744073709551616) :
    Calls Try.prog 20 #[.int .i64 3, .agg #[.bool true, .bool s, .int .i64 N], .slice A l.length cap] w (Ret w (.tuple #[.int .u64 (Wd.allF true s N 3 (Wd.allI N 3) l).1, .int .i64 (Wd.allF true s N 3 (Wd.allI N 3) l).2])) := by
  obtain ⟨h1, h2⟩ := Wd.may_bd hm
  have hp := pw_cast N
  have hp2 := Nat.two_pow_pos N
  have hph := Wd.pw_half h1
  have hpp := Wd.pw_pos ((N : Int) - 1)
  have HI : Hid (Wd.allI N 3 = 0) := Lib.hid (by rfl)
  have h00 : Wd.isw true s N 0 = true := by rw [Wd.isw, hm, Bool.true_and, decide_eq_true_eq]; omega
  have hi0 : (0 : Int) ≤ 0 := by omega
  have HOne := Lib.hid (rone_1 true s N hm)
  have HM := Lib.hid (rmay_is hm)
  have HT := Lib.hid (fun x y h0 hx k0 hy w => rtwo_is (b := true) (s := s) (op := 3) (x := x) (y := y) (N := N) h0 hx k0 hy (.inr (.inr (.inl rfl))) w)
  have HTf := Lib.hid (fun x y h0 hx k0 k1 hy w => rtwo_isf (b := true) (s := s) (op := 3) (x := x) (y := y) (N := N) h0 hx k0 k1 hy w)
  have HB := Lib.hid hb
  have HN := Lib.hid hn
  have HF : Hid (Wd.allF true s N 3 0 (l.drop 0) = Wd.allF true s N 3 (Wd.allI N 3) l) := Lib.hid (by rw [HI.out]; rfl)
  have HS := Lib.hid (fun (acc x : Int) (h0 : 0 ≤ acc) (ha : Wd.isw true s N acc = true) (k0 : 0 ≤ x) (hx : Wd.isw true s N x = true) => two_word (b := true) (s := s) (n := N) (op := 3) h0 ha k0 hx (by omega))
  clear hb hn hm hp hp2 hph hpp
  generalize Wd.allF true s N 3 (Wd.allI N 3) l = V at *
  skip
  go_enter Try.func20, Try.ntmps20
  go_wp2_with (first
    | (go_at_call 30; refine (HM.out _).mono ?_; rintro e w1 ⟨rfl, g1, rfl⟩)
    | (go_at_call 33; refine (HOne.out _).mono ?_; rintro e w2 ⟨rfl, g2, rfl⟩))
  go_loopw [8, 9, 10, 11] (fun a i _ _ wr => ∃ (k : Nat) (acc : Int) (g : Grow), k ≤ l.length ∧ i = .int .i64 k ∧ a = .int .u64 acc ∧ 0 ≤ acc ∧ Hid (Wd.isw true s N acc = true) ∧ Hid (Wd.allF true s N 3 acc (l.drop k) = V) ∧ wr = more (w.alloc (.cells #[.bool true, .bool s, .int .i64 N] 23)) g) (fun _ i _ _ _ => l.length - (intOf i).toNat)
  case atStart => exact ⟨0, 0, _, Nat.zero_le _, rfl, rfl, hi0, Lib.hid h00, HF, rfl⟩
  case round =>
    obtain ⟨k, acc, g, hk, rfl, rfl, ha0, haw, hF, rfl⟩ := hrel
    by_cases hlt : k < l.length
    · obtain ⟨bl, off, rfl, hbl, hcell⟩ := HN.out k hlt
      have hbx := HB.out k
      have HSt := Lib.hid (Wd.allF_step (b := true) (s := s) (n := N) (op := 3) (acc := acc) hlt rfl)
      generalize l.getD k 0 = x at *
      have hbl1 : bl < w.heap.size + 1 := by omega
      cases hw : Wd.isw true s N x
      · have HC := Lib.hid (HTf.out acc x ha0 haw.out hbx.1 hbx.2 hw)
        have Hw := Lib.hid hw
        clear hw
        go_upto_region 11 with fail
        refine wp_region_more (by kernel_rfl) (by kernel_rfl) ?_
        repeat (go_big_quiet_step (first | (go_at_call 34; with_reducible exact quiet_of (HC.out _))))
        refine wpQuiet_nil ?_
        rintro _ ⟨g3, rfl⟩
        go_wp2_with fail
        go_ret2
        exact Ret.mk' (by have h := HSt.out; rw [Hw.out] at h; rw [← hF.out, h]; rfl) (((Later.refl _).alloc _).more _)
      · have ht := HS.out acc x ha0 haw.out hbx.1 hw
        have HC := Lib.hid (HT.out acc x ha0 haw.out hbx.1 hw)
        have Hw := Lib.hid hw
        have Ht := Lib.hid ht
        have ht0 := ht.1
        clear hw ht
        obtain ⟨t, htt⟩ : ∃ t, Wd.twoV s N 3 acc x = t := ⟨_, rfl⟩
        rw [htt] at HC ht0
        have Htt := Lib.hid htt
        clear htt
        go_upto_region 11 with fail
        refine wp_region_more (by kernel_rfl) (by kernel_rfl) ?_
        repeat (go_big_quiet_step (first | (go_at_call 34; with_reducible exact quiet_of (HC.out _))))
        refine wpQuiet_nil ?_
        rintro _ ⟨g3, rfl⟩
        go_wp2_with fail
        go_roundw
        case rel => exact ⟨k + 1, _, _, by omega, by go_num, rfl, ht0, Lib.hid (by rw [← Htt.out]; exact Ht.out.2), Lib.hid (by have h := HSt.out; rw [Hw.out] at h; rw [← hF.out, h, ← Htt.out]; rfl), rfl⟩
        case measure => simp [intOf]; omega
    · have HE := Lib.hid (Wd.allF_end (b := true) (s := s) (n := N) (op := 3) (acc := acc) (l := l) (k := k) (by omega))
      go_wp2_with fail
      go_ret2
      exact Ret.mk' (by rw [← hF.out, HE.out]; rfl) (((Later.refl _).alloc _).more _)

set_option maxRecDepth 100000 in
set_option maxHeartbeats 4000000 in
theorem rall_3f {s : Bool} {N : Nat} (hm : Wd.may false s N = true) (A : Option Addr) (l : List Int) (cap : Nat) (w : World) (hl : l.length ≤ 9223372036854775807) (hn : Nums w A l) (hb : ∀ k, 0 ≤ l.getD k 0 ∧ l.getD k 0 < 18446744073709551616) :
    Calls Try.prog 20 #[.int .i64 3, .agg #[.bool false, .bool s, .int .i64 N], .slice A l.length cap] w (Ret w (.tuple #[.int .u64 (Wd.allF false s N 3 (Wd.allI N 3) l).1, .int .i64 (Wd.allF false s N 3 (Wd.allI N 3) l).2])) := by
  obtain ⟨h1, h2⟩ := Wd.may_bd hm
  have hp := pw_cast N
  have hp2 := Nat.two_pow_pos N
  have hph := Wd.pw_half h1
  have hpp := Wd.pw_pos ((N : Int) - 1)
  have HI : Hid (Wd.allI N 3 = 0) := Lib.hid (by rfl)
  have h00 : Wd.isw false s N 0 = true := by rw [Wd.isw, hm, Bool.true_and, decide_eq_true_eq]; omega
  have hi0 : (0 : Int) ≤ 0 := by omega
  have HOne := Lib.hid (rone_1 false s N hm)
  have HM := Lib.hid (rmay_is hm)
  have HT := Lib.hid (fun x y h0 hx k0 hy w => rtwo_is (b := false) (s := s) (op := 3) (x := x) (y := y) (N := N) h0 hx k0 hy (.inr (.inr (.inl rfl))) w)
  have HTf := Lib.hid (fun x y h0 hx k0 k1 hy w => rtwo_isf (b := false) (s := s) (op := 3) (x := x) (y := y) (N := N) h0 hx k0 k1 hy w)
  have HB := Lib.hid hb
  have HN := Lib.hid hn
  have HF : Hid (Wd.allF false s N 3 0 (l.drop 0) = Wd.allF false s N 3 (Wd.allI N 3) l) := Lib.hid (by rw [HI.out]; rfl)
  have HS := Lib.hid (fun (acc x : Int) (h0 : 0 ≤ acc) (ha : Wd.isw false s N acc = true) (k0 : 0 ≤ x) (hx : Wd.isw false s N x = true) => two_word (b := false) (s := s) (n := N) (op := 3) h0 ha k0 hx (by omega))
  clear hb hn hm hp hp2 hph hpp
  generalize Wd.allF false s N 3 (Wd.allI N 3) l = V at *
  skip
  go_enter Try.func20, Try.ntmps20
  go_wp2_with (first
    | (go_at_call 30; refine (HM.out _).mono ?_; rintro e w1 ⟨rfl, g1, rfl⟩)
    | (go_at_call 33; refine (HOne.out _).mono ?_; rintro e w2 ⟨rfl, g2, rfl⟩))
  go_loopw [8, 9, 10, 11] (fun a i _ _ wr => ∃ (k : Nat) (acc : Int) (g : Grow), k ≤ l.length ∧ i = .int .i64 k ∧ a = .int .u64 acc ∧ 0 ≤ acc ∧ Hid (Wd.isw false s N acc = true) ∧ Hid (Wd.allF false s N 3 acc (l.drop k) = V) ∧ wr = more (w.alloc (.cells #[.bool false, .bool s, .int .i64 N] 23)) g) (fun _ i _ _ _ => l.length - (intOf i).toNat)
  case atStart => exact ⟨0, 0, _, Nat.zero_le _, rfl, rfl, hi0, Lib.hid h00, HF, rfl⟩
  case round =>
    obtain ⟨k, acc, g, hk, rfl, rfl, ha0, haw, hF, rfl⟩ := hrel
    by_cases hlt : k < l.length
    · obtain ⟨bl, off, rfl, hbl, hcell⟩ := HN.out k hlt
      have hbx := HB.out k
      have HSt := Lib.hid (Wd.allF_step (b := false) (s := s) (n := N) (op := 3) (acc := acc) hlt rfl)
      generalize l.getD k 0 = x at *
      have hbl1 : bl < w.heap.size + 1 := by omega
      cases hw : Wd.isw false s N x
      · have HC := Lib.hid (HTf.out acc x ha0 haw.out hbx.1 hbx.2 hw)
        have Hw := Lib.hid hw
        clear hw
        go_upto_region 11 with fail
        refine wp_region_more (by kernel_rfl) (by kernel_rfl) ?_
        repeat (go_big_quiet_step (first | (go_at_call 34; with_reducible exact quiet_of (HC.out _))))
        refine wpQuiet_nil ?_
        rintro _ ⟨g3, rfl⟩
        go_wp2_with fail
        go_ret2
        exact Ret.mk' (by have h := HSt.out; rw [Hw.out] at h; rw [← hF.out, h]; rfl) (((Later.refl _).alloc _).more _)
      · have ht := HS.out acc x ha0 haw.out hbx.1 hw
        have HC := Lib.hid (HT.out acc x ha0 haw.out hbx.1 hw)
        have Hw := Lib.hid hw
        have Ht := Lib.hid ht
        have ht0 := ht.1
        clear hw ht
        obtain ⟨t, htt⟩ : ∃ t, Wd.twoV s N 3 acc x = t := ⟨_, rfl⟩
        rw [htt] at HC ht0
        have Htt := Lib.hid htt
        clear htt
        go_upto_region 11 with fail
        refine wp_region_more (by kernel_rfl) (by kernel_rfl) ?_
        repeat (go_big_quiet_step (first | (go_at_call 34; with_reducible exact quiet_of (HC.out _))))
        refine wpQuiet_nil ?_
        rintro _ ⟨g3, rfl⟩
        go_wp2_with fail
        go_roundw
        case rel => exact ⟨k + 1, _, _, by omega, by go_num, rfl, ht0, Lib.hid (by rw [← Htt.out]; exact Ht.out.2), Lib.hid (by have h := HSt.out; rw [Hw.out] at h; rw [← hF.out, h, ← Htt.out]; rfl), rfl⟩
        case measure => simp [intOf]; omega
    · have HE := Lib.hid (Wd.allF_end (b := false) (s := s) (n := N) (op := 3) (acc := acc) (l := l) (k := k) (by omega))
      go_wp2_with fail
      go_ret2
      exact Ret.mk' (by rw [← hF.out, HE.out]; rfl) (((Later.refl _).alloc _).more _)

set_option maxRecDepth 100000 in
set_option maxHeartbeats 4000000 in
theorem rall_4f {s : Bool} {N : Nat} (hm : Wd.may false s N = true) (A : Option Addr) (l : List Int) (cap : Nat) (w : World) (hl : l.length ≤ 9223372036854775807) (hn : Nums w A l) (hb : ∀ k, 0 ≤ l.getD k 0 ∧ l.getD k 0 < 18446744073709551616) :
    Calls Try.prog 20 #[.int .i64 4, .agg #[.bool false, .bool s, .int .i64 N], .slice A l.length cap] w (Ret w (.tuple #[.int .u64 (Wd.allF false s N 4 (Wd.allI N 4) l).1, .int .i64 (Wd.allF false s N 4 (Wd.allI N 4) l).2])) := by
  obtain ⟨h1, h2⟩ := Wd.may_bd hm
  have hp := pw_cast N
  have hp2 := Nat.two_pow_pos N
  have hph := Wd.pw_half h1
  have hpp := Wd.pw_pos ((N : Int) - 1)
  have HI : Hid (Wd.allI N 4 = 0) := Lib.hid (by rfl)
  have h00 : Wd.isw false s N 0 = true := by rw [Wd.isw, hm, Bool.true_and, decide_eq_true_eq]; omega
  have hi0 : (0 : Int) ≤ 0 := by omega
  have HOne := Lib.hid (rone_1 false s N hm)
  have HM := Lib.hid (rmay_is hm)
  have HT := Lib.hid (fun x y h0 hx k0 hy w => rtwo_is (b := false) (s := s) (op := 4) (x := x) (y := y) (N := N) h0 hx k0 hy (.inr (.inr (.inr ⟨rfl, .inl rfl⟩))) w)
  have HTf := Lib.hid (fun x y h0 hx k0 k1 hy w => rtwo_isf (b := false) (s := s) (op := 4) (x := x) (y := y) (N := N) h0 hx k0 k1 hy w)
  have HB := Lib.hid hb
  have HN := Lib.hid hn
  have HF : Hid (Wd.allF false s N 4 0 (l.drop 0) = Wd.allF false s N 4 (Wd.allI N 4) l) := Lib.hid (by rw [HI.out]; rfl)
  have HS := Lib.hid (fun (acc x : Int) (h0 : 0 ≤ acc) (ha : Wd.isw false s N acc = true) (k0 : 0 ≤ x) (hx : Wd.isw false s N x = true) => two_word (b := false) (s := s) (n := N) (op := 4) h0 ha k0 hx (by omega))
  clear hb hn hm hp hp2 hph hpp
  generalize Wd.allF false s N 4 (Wd.allI N 4) l = V at *
  skip
  go_enter Try.func20, Try.ntmps20
  go_wp2_with (first
    | (go_at_call 30; refine (HM.out _).mono ?_; rintro e w1 ⟨rfl, g1, rfl⟩)
    | (go_at_call 33; refine (HOne.out _).mono ?_; rintro e w2 ⟨rfl, g2, rfl⟩))
  go_loopw [8, 9, 10, 11] (fun a i _ _ wr => ∃ (k : Nat) (acc : Int) (g : Grow), k ≤ l.length ∧ i = .int .i64 k ∧ a = .int .u64 acc ∧ 0 ≤ acc ∧ Hid (Wd.isw false s N acc = true) ∧ Hid (Wd.allF false s N 4 acc (l.drop k) = V) ∧ wr = more (w.alloc (.cells #[.bool false, .bool s, .int .i64 N] 23)) g) (fun _ i _ _ _ => l.length - (intOf i).toNat)
  case atStart => exact ⟨0, 0, _, Nat.zero_le _, rfl, rfl, hi0, Lib.hid h00, HF, rfl⟩
  case round =>
    obtain ⟨k, acc, g, hk, rfl, rfl, ha0, haw, hF, rfl⟩ := hrel
    by_cases hlt : k < l.length
    · obtain ⟨bl, off, rfl, hbl, hcell⟩ := HN.out k hlt
      have hbx := HB.out k
      have HSt := Lib.hid (Wd.allF_step (b := false) (s := s) (n := N) (op := 4) (acc := acc) hlt rfl)
      generalize l.getD k 0 = x at *
      have hbl1 : bl < w.heap.size + 1 := by omega
      cases hw : Wd.isw false s N x
      · have HC := Lib.hid (HTf.out acc x ha0 haw.out hbx.1 hbx.2 hw)
        have Hw := Lib.hid hw
        clear hw
        go_upto_region 11 with fail
        refine wp_region_more (by kernel_rfl) (by kernel_rfl) ?_
        repeat (go_big_quiet_step (first | (go_at_call 34; with_reducible exact quiet_of (HC.out _))))
        refine wpQuiet_nil ?_
        rintro _ ⟨g3, rfl⟩
        go_wp2_with fail
        go_ret2
        exact Ret.mk' (by have h := HSt.out; rw [Hw.out] at h; rw [← hF.out, h]; rfl) (((Later.refl _).alloc _).more _)
      · have ht := HS.out acc x ha0 haw.out hbx.1 hw
        have HC := Lib.hid (HT.out acc x ha0 haw.out hbx.1 hw)
        have Hw := Lib.hid hw
        have Ht := Lib.hid ht
        have ht0 := ht.1
        clear hw ht
        obtain ⟨t, htt⟩ : ∃ t, Wd.twoV s N 4 acc x = t := ⟨_, rfl⟩
        rw [htt] at HC ht0
        have Htt := Lib.hid htt
        clear htt
        go_upto_region 11 with fail
        refine wp_region_more (by kernel_rfl) (by kernel_rfl) ?_
        repeat (go_big_quiet_step (first | (go_at_call 34; with_reducible exact quiet_of (HC.out _))))
        refine wpQuiet_nil ?_
        rintro _ ⟨g3, rfl⟩
        go_wp2_with fail
        go_roundw
        case rel => exact ⟨k + 1, _, _, by omega, by go_num, rfl, ht0, Lib.hid (by rw [← Htt.out]; exact Ht.out.2), Lib.hid (by have h := HSt.out; rw [Hw.out] at h; rw [← hF.out, h, ← Htt.out]; rfl), rfl⟩
        case measure => simp [intOf]; omega
    · have HE := Lib.hid (Wd.allF_end (b := false) (s := s) (n := N) (op := 4) (acc := acc) (l := l) (k := k) (by omega))
      go_wp2_with fail
      go_ret2
      exact Ret.mk' (by rw [← hF.out, HE.out]; rfl) (((Later.refl _).alloc _).more _)

set_option maxRecDepth 100000 in
set_option maxHeartbeats 4000000 in
theorem rall_6f {s : Bool} {N : Nat} (hm : Wd.may false s N = true) (A : Option Addr) (l : List Int) (cap : Nat) (w : World) (hl : l.length ≤ 9223372036854775807) (hn : Nums w A l) (hb : ∀ k, 0 ≤ l.getD k 0 ∧ l.getD k 0 < 18446744073709551616) :
    Calls Try.prog 20 #[.int .i64 6, .agg #[.bool false, .bool s, .int .i64 N], .slice A l.length cap] w (Ret w (.tuple #[.int .u64 (Wd.allF false s N 6 (Wd.allI N 6) l).1, .int .i64 (Wd.allF false s N 6 (Wd.allI N 6) l).2])) := by
  obtain ⟨h1, h2⟩ := Wd.may_bd hm
  have hp := pw_cast N
  have hp2 := Nat.two_pow_pos N
  have hph := Wd.pw_half h1
  have hpp := Wd.pw_pos ((N : Int) - 1)
  have HI : Hid (Wd.allI N 6 = 1) := Lib.hid (by rfl)
  have h00 : Wd.isw false s N 1 = true := by rw [Wd.isw, hm, Bool.true_and, decide_eq_true_eq]; omega
  have hi0 : (0 : Int) ≤ 1 := by omega
  have HOne := Lib.hid (rone_1 false s N hm)
  have HM := Lib.hid (rmay_is hm)
  have HT := Lib.hid (fun x y h0 hx k0 hy w => rtwo_is (b := false) (s := s) (op := 6) (x := x) (y := y) (N := N) h0 hx k0 hy (.inr (.inr (.inr ⟨rfl, .inr rfl⟩))) w)
  have HTf := Lib.hid (fun x y h0 hx k0 k1 hy w => rtwo_isf (b := false) (s := s) (op := 6) (x := x) (y := y) (N := N) h0 hx k0 k1 hy w)
  have HB := Lib.hid hb
  have HN := Lib.hid hn
  have HF : Hid (Wd.allF false s N 6 1 (l.drop 0) = Wd.allF false s N 6 (Wd.allI N 6) l) := Lib.hid (by rw [HI.out]; rfl)
  have HS := Lib.hid (fun (acc x : Int) (h0 : 0 ≤ acc) (ha : Wd.isw false s N acc = true) (k0 : 0 ≤ x) (hx : Wd.isw false s N x = true) => two_word (b := false) (s := s) (n := N) (op := 6) h0 ha k0 hx (by omega))
  clear hb hn hm hp hp2 hph hpp
  generalize Wd.allF false s N 6 (Wd.allI N 6) l = V at *
  skip
  go_enter Try.func20, Try.ntmps20
  go_wp2_with (first
    | (go_at_call 30; refine (HM.out _).mono ?_; rintro e w1 ⟨rfl, g1, rfl⟩)
    | (go_at_call 33; refine (HOne.out _).mono ?_; rintro e w2 ⟨rfl, g2, rfl⟩))
  go_loopw [8, 9, 10, 11] (fun a i _ _ wr => ∃ (k : Nat) (acc : Int) (g : Grow), k ≤ l.length ∧ i = .int .i64 k ∧ a = .int .u64 acc ∧ 0 ≤ acc ∧ Hid (Wd.isw false s N acc = true) ∧ Hid (Wd.allF false s N 6 acc (l.drop k) = V) ∧ wr = more (w.alloc (.cells #[.bool false, .bool s, .int .i64 N] 23)) g) (fun _ i _ _ _ => l.length - (intOf i).toNat)
  case atStart => exact ⟨0, 1, _, Nat.zero_le _, rfl, rfl, hi0, Lib.hid h00, HF, rfl⟩
  case round =>
    obtain ⟨k, acc, g, hk, rfl, rfl, ha0, haw, hF, rfl⟩ := hrel
    by_cases hlt : k < l.length
    · obtain ⟨bl, off, rfl, hbl, hcell⟩ := HN.out k hlt
      have hbx := HB.out k
      have HSt := Lib.hid (Wd.allF_step (b := false) (s := s) (n := N) (op := 6) (acc := acc) hlt rfl)
      generalize l.getD k 0 = x at *
      have hbl1 : bl < w.heap.size + 1 := by omega
      cases hw : Wd.isw false s N x
      · have HC := Lib.hid (HTf.out acc x ha0 haw.out hbx.1 hbx.2 hw)
        have Hw := Lib.hid hw
        clear hw
        go_upto_region 11 with fail
        refine wp_region_more (by kernel_rfl) (by kernel_rfl) ?_
        repeat (go_big_quiet_step (first | (go_at_call 34; with_reducible exact quiet_of (HC.out _))))
        refine wpQuiet_nil ?_
        rintro _ ⟨g3, rfl⟩
        go_wp2_with fail
        go_ret2
        exact Ret.mk' (by have h := HSt.out; rw [Hw.out] at h; rw [← hF.out, h]; rfl) (((Later.refl _).alloc _).more _)
      · have ht := HS.out acc x ha0 haw.out hbx.1 hw
        have HC := Lib.hid (HT.out acc x ha0 haw.out hbx.1 hw)
        have Hw := Lib.hid hw
        have Ht := Lib.hid ht
        have ht0 := ht.1
        clear hw ht
        obtain ⟨t, htt⟩ : ∃ t, Wd.twoV s N 6 acc x = t := ⟨_, rfl⟩
        rw [htt] at HC ht0
        have Htt := Lib.hid htt
        clear htt
        go_upto_region 11 with fail
        refine wp_region_more (by kernel_rfl) (by kernel_rfl) ?_
        repeat (go_big_quiet_step (first | (go_at_call 34; with_reducible exact quiet_of (HC.out _))))
        refine wpQuiet_nil ?_
        rintro _ ⟨g3, rfl⟩
        go_wp2_with fail
        go_roundw
        case rel => exact ⟨k + 1, _, _, by omega, by go_num, rfl, ht0, Lib.hid (by rw [← Htt.out]; exact Ht.out.2), Lib.hid (by have h := HSt.out; rw [Hw.out] at h; rw [← hF.out, h, ← Htt.out]; rfl), rfl⟩
        case measure => simp [intOf]; omega
    · have HE := Lib.hid (Wd.allF_end (b := false) (s := s) (n := N) (op := 6) (acc := acc) (l := l) (k := k) (by omega))
      go_wp2_with fail
      go_ret2
      exact Ret.mk' (by rw [← hF.out, HE.out]; rfl) (((Later.refl _).alloc _).more _)
end Go.Proofs.Ytihnemlnnjdagaa
