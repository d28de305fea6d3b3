/-
  No statement of the seat is proved here. The walk of the law LanesCalls.
-/
import Derived.Test.YtmhmnjeimjjipaaRefE
import Derived.Test.YtmhmnjeimjjipaaPlainA
import Derived.Laws.Cover1
import Derived.Deep.CutBlock
import Derived.Deep.RegionWith
import Derived.Deep.DeepCutAuto
namespace Go.Proofs.Ytmhmnjeimjjipaa
open Go Go.RowKit
set_option linter.unusedVariables false
theorem RetSE.none {w : World} {er : Int} (F : Nat → Int) {e : Ending} {w' : World} (h : Ret w (.tuple #[.slice none 0 0, .int .i64 er]) e w') : RetSE w 0 F er e w' := ⟨.none, 0, h.1, h.2, .inl ⟨rfl, rfl⟩⟩
/-- The program's and the document's, call by call. -/
theorem pack_both (n : Int) (m : Nat) (f : Nat → Int) (hm : m ≤ 70) (hb : ∀ k, 0 ≤ f k ∧ f k < 18446744073709551616) : ∃ (N : Nat) (F : Nat → Int) (er : Int), N ≤ 64 ∧
    (∀ A c w, Nums w A m f → (∀ a, A = some a → a.spot = none) → Calls Try.prog 13 #[.int .i64 n, .slice A m c] w (RetSE w N F er)) ∧ (∀ A c w, Nums w A m f → Calls Try.prog 15 #[.int .i64 n, .slice A m c] w (RetSE w N F er)) := by
  by_cases h : Wd.fitsV n m f = true ∧ m ≤ 64
  · obtain ⟨n1, n2, _⟩ := fits_may h.1
    obtain ⟨k, rfl⟩ := Int.eq_ofNat_of_zero_le (show 0 ≤ n by omega)
    exact ⟨k, _, 0, by omega, fun A c w hN hz => pack_ok k A m c f w h.2 hN hz hb h.1, fun A c w hN => rpack_ok k A m c f w h.2 hN hb h.1⟩
  · have h' : Wd.fitsV n m f = false ∨ 64 < m := by
      by_cases a : Wd.fitsV n m f = true
      · right; have : ¬ m ≤ 64 := fun b => h ⟨a, b⟩; omega
      · left; simpa using a
    exact ⟨0, f, 1, by omega, fun A c w hN hz => (pack_no n A m c f w (by omega) hN hb h').mono fun _ _ h => RetSE.none f h, fun A c w hN => (rpack_no n A m c f w (by omega) hN hb h').mono fun _ _ h => RetSE.none f h⟩
theorem unpack_both (m : Nat) (f : Nat → Int) (hm : m ≤ 70) (hb : ∀ k, 0 ≤ f k ∧ f k < 18446744073709551616) : ∃ (U : Nat → Int) (er : Int),
    (∀ A c w, Nums w A m f → (∀ a, A = some a → a.spot = none) → Calls Try.prog 14 #[.slice A m c] w (Ret w (.tuple #[.agg (arr U), .int .i64 er]))) ∧ (∀ A c w, Nums w A m f → Calls Try.prog 16 #[.slice A m c] w (Ret w (.tuple #[.agg (arr U), .int .i64 er]))) := by
  cases h : Wd.may false false (m : Int)
  · exact ⟨_, 1, fun A c w hN hz => unpack_no A m c w h, fun A c w hN => runpack_no A m c w (by omega) h⟩
  · exact ⟨_, 0, fun A c w hN hz => unpack_ok A m c f w hN hz hb h, fun A c w hN => runpack_ok A m c f w hN hb h⟩
theorem okLane_nat {m : Nat} {l : Int} (h : Wd.okLane m l = true) : ∃ k : Nat, l = k := Int.eq_ofNat_of_zero_le (by simp only [Wd.okLane, Bool.and_eq_true, decide_eq_true_eq] at h; omega)
theorem lane_both (m : Nat) (f : Nat → Int) (l : Int) (hm : m ≤ 70) (hb : ∀ k, 0 ≤ f k ∧ f k < 18446744073709551616) : ∃ (v : Int) (er : Int),
    (∀ A c w, Nums w A m f → Calls Try.prog 17 #[.slice A m c, .int .i64 l] w (Ret w (.tuple #[.int .u64 v, .int .i64 er]))) ∧ (∀ A c w, Nums w A m f → Calls Try.prog 18 #[.slice A m c, .int .i64 l] w (Ret w (.tuple #[.int .u64 v, .int .i64 er]))) := by
  cases h : Wd.okLane m l
  · exact ⟨0, 1, fun A c w hN => lane_no A m c l w (by omega) h, fun A c w hN => rlane_no A m c l w (by omega) h⟩
  · obtain ⟨k, rfl⟩ := okLane_nat h
    exact ⟨_, 0, fun A c w hN => lane_ok A m c f k w hN hb h, fun A c w hN => rlane_ok A m c f k w hN hb h⟩
theorem set_both (m : Nat) (f : Nat → Int) (l x : Int) (hm : m ≤ 70) (hb : ∀ k, 0 ≤ f k ∧ f k < 18446744073709551616) (h0 : 0 ≤ x) (h1 : x < 18446744073709551616) : ∃ (N : Nat) (F : Nat → Int) (er : Int), N ≤ 70 ∧
    (∀ A c w, Nums w A m f → (∀ a, A = some a → a.spot = none) → Calls Try.prog 19 #[.slice A m c, .int .i64 l, .int .u64 x] w (RetSE w N F er)) ∧ (∀ A c w, Nums w A m f → Calls Try.prog 20 #[.slice A m c, .int .i64 l, .int .u64 x] w (RetSE w N F er)) := by
  by_cases h : Wd.okLane m l = true ∧ Wd.fitsV m 1 (fun _ => x) = true
  · obtain ⟨k, rfl⟩ := okLane_nat h.1
    exact ⟨m, _, 0, by omega, fun A c w hN hz => set_ok A m c f k x w hN hz hb h0 h1 h.1 h.2, fun A c w hN => rset_ok A m c f k x w hN hb h0 h1 h.1 h.2⟩
  · have h' : Wd.okLane m l = false ∨ Wd.fitsV m 1 (fun _ => x) = false := by
      by_cases a : Wd.okLane m l = true
      · right; have : ¬ Wd.fitsV m 1 (fun _ => x) = true := fun b => h ⟨a, b⟩; simpa using this
      · left; simpa using a
    exact ⟨0, f, 1, by omega, fun A c w hN hz => (set_no A m c l x w (by omega) h0 h1 h').mono fun _ _ h => RetSE.none f h, fun A c w hN => (rset_no A m c f l x w (by omega) hN hb h0 h1 h').mono fun _ _ h => RetSE.none f h⟩
theorem fill_both (n x : Int) (h0 : 0 ≤ x) (h1 : x < 18446744073709551616) : ∃ (N : Nat) (F : Nat → Int) (er : Int), N ≤ 64 ∧
    (∀ w, Calls Try.prog 21 #[.int .i64 n, .int .u64 x] w (RetSE w N F er)) ∧ (∀ w, Calls Try.prog 22 #[.int .i64 n, .int .u64 x] w (RetSE w N F er)) := by
  cases h : Wd.fitsV n 1 (fun _ => x)
  · exact ⟨0, fun _ => x, 1, by omega, fun w => (fill_no n x w h0 h1 h).mono fun _ _ h => RetSE.none _ h, fun w => (rfill_no n x w h0 h1 h).mono fun _ _ h => RetSE.none _ h⟩
  · obtain ⟨n1, n2, _⟩ := fits_may h
    obtain ⟨k, rfl⟩ := Int.eq_ofNat_of_zero_le (show 0 ≤ n by omega)
    exact ⟨k, _, 0, by omega, fun w => fill_ok k x w h0 h1 h, fun w => rfill_ok k x w h0 h1 h⟩
/-- The four rows that stay. -/
structure Four (w : World) (A1 B1 A2 B2 : Option Addr) (k1 k2 : Nat) (f h : Nat → Int) : Prop where
  words : Nums w A1 k1 f
  bits : Nums w B1 k2 h
  own : Nums w A2 k1 f
  kept : Nums w B2 k2 h
theorem Four.later {w w' : World} {A1 B1 A2 B2 : Option Addr} {k1 k2 : Nat} {f h : Nat → Int} (H : Four w A1 B1 A2 B2 k1 k2 f h) (hl : Later w w') : Four w' A1 B1 A2 B2 k1 k2 f h :=
  ⟨H.words.later hl, H.bits.later hl, H.own.later hl, H.kept.later hl⟩
theorem run_min70 {k x : Nat} (h : k = min x 70) (ts : Array TypeId) (t : TypeId) (w : World) : (Builtin.min_ ts t #[.int .i64 x, .int .i64 70]).run Try.prog w = .ok (.int .i64 k) w := by
  rw [run_min_int2]
  congr 2
  subst h
  repeat' split
  all_goals omega
set_option maxRecDepth 100000 in
set_option maxHeartbeats 4000000 in
theorem calls_walk (A B : Option Addr) (la ca lb cb : Nat) (f h : Nat → Int) (n l x : Int) (w : World) (hA : Nums w A la f) (hB : Nums w B lb h)
    (sA : ∀ a, A = some a → a.spot = none) (sB : ∀ a, B = some a → a.spot = none) (lA : la ≤ ca) (lB : lb ≤ cb) (mA : ca ≤ 9223372036854775807) (mB : cb ≤ 9223372036854775807)
    (hf : ∀ k, 0 ≤ f k ∧ f k < 18446744073709551616) (hh : ∀ k, 0 ≤ h k ∧ h k < 18446744073709551616) (hx : 0 ≤ x ∧ x < 18446744073709551616) :
    Calls Try.prog 6 #[.slice A la ca, .slice B lb cb, .agg #[.int .i64 n, .int .i64 l, .int .u64 x]] w (Ret w (.bool true)) := by
  obtain ⟨k1, hk1⟩ : ∃ k, k = min la 70 := ⟨_, rfl⟩
  obtain ⟨k2, hk2⟩ : ∃ k, k = min lb 70 := ⟨_, rfl⟩
  have hmin1 : min (la : Int) 70 = (k1 : Int) := by omega
  have hmin2 : min (lb : Int) 70 = (k2 : Int) := by omega
  have a1 : k1 ≤ la := by omega
  have a2 : k1 ≤ 70 := by omega
  have a3 : k1 ≤ ca := by omega
  have a4 : k2 ≤ lb := by omega
  have a5 : k2 ≤ 70 := by omega
  have a6 : k2 ≤ cb := by omega
  clear hk1 hk2
  have HA := Lib.hid hA
  have HB := Lib.hid hB
  have HF := Lib.hid hf
  have HH := Lib.hid hh
  have SA := Lib.hid sA
  have SB := Lib.hid sB
  clear hA hB sA sB hf hh
  go_enter Try.func6, Try.ntmps6
  go_wp2_with fail
  refine wp_region_later (by kernel_rfl) (by kernel_rfl) ?_
  repeat (go_big_quiet_step (fail))
  refine wpQuiet_nil ?_
  rintro _ ⟨g, rfl⟩
  go_wp2_with fail
  go_cut [0, 1] (fun s0 s1 wx => ∃ (A1 : Option Addr) (c1 : Nat) (B1 : Option Addr) (c2 : Nat), s0 = .slice A1 k1 c1 ∧ s1 = .slice B1 k2 c2 ∧ Hid (Later w wx) ∧ Hid (Mine w.heap.size wx A1 k1 f) ∧ Hid (Mine w.heap.size wx B1 k2 h))
  case first =>
    go_region_with (first
      | (go_at_call_of 12 (Value.slice A k1 ca); refine (clone_any A k1 ca f _ (fun c hc => HA.out.later (((Later.refl _).alloc _).more _) c (by omega)) (by omega) SA.out).mono ?_; rintro e w1 ⟨A1, c1, rfl, hL1, hM1⟩)
      | (go_at_call_of 12 (Value.slice B k2 cb); refine (clone_any B k2 cb h _ (fun c hc => (HB.out.later ((((Later.refl _).alloc _).more _).trans hL1)) c (by omega)) (by omega) SB.out).mono ?_; rintro e w2 ⟨B1, c2, rfl, hL2, hM2⟩))
    all_goals
      go_wp2_with fail
      go_meet
      exact ⟨A1, c1, B1, c2, rfl, rfl, Lib.hid (((((Later.refl w).alloc _).more _).trans hL1).trans hL2), Lib.hid ((hM1.later hL2).base (by simp; omega)), Lib.hid (hM2.base (by have := hL1.below.size; simp at this; omega))⟩
  case rest =>
    obtain ⟨A1, c1, B1, c2, rfl, rfl, HL, HM1, HM2⟩ := hcut
    obtain ⟨N5, F5, r5, n5, H13, H15⟩ := pack_both n k1 f a2 HF.out
    obtain ⟨U, r7, H14, H16⟩ := unpack_both k2 h a5 HH.out
    obtain ⟨v9, r9, H17, H18⟩ := lane_both k2 h l a5 HH.out
    obtain ⟨N11, F11, r11, n11, H19, H20⟩ := set_both k2 h l x a5 HH.out hx.1 hx.2
    obtain ⟨N13, F13, r13, n13, H21, H22⟩ := fill_both n x hx.1 hx.2
    have G13 := Lib.hid H13
    have G15 := Lib.hid H15
    have G14 := Lib.hid H14
    have G16 := Lib.hid H16
    have G17 := Lib.hid H17
    have G18 := Lib.hid H18
    have G19 := Lib.hid H19
    have G20 := Lib.hid H20
    have G21 := Lib.hid H21
    have G22 := Lib.hid H22
    have G24 := Lib.hid (count_any x hx.1 hx.2)
    have G25 := Lib.hid (rcount_any x hx.1 hx.2)
    generalize Cn.csum x.toNat 64 = cs at *
    clear H13 H15 H14 H16 H17 H18 H19 H20 H21 H22 hmin1 hmin2
    go_wp2_with (first
      | (go_at_call_of 12 (Value.slice A1 k1 c1); refine (clone_any A1 k1 c1 f _ HM1.out.nums (by omega) HM1.out.spot).mono ?_; rintro e w3 ⟨A2, c3, rfl, hL3, hM3⟩)
      | (go_at_call_of 12 (Value.slice B1 k2 c2); refine (clone_any B1 k2 c2 h _ (HM2.out.nums.later hL3) (by omega) HM2.out.spot).mono ?_; rintro e w4 ⟨B2, c4, rfl, hL4, hM4⟩; have HQ : Hid (Four w4 A1 B1 A2 B2 k1 k2 f h) := Lib.hid ⟨HM1.out.nums.later (hL3.trans hL4), HM2.out.nums.later (hL3.trans hL4), hM3.nums.later hL4, hM4.nums⟩)
      | (go_at_call 13; refine (G13.out A2 c3 _ HQ.out.own hM3.spot).mono ?_; rintro e w5 ⟨A5, c5, rfl, hL5, hM5⟩; replace HQ := Lib.hid (HQ.out.later hL5))
      | (go_at_call 15; refine (G15.out A1 c1 _ HQ.out.words).mono ?_; rintro e w6 ⟨A6, c6, rfl, hL6, hM6⟩; replace HQ := Lib.hid (HQ.out.later hL6))
      | (go_at_call 14; refine (G14.out B2 c4 _ HQ.out.kept hM4.spot).mono ?_; rintro e w7 ⟨rfl, hL7⟩; replace HQ := Lib.hid (HQ.out.later (hL7.alloc (.cells (arr U) 23))))
      | (go_at_call 16; refine (G16.out B1 c2 _ HQ.out.bits).mono ?_; rintro e w8 ⟨rfl, hL8⟩; replace HQ := Lib.hid (HQ.out.later (hL8.alloc (.cells (arr U) 23))))
      | (go_at_call 17; refine (G17.out B2 c4 _ HQ.out.kept).mono ?_; rintro e w9 ⟨rfl, hL9⟩; replace HQ := Lib.hid (HQ.out.later hL9))
      | (go_at_call 18; refine (G18.out B1 c2 _ HQ.out.bits).mono ?_; rintro e w10 ⟨rfl, hL10⟩; replace HQ := Lib.hid (HQ.out.later hL10))
      | (go_at_call 19; refine (G19.out B2 c4 _ HQ.out.kept hM4.spot).mono ?_; rintro e w11 ⟨A11, c11, rfl, hL11, hM11⟩; have HP := HQ; replace HQ := Lib.hid (HQ.out.later hL11))
      | (go_at_call 20; refine (G20.out B1 c2 _ HQ.out.bits).mono ?_; rintro e w12 ⟨A12, c12, rfl, hL12, hM12⟩; replace HQ := Lib.hid (HQ.out.later hL12))
      | (go_at_call 21; refine (G21.out _).mono ?_; rintro e w13 ⟨A13, c13, rfl, hL13, hM13⟩)
      | (go_at_call 22; refine (G22.out _).mono ?_; rintro e w14 ⟨A14, c14, rfl, hL14, hM14⟩)
      | (go_at_call_of 23 (Value.slice A5 N5 c5); have c1014 : Later w10 w14 := hL11.trans (hL12.trans (hL13.trans hL14)); have c614 : Later w6 w14 := (hL7.alloc (.cells (arr U) 23)).trans ((hL8.alloc (.cells (arr U) 23)).trans (hL9.trans (hL10.trans c1014))); refine (equal_yes A5 A6 N5 c5 c6 F5 F5 _ (by omega) ((hM5.nums.later hL6).later c614) (hM6.nums.later c614) (fun _ _ => rfl)).mono ?_; rintro e w15 ⟨rfl, hL15⟩; have b7 := ((Sq.new w7 U).later (((hL8.alloc (.cells (arr U) 23)).trans (hL9.trans hL10)).trans (c1014.trans hL15))).block; have b8 := ((Sq.new w8 U).later ((hL9.trans hL10).trans (c1014.trans hL15))).block)
      | (go_at_call_of 23 (Value.slice A11 N11 c11); refine (equal_yes A11 A12 N11 c11 c12 F11 F11 _ (by omega) (hM11.nums.later (hL12.trans (hL13.trans (hL14.trans hL15)))) (hM12.nums.later (hL13.trans (hL14.trans hL15))) (fun _ _ => rfl)).mono ?_; rintro e w16 ⟨rfl, hL16⟩)
      | (go_at_call_of 23 (Value.slice A13 N13 c13); refine (equal_yes A13 A14 N13 c13 c14 F13 F13 _ (by omega) (hM13.nums.later (hL14.trans (hL15.trans hL16))) (hM14.nums.later (hL15.trans hL16)) (fun _ _ => rfl)).mono ?_; rintro e w17 ⟨rfl, hL17⟩)
      | (go_at_call 24; refine (G24.out _).mono ?_; rintro e w18 ⟨rfl, hL18⟩)
      | (go_at_call 25; refine (G25.out _).mono ?_; rintro e w19 ⟨rfl, hL19⟩))
    have c1119 : Later w11 w19 := (hL12.trans (hL13.trans (hL14.trans hL15))).trans ((hL16.trans (hL17.trans (hL18.trans hL19))))
    have M11 := Lib.hid (hM11.later c1119)
    have L10 := Lib.hid (hL11.trans c1119)
    have L0 := Lib.hid (((HL.out.trans hL3).trans hL4).trans (hL5.trans (hL6.trans ((hL7.alloc (.cells (arr U) 23)).trans ((hL8.alloc (.cells (arr U) 23)).trans (hL9.trans hL10))))))
    clear hM3 hM4 hM5 hM6 hM11 hM12 hM13 hM14 hL3 hL4 hL5 hL6 hL7 hL8 hL9 hL10 hL11 hL12 hL13 hL14 hL15 hL16 hL17 hL18 hL19 c1119 c614 c1014 b7 b8 HQ HM1 HM2 HL
    go_loopw [33, 173] (fun _ j wr => ∃ (i : Nat) (H : Nat → Int), i ≤ N11 ∧ j = .int .i64 i ∧ Hid (Mine w10.heap.size wr A11 N11 H) ∧ Hid (Later w10 wr)) (fun _ j _ => N11 - (intOf j).toNat)
    case atStart => exact ⟨0, F11, Nat.zero_le _, rfl, M11, L10⟩
    case round =>
      obtain ⟨i, H, hi, rfl, hM, hL⟩ := hrel
      by_cases hlt : i < N11
      · obtain ⟨_, hz⟩ | ⟨b1, rfl, hb1, hO1⟩ := hM.out
        · exact absurd hz (by omega)
        have x1 := (hO1.2 i hlt).1
        have f1 := (hO1.2 i hlt).2
        have l1 := hO1.1
        generalize H i = y at *
        have HO1 := Lib.hid hO1
        clear hO1
        go_wp2_with fail
        go_roundw
        case rel => exact ⟨i + 1, _, by omega, by go_num, Lib.hid ((HO1.out.set hlt _).mine hb1), Lib.hid (hL.out.setCell hb1 _)⟩
        case measure => simp [intOf]; omega
      · obtain rfl : N11 = i := by omega
        have HQ := Lib.hid (HP.out.later hL.out)
        go_wp2_with (first
          | (go_at_call_of 23 (Value.slice A2 k1 c3); refine (equal_yes A2 A1 k1 c3 c1 f f _ (by omega) HQ.out.own HQ.out.words (fun _ _ => rfl)).mono ?_; rintro e w20 ⟨rfl, hL20⟩)
          | (go_at_call_of 23 (Value.slice B2 k2 c4); refine (equal_yes B2 B1 k2 c4 c2 h h _ (by omega) (HQ.out.kept.later hL20) (HQ.out.bits.later hL20) (fun _ _ => rfl)).mono ?_; rintro e w21 ⟨rfl, hL21⟩)
          | (go_at_call 11; refine (wakes_ok _).mono ?_; rintro e w22 ⟨rfl, hL22⟩))
        go_ret
        exact Ret.mk ((L0.out.trans hL.out).trans (hL20.trans (hL21.trans hL22)))
end Go.Proofs.Ytmhmnjeimjjipaa
