/-
  No statement of the seat is proved here. Contracts of the document's own Two at and, or, xor, add, mul, for every type and words.
-/
import Derived.Test.YtihnemlnnjdagaaRowC
namespace Go.Proofs.Ytihnemlnnjdagaa
open Go Go.RowKit Bt
set_option linter.unusedVariables false
namespace Bt
theorem bt_of_bit {X Y Z k : Nat} (h : Z.testBit k = (X.testBit k && Y.testBit k)) : bt Z k = bt X k * bt Y k := by
  simp only [Nat.testBit_eq_decide_div_mod_eq] at h
  have h1 := bt_le X k
  have h2 := bt_le Y k
  have h3 := bt_le Z k
  unfold bt at *
  have e1 : X / 2 ^ k % 2 = 0 ∨ X / 2 ^ k % 2 = 1 := by omega
  have e2 : Y / 2 ^ k % 2 = 0 ∨ Y / 2 ^ k % 2 = 1 := by omega
  rcases e1 with e1 | e1 <;> rcases e2 with e2 | e2 <;> simp [e1, e2] at h ⊢ <;> omega
theorem bt_and (X Y k : Nat) : bt (X &&& Y) k = bt X k * bt Y k := bt_of_bit (Nat.testBit_and ..)
theorem bt_or (X Y k : Nat) : bt (X ||| Y) k = (bt X k + bt Y k + 1) / 2 := by
  have h := Nat.testBit_or X Y k
  simp only [Nat.testBit_eq_decide_div_mod_eq] at h
  unfold bt at *
  have e1 : X / 2 ^ k % 2 = 0 ∨ X / 2 ^ k % 2 = 1 := by omega
  have e2 : Y / 2 ^ k % 2 = 0 ∨ Y / 2 ^ k % 2 = 1 := by omega
  rcases e1 with e1 | e1 <;> rcases e2 with e2 | e2 <;> simp [e1, e2] at h ⊢ <;> omega
theorem bt_xor (X Y k : Nat) : bt (X ^^^ Y) k = (bt X k + bt Y k) % 2 := by
  have h := Nat.testBit_xor X Y k
  simp only [Nat.testBit_eq_decide_div_mod_eq] at h
  unfold bt at *
  have e1 : X / 2 ^ k % 2 = 0 ∨ X / 2 ^ k % 2 = 1 := by omega
  have e2 : Y / 2 ^ k % 2 = 0 ∨ Y / 2 ^ k % 2 = 1 := by omega
  rcases e1 with e1 | e1 <;> rcases e2 with e2 | e2 <;> simp [e1, e2] at h ⊢ <;> omega
theorem bt_shl (X i k : Nat) : bt (X * 2 ^ i) k = if i ≤ k then bt X (k - i) else 0 := by
  have h : (X * 2 ^ i).testBit k = (decide (i ≤ k) && X.testBit (k - i)) := by rw [← Nat.shiftLeft_eq, Nat.testBit_shiftLeft]
  simp only [Nat.testBit_eq_decide_div_mod_eq] at h
  unfold bt
  by_cases e : i ≤ k
  · rw [if_pos e]
    simp only [e, decide_true, Bool.true_and, decide_eq_decide] at h
    omega
  · rw [if_neg e]
    simp only [e, decide_false, Bool.false_and, decide_eq_false_iff_not] at h
    omega
end Bt
theorem isw_nat {b s : Bool} {N X : Nat} (h : Wd.isw b s N X = true) : X < 2 ^ N ∧ X < 18446744073709551616 ∧ 1 ≤ N ∧ N ≤ 64 := by
  have hm := Wd.isw_may h
  obtain ⟨h1, h2⟩ := Wd.may_bd hm
  have hx := Wd.isw_lt h
  have hp := pw_cast N
  have hl := Wd.pw_le h2
  exact ⟨by omega, by omega, by omega, by omega⟩
/-- One step of a row that is written from its head. -/
theorem step_row {n : Nat} {F h : Nat → Int} {k : Nat} (hP : ∀ c, c < n → h c = if c < k then F c else 0) {x : Int} (hx : x = F k) (c : Nat) (hc : c < n) : (if c = k then x else h c) = if c < k + 1 then F c else 0 := by
  by_cases e : c = k
  · subst e; rw [if_pos rfl, if_pos (by omega)]; exact hx
  · rw [if_neg e, hP c hc]
    by_cases e2 : c < k
    · rw [if_pos e2, if_pos (by omega)]
    · rw [if_neg e2, if_neg (by omega)]

set_option maxRecDepth 100000 in
set_option maxHeartbeats 4000000 in
theorem rtwo_1t {s : Bool} {N X Y : Nat} (hx : Wd.isw true s N X = true) (hy : Wd.isw true s N Y = true) (w : World) :
    Calls Try.prog 34 #[.int .i64 1, .agg #[.bool true, .bool s, .int .i64 N], .int .u64 X, .int .u64 Y] w (Ret w (.tuple #[.int .u64 (X &&& Y : Nat), .int .i64 0])) := by
  obtain ⟨xN, x64, n1, n2⟩ := isw_nat hx
  obtain ⟨yN, y64, _, _⟩ := isw_nat hy
  obtain ⟨i0, hi, hz0, hz1, hz2⟩ := info_parts (P := Try.prog) (e := 3) (z := .int .i64 0) (size := 1) (bytes := 8) info3
  have HF := Lib.hid (bt_and X Y)
  have hz : (X &&& Y) % 2 ^ N = (X &&& Y) := Nat.mod_eq_of_lt (Nat.and_lt_two_pow X yN)
  obtain ⟨Z, hZ⟩ : ∃ Z, (X &&& Y) = Z := ⟨_, rfl⟩
  rw [hZ] at hz HF
  rw [hZ]
  have HZ := Lib.hid hz
  clear hz hZ xN yN
  have HX := Lib.hid (fun w => ris_is (v := true) hx x64 w)
  have HY := Lib.hid (fun w => ris_is (v := true) hy y64 w)
  have HBX := Lib.hid (fun w => rbits_any X N n1 n2 x64 w)
  have HBY := Lib.hid (fun w => rbits_any Y N n1 n2 y64 w)
  have tok1 : True := trivial
  have tok2 : True := trivial
  clear hx hy
  go_enter Try.func34, Try.ntmps34
  go_wp2_with (first
    | (go_at_call 35; have _t := tok1; refine (HX.out _).mono ?_; rintro e w1 ⟨rfl, hL1⟩; clear _t tok1; have q0 := cell_later hL1 0 _ rfl; have q1 := cell_later hL1 1 _ rfl; have q2 := cell_later hL1 2 _ rfl)
    | (go_at_call 35; refine (HY.out _).mono ?_; rintro e w2 ⟨rfl, hL2⟩; have hL12 := hL1.trans hL2; clear q0 q1 q2; have q0 := cell_later hL12 0 _ rfl; have q1 := cell_later hL12 1 _ rfl; have q2 := cell_later hL12 2 _ rfl)
    | (go_at_call 32; have _t := tok2; refine (HBX.out _).mono ?_; rintro e w3 ⟨bx, cx, rfl, hL3, hgx, hOx⟩; clear _t tok2; have hL13 := hL12.trans hL3; clear q0 q1 q2; have q0 := cell_later hL13 0 _ rfl; have q1 := cell_later hL13 1 _ rfl; have q2 := cell_later hL13 2 _ rfl)
    | (go_at_call 32; refine (HBY.out _).mono ?_; rintro e w4 ⟨by', cy', rfl, hL4, hgy, hOy⟩; have hL14 := hL13.trans hL4; clear q0 q1 q2; have q0 := cell_later hL14 0 _ rfl; have q1 := cell_later hL14 1 _ rfl; have q2 := cell_later hL14 2 _ rfl)
    | (at_make; refine wpList_make_full _ rfl _ _ 57 rfl 0 3 i0 (.int .i64 0) 1 Try.underlying57 hi hz0 hz1 .i64 .i64 _ _ N rfl rfl rfl rfl (by rw [hz2]; omega) (by unfold maxLen; omega) (Nat.zero_le _) ?_; intro w5 hown hgrow; have hL15 := hL14.trans (Later.of_grown hgrow); clear q0 q1 q2; have q0 := cell_later hL15 0 _ rfl; have q1 := cell_later hL15 1 _ rfl; have q2 := cell_later hL15 2 _ rfl))
  obtain ⟨b5, c5, hbc, _, hO⟩ := IOwn.of_row (f := fun _ => 0) hown (made_at N) (by simp)
  have hb : w4.heap.size = b5 := by injection hbc with hb; injection hb with hb; injection hb
  clear hbc
  subst hb
  have hge0 : w.heap.size + 1 ≤ w4.heap.size := by have := hL14.below.size; simpa using this
  have HL := Lib.hid hL15
  have HL4 := Lib.hid (Later.of_grown hgrow)
  have HOx := Lib.hid (hOx.later hL4)
  have HOy := Lib.hid hOy
  have hge4 : w4.heap.size ≤ w4.heap.size := Nat.le_refl _
  obtain ⟨b5, hb⟩ : ∃ b, w4.heap.size = b := ⟨_, rfl⟩
  have hge5 : w4.heap.size ≤ b5 := by omega
  rw [hb] at hO hge0 ⊢
  have HO := Lib.hid hO
  clear hO hz0 hz1 hz2 hi hown hgrow hL1 hL2 hL3 hL4 hL12 hL13 hL14 hL15 hOx hOy q0 q1 q2 hb hge4 hgx hgy
  go_loopw [13] (fun i wr => ∃ (k : Nat) (h : Nat → Int), k ≤ N ∧ i = .int .i64 k ∧ Hid (∀ c, c < N → h c = if c < k then ((bt Z c : Nat) : Int) else 0) ∧ Hid (IOwn wr b5 N h) ∧ Hid (Later (w.alloc (.cells #[.bool true, .bool s, .int .i64 N] 23)) wr) ∧ Hid (Later w4 wr)) (fun i _ => N - (intOf i).toNat)
  case atStart => exact ⟨0, _, Nat.zero_le _, rfl, Lib.hid (fun c hc => by simp), HO, HL, HL4⟩
  case round =>
    obtain ⟨k, h, hk, rfl, hP, hO, hL, hL4⟩ := hrel
    have q2 := cell_later hL.out 2 _ rfl
    have q0 := cell_later hL.out 0 _ rfl
    have q1 := cell_later hL.out 1 _ rfl
    by_cases hlt : k < N
    · have x5 := (hO.out.2 k hlt).1
      have f5 := (hO.out.2 k hlt).2
      have l5 := hO.out.1
      have cx1 : wr.cell? ⟨bx, k, none⟩ = some (.int .i64 ((bt X k : Nat) : Int)) := ((HOx.out.later hL4.out).2 k hlt).1
      have cy1 : wr.cell? ⟨by', k, none⟩ = some (.int .i64 ((bt Y k : Nat) : Int)) := ((HOy.out.later hL4.out).2 k hlt).1
      have hx := bt_le X k
      have hy := bt_le Y k
      have hF := Lib.hid (HF.out k)
      generalize bt X k = x at *
      generalize bt Y k = y at *
      have ex : x = 0 ∨ x = 1 := by omega
      rcases ex with rfl | rfl
      · go_upto_region 16 with fail
        go_still_tail 12, (by kernel_rfl)
        change wpList _ _ _ _ _ wr.drew
        · go_wp2_with fail
          go_roundw
          case rel => exact ⟨k + 1, _, by omega, by go_num, Lib.hid (step_row (F := fun c => ((bt Z c : Nat) : Int)) (x := (0 : Int)) hP.out (by show (0 : Int) = ((bt Z k : Nat) : Int); rw [hF.out]; omega)), Lib.hid ((hO.out.set hlt _).later ((Later.refl _).drew)), Lib.hid ((hL.out.setCell (by simp; omega) _).drew), Lib.hid ((hL4.out.setCell hge5 _).drew)⟩
          case measure => simp [intOf]; omega
      · go_upto_region 16 with fail
        go_still_tail 12, (by kernel_rfl)
        change wpList _ _ _ _ _ wr.drew
        · go_wp2_with fail
          go_roundw
          case rel => exact ⟨k + 1, _, by omega, by go_num, Lib.hid (step_row (F := fun c => ((bt Z c : Nat) : Int)) (x := (y : Int)) hP.out (by show (y : Int) = ((bt Z k : Nat) : Int); rw [hF.out]; omega)), Lib.hid ((hO.out.set hlt _).later ((Later.refl _).drew)), Lib.hid ((hL.out.setCell (by simp; omega) _).drew), Lib.hid ((hL4.out.setCell hge5 _).drew)⟩
          case measure => simp [intOf]; omega
    · obtain rfl : N = k := by omega
      have HR := Lib.hid (IOwn.row (hO.out.congr (h := fun c => ((bt Z c : Nat) : Int)) fun c hc => by rw [hP.out c hc, if_pos hc]))
      go_wp2_with (first
        | (go_at_call 31; refine (rnumber_is n2 HZ.out _ HR.out).mono ?_; rintro e w6 ⟨rfl, hL6⟩))
      go_ret2
      exact Ret.mk ((((Later.refl w).alloc _).trans hL.out).trans hL6)

set_option maxRecDepth 100000 in
set_option maxHeartbeats 4000000 in
theorem rtwo_1f {s : Bool} {N X Y : Nat} (hx : Wd.isw false s N X = true) (hy : Wd.isw false s N Y = true) (w : World) :
    Calls Try.prog 34 #[.int .i64 1, .agg #[.bool false, .bool s, .int .i64 N], .int .u64 X, .int .u64 Y] w (Ret w (.tuple #[.int .u64 (X &&& Y : Nat), .int .i64 0])) := by
  obtain ⟨xN, x64, n1, n2⟩ := isw_nat hx
  obtain ⟨yN, y64, _, _⟩ := isw_nat hy
  obtain ⟨i0, hi, hz0, hz1, hz2⟩ := info_parts (P := Try.prog) (e := 3) (z := .int .i64 0) (size := 1) (bytes := 8) info3
  have HF := Lib.hid (bt_and X Y)
  have hz : (X &&& Y) % 2 ^ N = (X &&& Y) := Nat.mod_eq_of_lt (Nat.and_lt_two_pow X yN)
  obtain ⟨Z, hZ⟩ : ∃ Z, (X &&& Y) = Z := ⟨_, rfl⟩
  rw [hZ] at hz HF
  rw [hZ]
  have HZ := Lib.hid hz
  clear hz hZ xN yN
  have HX := Lib.hid (fun w => ris_is (v := true) hx x64 w)
  have HY := Lib.hid (fun w => ris_is (v := true) hy y64 w)
  have HBX := Lib.hid (fun w => rbits_any X N n1 n2 x64 w)
  have HBY := Lib.hid (fun w => rbits_any Y N n1 n2 y64 w)
  have tok1 : True := trivial
  have tok2 : True := trivial
  clear hx hy
  go_enter Try.func34, Try.ntmps34
  go_wp2_with (first
    | (go_at_call 35; have _t := tok1; refine (HX.out _).mono ?_; rintro e w1 ⟨rfl, hL1⟩; clear _t tok1; have q0 := cell_later hL1 0 _ rfl; have q1 := cell_later hL1 1 _ rfl; have q2 := cell_later hL1 2 _ rfl)
    | (go_at_call 35; refine (HY.out _).mono ?_; rintro e w2 ⟨rfl, hL2⟩; have hL12 := hL1.trans hL2; clear q0 q1 q2; have q0 := cell_later hL12 0 _ rfl; have q1 := cell_later hL12 1 _ rfl; have q2 := cell_later hL12 2 _ rfl)
    | (go_at_call 32; have _t := tok2; refine (HBX.out _).mono ?_; rintro e w3 ⟨bx, cx, rfl, hL3, hgx, hOx⟩; clear _t tok2; have hL13 := hL12.trans hL3; clear q0 q1 q2; have q0 := cell_later hL13 0 _ rfl; have q1 := cell_later hL13 1 _ rfl; have q2 := cell_later hL13 2 _ rfl)
    | (go_at_call 32; refine (HBY.out _).mono ?_; rintro e w4 ⟨by', cy', rfl, hL4, hgy, hOy⟩; have hL14 := hL13.trans hL4; clear q0 q1 q2; have q0 := cell_later hL14 0 _ rfl; have q1 := cell_later hL14 1 _ rfl; have q2 := cell_later hL14 2 _ rfl)
    | (at_make; refine wpList_make_full _ rfl _ _ 57 rfl 0 3 i0 (.int .i64 0) 1 Try.underlying57 hi hz0 hz1 .i64 .i64 _ _ N rfl rfl rfl rfl (by rw [hz2]; omega) (by unfold maxLen; omega) (Nat.zero_le _) ?_; intro w5 hown hgrow; have hL15 := hL14.trans (Later.of_grown hgrow); clear q0 q1 q2; have q0 := cell_later hL15 0 _ rfl; have q1 := cell_later hL15 1 _ rfl; have q2 := cell_later hL15 2 _ rfl))
  obtain ⟨b5, c5, hbc, _, hO⟩ := IOwn.of_row (f := fun _ => 0) hown (made_at N) (by simp)
  have hb : w4.heap.size = b5 := by injection hbc with hb; injection hb with hb; injection hb
  clear hbc
  subst hb
  have hge0 : w.heap.size + 1 ≤ w4.heap.size := by have := hL14.below.size; simpa using this
  have HL := Lib.hid hL15
  have HL4 := Lib.hid (Later.of_grown hgrow)
  have HOx := Lib.hid (hOx.later hL4)
  have HOy := Lib.hid hOy
  have hge4 : w4.heap.size ≤ w4.heap.size := Nat.le_refl _
  obtain ⟨b5, hb⟩ : ∃ b, w4.heap.size = b := ⟨_, rfl⟩
  have hge5 : w4.heap.size ≤ b5 := by omega
  rw [hb] at hO hge0 ⊢
  have HO := Lib.hid hO
  clear hO hz0 hz1 hz2 hi hown hgrow hL1 hL2 hL3 hL4 hL12 hL13 hL14 hL15 hOx hOy q0 q1 q2 hb hge4 hgx hgy
  go_loopw [13] (fun i wr => ∃ (k : Nat) (h : Nat → Int), k ≤ N ∧ i = .int .i64 k ∧ Hid (∀ c, c < N → h c = if c < k then ((bt Z c : Nat) : Int) else 0) ∧ Hid (IOwn wr b5 N h) ∧ Hid (Later (w.alloc (.cells #[.bool false, .bool s, .int .i64 N] 23)) wr) ∧ Hid (Later w4 wr)) (fun i _ => N - (intOf i).toNat)
  case atStart => exact ⟨0, _, Nat.zero_le _, rfl, Lib.hid (fun c hc => by simp), HO, HL, HL4⟩
  case round =>
    obtain ⟨k, h, hk, rfl, hP, hO, hL, hL4⟩ := hrel
    have q2 := cell_later hL.out 2 _ rfl
    have q0 := cell_later hL.out 0 _ rfl
    have q1 := cell_later hL.out 1 _ rfl
    by_cases hlt : k < N
    · have x5 := (hO.out.2 k hlt).1
      have f5 := (hO.out.2 k hlt).2
      have l5 := hO.out.1
      have cx1 : wr.cell? ⟨bx, k, none⟩ = some (.int .i64 ((bt X k : Nat) : Int)) := ((HOx.out.later hL4.out).2 k hlt).1
      have cy1 : wr.cell? ⟨by', k, none⟩ = some (.int .i64 ((bt Y k : Nat) : Int)) := ((HOy.out.later hL4.out).2 k hlt).1
      have hx := bt_le X k
      have hy := bt_le Y k
      have hF := Lib.hid (HF.out k)
      generalize bt X k = x at *
      generalize bt Y k = y at *
      have ex : x = 0 ∨ x = 1 := by omega
      rcases ex with rfl | rfl
      · go_upto_region 16 with fail
        go_still_tail 12, (by kernel_rfl)
        change wpList _ _ _ _ _ wr.drew
        · go_wp2_with fail
          go_roundw
          case rel => exact ⟨k + 1, _, by omega, by go_num, Lib.hid (step_row (F := fun c => ((bt Z c : Nat) : Int)) (x := (0 : Int)) hP.out (by show (0 : Int) = ((bt Z k : Nat) : Int); rw [hF.out]; omega)), Lib.hid ((hO.out.set hlt _).later ((Later.refl _).drew)), Lib.hid ((hL.out.setCell (by simp; omega) _).drew), Lib.hid ((hL4.out.setCell hge5 _).drew)⟩
          case measure => simp [intOf]; omega
      · go_upto_region 16 with fail
        go_still_tail 12, (by kernel_rfl)
        change wpList _ _ _ _ _ wr.drew
        · go_wp2_with fail
          go_roundw
          case rel => exact ⟨k + 1, _, by omega, by go_num, Lib.hid (step_row (F := fun c => ((bt Z c : Nat) : Int)) (x := (y : Int)) hP.out (by show (y : Int) = ((bt Z k : Nat) : Int); rw [hF.out]; omega)), Lib.hid ((hO.out.set hlt _).later ((Later.refl _).drew)), Lib.hid ((hL.out.setCell (by simp; omega) _).drew), Lib.hid ((hL4.out.setCell hge5 _).drew)⟩
          case measure => simp [intOf]; omega
    · obtain rfl : N = k := by omega
      have HR := Lib.hid (IOwn.row (hO.out.congr (h := fun c => ((bt Z c : Nat) : Int)) fun c hc => by rw [hP.out c hc, if_pos hc]))
      go_wp2_with (first
        | (go_at_call 31; refine (rnumber_is n2 HZ.out _ HR.out).mono ?_; rintro e w6 ⟨rfl, hL6⟩))
      go_ret2
      exact Ret.mk ((((Later.refl w).alloc _).trans hL.out).trans hL6)

set_option maxRecDepth 100000 in
set_option maxHeartbeats 4000000 in
theorem rtwo_2t {s : Bool} {N X Y : Nat} (hx : Wd.isw true s N X = true) (hy : Wd.isw true s N Y = true) (w : World) :
    Calls Try.prog 34 #[.int .i64 2, .agg #[.bool true, .bool s, .int .i64 N], .int .u64 X, .int .u64 Y] w (Ret w (.tuple #[.int .u64 (X ||| Y : Nat), .int .i64 0])) := by
  obtain ⟨xN, x64, n1, n2⟩ := isw_nat hx
  obtain ⟨yN, y64, _, _⟩ := isw_nat hy
  obtain ⟨i0, hi, hz0, hz1, hz2⟩ := info_parts (P := Try.prog) (e := 3) (z := .int .i64 0) (size := 1) (bytes := 8) info3
  have HF := Lib.hid (bt_or X Y)
  have hz : (X ||| Y) % 2 ^ N = (X ||| Y) := Nat.mod_eq_of_lt (Nat.or_lt_two_pow xN yN)
  obtain ⟨Z, hZ⟩ : ∃ Z, (X ||| Y) = Z := ⟨_, rfl⟩
  rw [hZ] at hz HF
  rw [hZ]
  have HZ := Lib.hid hz
  clear hz hZ xN yN
  have HX := Lib.hid (fun w => ris_is (v := true) hx x64 w)
  have HY := Lib.hid (fun w => ris_is (v := true) hy y64 w)
  have HBX := Lib.hid (fun w => rbits_any X N n1 n2 x64 w)
  have HBY := Lib.hid (fun w => rbits_any Y N n1 n2 y64 w)
  have tok1 : True := trivial
  have tok2 : True := trivial
  clear hx hy
  go_enter Try.func34, Try.ntmps34
  go_wp2_with (first
    | (go_at_call 35; have _t := tok1; refine (HX.out _).mono ?_; rintro e w1 ⟨rfl, hL1⟩; clear _t tok1; have q0 := cell_later hL1 0 _ rfl; have q1 := cell_later hL1 1 _ rfl; have q2 := cell_later hL1 2 _ rfl)
    | (go_at_call 35; refine (HY.out _).mono ?_; rintro e w2 ⟨rfl, hL2⟩; have hL12 := hL1.trans hL2; clear q0 q1 q2; have q0 := cell_later hL12 0 _ rfl; have q1 := cell_later hL12 1 _ rfl; have q2 := cell_later hL12 2 _ rfl)
    | (go_at_call 32; have _t := tok2; refine (HBX.out _).mono ?_; rintro e w3 ⟨bx, cx, rfl, hL3, hgx, hOx⟩; clear _t tok2; have hL13 := hL12.trans hL3; clear q0 q1 q2; have q0 := cell_later hL13 0 _ rfl; have q1 := cell_later hL13 1 _ rfl; have q2 := cell_later hL13 2 _ rfl)
    | (go_at_call 32; refine (HBY.out _).mono ?_; rintro e w4 ⟨by', cy', rfl, hL4, hgy, hOy⟩; have hL14 := hL13.trans hL4; clear q0 q1 q2; have q0 := cell_later hL14 0 _ rfl; have q1 := cell_later hL14 1 _ rfl; have q2 := cell_later hL14 2 _ rfl)
    | (at_make; refine wpList_make_full _ rfl _ _ 57 rfl 0 3 i0 (.int .i64 0) 1 Try.underlying57 hi hz0 hz1 .i64 .i64 _ _ N rfl rfl rfl rfl (by rw [hz2]; omega) (by unfold maxLen; omega) (Nat.zero_le _) ?_; intro w5 hown hgrow; have hL15 := hL14.trans (Later.of_grown hgrow); clear q0 q1 q2; have q0 := cell_later hL15 0 _ rfl; have q1 := cell_later hL15 1 _ rfl; have q2 := cell_later hL15 2 _ rfl))
  obtain ⟨b5, c5, hbc, _, hO⟩ := IOwn.of_row (f := fun _ => 0) hown (made_at N) (by simp)
  have hb : w4.heap.size = b5 := by injection hbc with hb; injection hb with hb; injection hb
  clear hbc
  subst hb
  have hge0 : w.heap.size + 1 ≤ w4.heap.size := by have := hL14.below.size; simpa using this
  have HL := Lib.hid hL15
  have HL4 := Lib.hid (Later.of_grown hgrow)
  have HOx := Lib.hid (hOx.later hL4)
  have HOy := Lib.hid hOy
  have hge4 : w4.heap.size ≤ w4.heap.size := Nat.le_refl _
  obtain ⟨b5, hb⟩ : ∃ b, w4.heap.size = b := ⟨_, rfl⟩
  have hge5 : w4.heap.size ≤ b5 := by omega
  rw [hb] at hO hge0 ⊢
  have HO := Lib.hid hO
  clear hO hz0 hz1 hz2 hi hown hgrow hL1 hL2 hL3 hL4 hL12 hL13 hL14 hL15 hOx hOy q0 q1 q2 hb hge4 hgx hgy
  go_loopw [13] (fun i wr => ∃ (k : Nat) (h : Nat → Int), k ≤ N ∧ i = .int .i64 k ∧ Hid (∀ c, c < N → h c = if c < k then ((bt Z c : Nat) : Int) else 0) ∧ Hid (IOwn wr b5 N h) ∧ Hid (Later (w.alloc (.cells #[.bool true, .bool s, .int .i64 N] 23)) wr) ∧ Hid (Later w4 wr)) (fun i _ => N - (intOf i).toNat)
  case atStart => exact ⟨0, _, Nat.zero_le _, rfl, Lib.hid (fun c hc => by simp), HO, HL, HL4⟩
  case round =>
    obtain ⟨k, h, hk, rfl, hP, hO, hL, hL4⟩ := hrel
    have q2 := cell_later hL.out 2 _ rfl
    have q0 := cell_later hL.out 0 _ rfl
    have q1 := cell_later hL.out 1 _ rfl
    by_cases hlt : k < N
    · have x5 := (hO.out.2 k hlt).1
      have f5 := (hO.out.2 k hlt).2
      have l5 := hO.out.1
      have cx1 : wr.cell? ⟨bx, k, none⟩ = some (.int .i64 ((bt X k : Nat) : Int)) := ((HOx.out.later hL4.out).2 k hlt).1
      have cy1 : wr.cell? ⟨by', k, none⟩ = some (.int .i64 ((bt Y k : Nat) : Int)) := ((HOy.out.later hL4.out).2 k hlt).1
      have hx := bt_le X k
      have hy := bt_le Y k
      have hF := Lib.hid (HF.out k)
      generalize bt X k = x at *
      generalize bt Y k = y at *
      go_upto_region 18 with fail
      go_still_tail 14, (by kernel_rfl)
      change wpList _ _ _ _ _ wr.drew
      · go_wp2_with fail
        go_roundw
        case rel => exact ⟨k + 1, _, by omega, by go_num, Lib.hid (step_row (F := fun c => ((bt Z c : Nat) : Int)) (x := ((x : Int) + y + 1) / 2) hP.out (by show ((x : Int) + y + 1) / 2 = ((bt Z k : Nat) : Int); rw [hF.out]; omega)), Lib.hid ((hO.out.set hlt _).later ((Later.refl _).drew)), Lib.hid ((hL.out.setCell (by simp; omega) _).drew), Lib.hid ((hL4.out.setCell hge5 _).drew)⟩
        case measure => simp [intOf]; omega
    · obtain rfl : N = k := by omega
      have HR := Lib.hid (IOwn.row (hO.out.congr (h := fun c => ((bt Z c : Nat) : Int)) fun c hc => by rw [hP.out c hc, if_pos hc]))
      go_wp2_with (first
        | (go_at_call 31; refine (rnumber_is n2 HZ.out _ HR.out).mono ?_; rintro e w6 ⟨rfl, hL6⟩))
      go_ret2
      exact Ret.mk ((((Later.refl w).alloc _).trans hL.out).trans hL6)

set_option maxRecDepth 100000 in
set_option maxHeartbeats 4000000 in
theorem rtwo_2f {s : Bool} {N X Y : Nat} (hx : Wd.isw false s N X = true) (hy : Wd.isw false s N Y = true) (w : World) :
    Calls Try.prog 34 #[.int .i64 2, .agg #[.bool false, .bool s, .int .i64 N], .int .u64 X, .int .u64 Y] w (Ret w (.tuple #[.int .u64 (X ||| Y : Nat), .int .i64 0])) := by
  obtain ⟨xN, x64, n1, n2⟩ := isw_nat hx
  obtain ⟨yN, y64, _, _⟩ := isw_nat hy
  obtain ⟨i0, hi, hz0, hz1, hz2⟩ := info_parts (P := Try.prog) (e := 3) (z := .int .i64 0) (size := 1) (bytes := 8) info3
  have HF := Lib.hid (bt_or X Y)
  have hz : (X ||| Y) % 2 ^ N = (X ||| Y) := Nat.mod_eq_of_lt (Nat.or_lt_two_pow xN yN)
  obtain ⟨Z, hZ⟩ : ∃ Z, (X ||| Y) = Z := ⟨_, rfl⟩
  rw [hZ] at hz HF
  rw [hZ]
  have HZ := Lib.hid hz
  clear hz hZ xN yN
  have HX := Lib.hid (fun w => ris_is (v := true) hx x64 w)
  have HY := Lib.hid (fun w => ris_is (v := true) hy y64 w)
  have HBX := Lib.hid (fun w => rbits_any X N n1 n2 x64 w)
  have HBY := Lib.hid (fun w => rbits_any Y N n1 n2 y64 w)
  have tok1 : True := trivial
  have tok2 : True := trivial
  clear hx hy
  go_enter Try.func34, Try.ntmps34
  go_wp2_with (first
    | (go_at_call 35; have _t := tok1; refine (HX.out _).mono ?_; rintro e w1 ⟨rfl, hL1⟩; clear _t tok1; have q0 := cell_later hL1 0 _ rfl; have q1 := cell_later hL1 1 _ rfl; have q2 := cell_later hL1 2 _ rfl)
    | (go_at_call 35; refine (HY.out _).mono ?_; rintro e w2 ⟨rfl, hL2⟩; have hL12 := hL1.trans hL2; clear q0 q1 q2; have q0 := cell_later hL12 0 _ rfl; have q1 := cell_later hL12 1 _ rfl; have q2 := cell_later hL12 2 _ rfl)
    | (go_at_call 32; have _t := tok2; refine (HBX.out _).mono ?_; rintro e w3 ⟨bx, cx, rfl, hL3, hgx, hOx⟩; clear _t tok2; have hL13 := hL12.trans hL3; clear q0 q1 q2; have q0 := cell_later hL13 0 _ rfl; have q1 := cell_later hL13 1 _ rfl; have q2 := cell_later hL13 2 _ rfl)
    | (go_at_call 32; refine (HBY.out _).mono ?_; rintro e w4 ⟨by', cy', rfl, hL4, hgy, hOy⟩; have hL14 := hL13.trans hL4; clear q0 q1 q2; have q0 := cell_later hL14 0 _ rfl; have q1 := cell_later hL14 1 _ rfl; have q2 := cell_later hL14 2 _ rfl)
    | (at_make; refine wpList_make_full _ rfl _ _ 57 rfl 0 3 i0 (.int .i64 0) 1 Try.underlying57 hi hz0 hz1 .i64 .i64 _ _ N rfl rfl rfl rfl (by rw [hz2]; omega) (by unfold maxLen; omega) (Nat.zero_le _) ?_; intro w5 hown hgrow; have hL15 := hL14.trans (Later.of_grown hgrow); clear q0 q1 q2; have q0 := cell_later hL15 0 _ rfl; have q1 := cell_later hL15 1 _ rfl; have q2 := cell_later hL15 2 _ rfl))
  obtain ⟨b5, c5, hbc, _, hO⟩ := IOwn.of_row (f := fun _ => 0) hown (made_at N) (by simp)
  have hb : w4.heap.size = b5 := by injection hbc with hb; injection hb with hb; injection hb
  clear hbc
  subst hb
  have hge0 : w.heap.size + 1 ≤ w4.heap.size := by have := hL14.below.size; simpa using this
  have HL := Lib.hid hL15
  have HL4 := Lib.hid (Later.of_grown hgrow)
  have HOx := Lib.hid (hOx.later hL4)
  have HOy := Lib.hid hOy
  have hge4 : w4.heap.size ≤ w4.heap.size := Nat.le_refl _
  obtain ⟨b5, hb⟩ : ∃ b, w4.heap.size = b := ⟨_, rfl⟩
  have hge5 : w4.heap.size ≤ b5 := by omega
  rw [hb] at hO hge0 ⊢
  have HO := Lib.hid hO
  clear hO hz0 hz1 hz2 hi hown hgrow hL1 hL2 hL3 hL4 hL12 hL13 hL14 hL15 hOx hOy q0 q1 q2 hb hge4 hgx hgy
  go_loopw [13] (fun i wr => ∃ (k : Nat) (h : Nat → Int), k ≤ N ∧ i = .int .i64 k ∧ Hid (∀ c, c < N → h c = if c < k then ((bt Z c : Nat) : Int) else 0) ∧ Hid (IOwn wr b5 N h) ∧ Hid (Later (w.alloc (.cells #[.bool false, .bool s, .int .i64 N] 23)) wr) ∧ Hid (Later w4 wr)) (fun i _ => N - (intOf i).toNat)
  case atStart => exact ⟨0, _, Nat.zero_le _, rfl, Lib.hid (fun c hc => by simp), HO, HL, HL4⟩
  case round =>
    obtain ⟨k, h, hk, rfl, hP, hO, hL, hL4⟩ := hrel
    have q2 := cell_later hL.out 2 _ rfl
    have q0 := cell_later hL.out 0 _ rfl
    have q1 := cell_later hL.out 1 _ rfl
    by_cases hlt : k < N
    · have x5 := (hO.out.2 k hlt).1
      have f5 := (hO.out.2 k hlt).2
      have l5 := hO.out.1
      have cx1 : wr.cell? ⟨bx, k, none⟩ = some (.int .i64 ((bt X k : Nat) : Int)) := ((HOx.out.later hL4.out).2 k hlt).1
      have cy1 : wr.cell? ⟨by', k, none⟩ = some (.int .i64 ((bt Y k : Nat) : Int)) := ((HOy.out.later hL4.out).2 k hlt).1
      have hx := bt_le X k
      have hy := bt_le Y k
      have hF := Lib.hid (HF.out k)
      generalize bt X k = x at *
      generalize bt Y k = y at *
      go_upto_region 18 with fail
      go_still_tail 14, (by kernel_rfl)
      change wpList _ _ _ _ _ wr.drew
      · go_wp2_with fail
        go_roundw
        case rel => exact ⟨k + 1, _, by omega, by go_num, Lib.hid (step_row (F := fun c => ((bt Z c : Nat) : Int)) (x := ((x : Int) + y + 1) / 2) hP.out (by show ((x : Int) + y + 1) / 2 = ((bt Z k : Nat) : Int); rw [hF.out]; omega)), Lib.hid ((hO.out.set hlt _).later ((Later.refl _).drew)), Lib.hid ((hL.out.setCell (by simp; omega) _).drew), Lib.hid ((hL4.out.setCell hge5 _).drew)⟩
        case measure => simp [intOf]; omega
    · obtain rfl : N = k := by omega
      have HR := Lib.hid (IOwn.row (hO.out.congr (h := fun c => ((bt Z c : Nat) : Int)) fun c hc => by rw [hP.out c hc, if_pos hc]))
      go_wp2_with (first
        | (go_at_call 31; refine (rnumber_is n2 HZ.out _ HR.out).mono ?_; rintro e w6 ⟨rfl, hL6⟩))
      go_ret2
      exact Ret.mk ((((Later.refl w).alloc _).trans hL.out).trans hL6)

set_option maxRecDepth 100000 in
set_option maxHeartbeats 4000000 in
theorem rtwo_3t {s : Bool} {N X Y : Nat} (hx : Wd.isw true s N X = true) (hy : Wd.isw true s N Y = true) (w : World) :
    Calls Try.prog 34 #[.int .i64 3, .agg #[.bool true, .bool s, .int .i64 N], .int .u64 X, .int .u64 Y] w (Ret w (.tuple #[.int .u64 (X ^^^ Y : Nat), .int .i64 0])) := by
  obtain ⟨xN, x64, n1, n2⟩ := isw_nat hx
  obtain ⟨yN, y64, _, _⟩ := isw_nat hy
  obtain ⟨i0, hi, hz0, hz1, hz2⟩ := info_parts (P := Try.prog) (e := 3) (z := .int .i64 0) (size := 1) (bytes := 8) info3
  have HF := Lib.hid (bt_xor X Y)
  have hz : (X ^^^ Y) % 2 ^ N = (X ^^^ Y) := Nat.mod_eq_of_lt (Nat.xor_lt_two_pow xN yN)
  obtain ⟨Z, hZ⟩ : ∃ Z, (X ^^^ Y) = Z := ⟨_, rfl⟩
  rw [hZ] at hz HF
  rw [hZ]
  have HZ := Lib.hid hz
  clear hz hZ xN yN
  have HX := Lib.hid (fun w => ris_is (v := true) hx x64 w)
  have HY := Lib.hid (fun w => ris_is (v := true) hy y64 w)
  have HBX := Lib.hid (fun w => rbits_any X N n1 n2 x64 w)
  have HBY := Lib.hid (fun w => rbits_any Y N n1 n2 y64 w)
  have tok1 : True := trivial
  have tok2 : True := trivial
  clear hx hy
  go_enter Try.func34, Try.ntmps34
  go_wp2_with (first
    | (go_at_call 35; have _t := tok1; refine (HX.out _).mono ?_; rintro e w1 ⟨rfl, hL1⟩; clear _t tok1; have q0 := cell_later hL1 0 _ rfl; have q1 := cell_later hL1 1 _ rfl; have q2 := cell_later hL1 2 _ rfl)
    | (go_at_call 35; refine (HY.out _).mono ?_; rintro e w2 ⟨rfl, hL2⟩; have hL12 := hL1.trans hL2; clear q0 q1 q2; have q0 := cell_later hL12 0 _ rfl; have q1 := cell_later hL12 1 _ rfl; have q2 := cell_later hL12 2 _ rfl)
    | (go_at_call 32; have _t := tok2; refine (HBX.out _).mono ?_; rintro e w3 ⟨bx, cx, rfl, hL3, hgx, hOx⟩; clear _t tok2; have hL13 := hL12.trans hL3; clear q0 q1 q2; have q0 := cell_later hL13 0 _ rfl; have q1 := cell_later hL13 1 _ rfl; have q2 := cell_later hL13 2 _ rfl)
    | (go_at_call 32; refine (HBY.out _).mono ?_; rintro e w4 ⟨by', cy', rfl, hL4, hgy, hOy⟩; have hL14 := hL13.trans hL4; clear q0 q1 q2; have q0 := cell_later hL14 0 _ rfl; have q1 := cell_later hL14 1 _ rfl; have q2 := cell_later hL14 2 _ rfl)
    | (at_make; refine wpList_make_full _ rfl _ _ 57 rfl 0 3 i0 (.int .i64 0) 1 Try.underlying57 hi hz0 hz1 .i64 .i64 _ _ N rfl rfl rfl rfl (by rw [hz2]; omega) (by unfold maxLen; omega) (Nat.zero_le _) ?_; intro w5 hown hgrow; have hL15 := hL14.trans (Later.of_grown hgrow); clear q0 q1 q2; have q0 := cell_later hL15 0 _ rfl; have q1 := cell_later hL15 1 _ rfl; have q2 := cell_later hL15 2 _ rfl))
  obtain ⟨b5, c5, hbc, _, hO⟩ := IOwn.of_row (f := fun _ => 0) hown (made_at N) (by simp)
  have hb : w4.heap.size = b5 := by injection hbc with hb; injection hb with hb; injection hb
  clear hbc
  subst hb
  have hge0 : w.heap.size + 1 ≤ w4.heap.size := by have := hL14.below.size; simpa using this
  have HL := Lib.hid hL15
  have HL4 := Lib.hid (Later.of_grown hgrow)
  have HOx := Lib.hid (hOx.later hL4)
  have HOy := Lib.hid hOy
  have hge4 : w4.heap.size ≤ w4.heap.size := Nat.le_refl _
  obtain ⟨b5, hb⟩ : ∃ b, w4.heap.size = b := ⟨_, rfl⟩
  have hge5 : w4.heap.size ≤ b5 := by omega
  rw [hb] at hO hge0 ⊢
  have HO := Lib.hid hO
  clear hO hz0 hz1 hz2 hi hown hgrow hL1 hL2 hL3 hL4 hL12 hL13 hL14 hL15 hOx hOy q0 q1 q2 hb hge4 hgx hgy
  go_loopw [13] (fun i wr => ∃ (k : Nat) (h : Nat → Int), k ≤ N ∧ i = .int .i64 k ∧ Hid (∀ c, c < N → h c = if c < k then ((bt Z c : Nat) : Int) else 0) ∧ Hid (IOwn wr b5 N h) ∧ Hid (Later (w.alloc (.cells #[.bool true, .bool s, .int .i64 N] 23)) wr) ∧ Hid (Later w4 wr)) (fun i _ => N - (intOf i).toNat)
  case atStart => exact ⟨0, _, Nat.zero_le _, rfl, Lib.hid (fun c hc => by simp), HO, HL, HL4⟩
  case round =>
    obtain ⟨k, h, hk, rfl, hP, hO, hL, hL4⟩ := hrel
    have q2 := cell_later hL.out 2 _ rfl
    have q0 := cell_later hL.out 0 _ rfl
    have q1 := cell_later hL.out 1 _ rfl
    by_cases hlt : k < N
    · have x5 := (hO.out.2 k hlt).1
      have f5 := (hO.out.2 k hlt).2
      have l5 := hO.out.1
      have cx1 : wr.cell? ⟨bx, k, none⟩ = some (.int .i64 ((bt X k : Nat) : Int)) := ((HOx.out.later hL4.out).2 k hlt).1
      have cy1 : wr.cell? ⟨by', k, none⟩ = some (.int .i64 ((bt Y k : Nat) : Int)) := ((HOy.out.later hL4.out).2 k hlt).1
      have hx := bt_le X k
      have hy := bt_le Y k
      have hF := Lib.hid (HF.out k)
      generalize bt X k = x at *
      generalize bt Y k = y at *
      go_upto_region 19 with fail
      go_still_tail 13, (by kernel_rfl)
      change wpList _ _ _ _ _ wr.drew
      · go_wp2_with fail
        go_roundw
        case rel => exact ⟨k + 1, _, by omega, by go_num, Lib.hid (step_row (F := fun c => ((bt Z c : Nat) : Int)) (x := ((x : Int) + y) % 2) hP.out (by show ((x : Int) + y) % 2 = ((bt Z k : Nat) : Int); rw [hF.out]; omega)), Lib.hid ((hO.out.set hlt _).later ((Later.refl _).drew)), Lib.hid ((hL.out.setCell (by simp; omega) _).drew), Lib.hid ((hL4.out.setCell hge5 _).drew)⟩
        case measure => simp [intOf]; omega
    · obtain rfl : N = k := by omega
      have HR := Lib.hid (IOwn.row (hO.out.congr (h := fun c => ((bt Z c : Nat) : Int)) fun c hc => by rw [hP.out c hc, if_pos hc]))
      go_wp2_with (first
        | (go_at_call 31; refine (rnumber_is n2 HZ.out _ HR.out).mono ?_; rintro e w6 ⟨rfl, hL6⟩))
      go_ret2
      exact Ret.mk ((((Later.refl w).alloc _).trans hL.out).trans hL6)

set_option maxRecDepth 100000 in
set_option maxHeartbeats 4000000 in
theorem rtwo_3f {s : Bool} {N X Y : Nat} (hx : Wd.isw false s N X = true) (hy : Wd.isw false s N Y = true) (w : World) :
    Calls Try.prog 34 #[.int .i64 3, .agg #[.bool false, .bool s, .int .i64 N], .int .u64 X, .int .u64 Y] w (Ret w (.tuple #[.int .u64 (X ^^^ Y : Nat), .int .i64 0])) := by
  obtain ⟨xN, x64, n1, n2⟩ := isw_nat hx
  obtain ⟨yN, y64, _, _⟩ := isw_nat hy
  obtain ⟨i0, hi, hz0, hz1, hz2⟩ := info_parts (P := Try.prog) (e := 3) (z := .int .i64 0) (size := 1) (bytes := 8) info3
  have HF := Lib.hid (bt_xor X Y)
  have hz : (X ^^^ Y) % 2 ^ N = (X ^^^ Y) := Nat.mod_eq_of_lt (Nat.xor_lt_two_pow xN yN)
  obtain ⟨Z, hZ⟩ : ∃ Z, (X ^^^ Y) = Z := ⟨_, rfl⟩
  rw [hZ] at hz HF
  rw [hZ]
  have HZ := Lib.hid hz
  clear hz hZ xN yN
  have HX := Lib.hid (fun w => ris_is (v := true) hx x64 w)
  have HY := Lib.hid (fun w => ris_is (v := true) hy y64 w)
  have HBX := Lib.hid (fun w => rbits_any X N n1 n2 x64 w)
  have HBY := Lib.hid (fun w => rbits_any Y N n1 n2 y64 w)
  have tok1 : True := trivial
  have tok2 : True := trivial
  clear hx hy
  go_enter Try.func34, Try.ntmps34
  go_wp2_with (first
    | (go_at_call 35; have _t := tok1; refine (HX.out _).mono ?_; rintro e w1 ⟨rfl, hL1⟩; clear _t tok1; have q0 := cell_later hL1 0 _ rfl; have q1 := cell_later hL1 1 _ rfl; have q2 := cell_later hL1 2 _ rfl)
    | (go_at_call 35; refine (HY.out _).mono ?_; rintro e w2 ⟨rfl, hL2⟩; have hL12 := hL1.trans hL2; clear q0 q1 q2; have q0 := cell_later hL12 0 _ rfl; have q1 := cell_later hL12 1 _ rfl; have q2 := cell_later hL12 2 _ rfl)
    | (go_at_call 32; have _t := tok2; refine (HBX.out _).mono ?_; rintro e w3 ⟨bx, cx, rfl, hL3, hgx, hOx⟩; clear _t tok2; have hL13 := hL12.trans hL3; clear q0 q1 q2; have q0 := cell_later hL13 0 _ rfl; have q1 := cell_later hL13 1 _ rfl; have q2 := cell_later hL13 2 _ rfl)
    | (go_at_call 32; refine (HBY.out _).mono ?_; rintro e w4 ⟨by', cy', rfl, hL4, hgy, hOy⟩; have hL14 := hL13.trans hL4; clear q0 q1 q2; have q0 := cell_later hL14 0 _ rfl; have q1 := cell_later hL14 1 _ rfl; have q2 := cell_later hL14 2 _ rfl)
    | (at_make; refine wpList_make_full _ rfl _ _ 57 rfl 0 3 i0 (.int .i64 0) 1 Try.underlying57 hi hz0 hz1 .i64 .i64 _ _ N rfl rfl rfl rfl (by rw [hz2]; omega) (by unfold maxLen; omega) (Nat.zero_le _) ?_; intro w5 hown hgrow; have hL15 := hL14.trans (Later.of_grown hgrow); clear q0 q1 q2; have q0 := cell_later hL15 0 _ rfl; have q1 := cell_later hL15 1 _ rfl; have q2 := cell_later hL15 2 _ rfl))
  obtain ⟨b5, c5, hbc, _, hO⟩ := IOwn.of_row (f := fun _ => 0) hown (made_at N) (by simp)
  have hb : w4.heap.size = b5 := by injection hbc with hb; injection hb with hb; injection hb
  clear hbc
  subst hb
  have hge0 : w.heap.size + 1 ≤ w4.heap.size := by have := hL14.below.size; simpa using this
  have HL := Lib.hid hL15
  have HL4 := Lib.hid (Later.of_grown hgrow)
  have HOx := Lib.hid (hOx.later hL4)
  have HOy := Lib.hid hOy
  have hge4 : w4.heap.size ≤ w4.heap.size := Nat.le_refl _
  obtain ⟨b5, hb⟩ : ∃ b, w4.heap.size = b := ⟨_, rfl⟩
  have hge5 : w4.heap.size ≤ b5 := by omega
  rw [hb] at hO hge0 ⊢
  have HO := Lib.hid hO
  clear hO hz0 hz1 hz2 hi hown hgrow hL1 hL2 hL3 hL4 hL12 hL13 hL14 hL15 hOx hOy q0 q1 q2 hb hge4 hgx hgy
  go_loopw [13] (fun i wr => ∃ (k : Nat) (h : Nat → Int), k ≤ N ∧ i = .int .i64 k ∧ Hid (∀ c, c < N → h c = if c < k then ((bt Z c : Nat) : Int) else 0) ∧ Hid (IOwn wr b5 N h) ∧ Hid (Later (w.alloc (.cells #[.bool false, .bool s, .int .i64 N] 23)) wr) ∧ Hid (Later w4 wr)) (fun i _ => N - (intOf i).toNat)
  case atStart => exact ⟨0, _, Nat.zero_le _, rfl, Lib.hid (fun c hc => by simp), HO, HL, HL4⟩
  case round =>
    obtain ⟨k, h, hk, rfl, hP, hO, hL, hL4⟩ := hrel
    have q2 := cell_later hL.out 2 _ rfl
    have q0 := cell_later hL.out 0 _ rfl
    have q1 := cell_later hL.out 1 _ rfl
    by_cases hlt : k < N
    · have x5 := (hO.out.2 k hlt).1
      have f5 := (hO.out.2 k hlt).2
      have l5 := hO.out.1
      have cx1 : wr.cell? ⟨bx, k, none⟩ = some (.int .i64 ((bt X k : Nat) : Int)) := ((HOx.out.later hL4.out).2 k hlt).1
      have cy1 : wr.cell? ⟨by', k, none⟩ = some (.int .i64 ((bt Y k : Nat) : Int)) := ((HOy.out.later hL4.out).2 k hlt).1
      have hx := bt_le X k
      have hy := bt_le Y k
      have hF := Lib.hid (HF.out k)
      generalize bt X k = x at *
      generalize bt Y k = y at *
      go_upto_region 19 with fail
      go_still_tail 13, (by kernel_rfl)
      change wpList _ _ _ _ _ wr.drew
      · go_wp2_with fail
        go_roundw
        case rel => exact ⟨k + 1, _, by omega, by go_num, Lib.hid (step_row (F := fun c => ((bt Z c : Nat) : Int)) (x := ((x : Int) + y) % 2) hP.out (by show ((x : Int) + y) % 2 = ((bt Z k : Nat) : Int); rw [hF.out]; omega)), Lib.hid ((hO.out.set hlt _).later ((Later.refl _).drew)), Lib.hid ((hL.out.setCell (by simp; omega) _).drew), Lib.hid ((hL4.out.setCell hge5 _).drew)⟩
        case measure => simp [intOf]; omega
    · obtain rfl : N = k := by omega
      have HR := Lib.hid (IOwn.row (hO.out.congr (h := fun c => ((bt Z c : Nat) : Int)) fun c hc => by rw [hP.out c hc, if_pos hc]))
      go_wp2_with (first
        | (go_at_call 31; refine (rnumber_is n2 HZ.out _ HR.out).mono ?_; rintro e w6 ⟨rfl, hL6⟩))
      go_ret2
      exact Ret.mk ((((Later.refl w).alloc _).trans hL.out).trans hL6)

set_option maxRecDepth 100000 in
set_option maxHeartbeats 4000000 in
theorem rtwo_4 {s : Bool} {N X Y : Nat} (hx : Wd.isw false s N X = true) (hy : Wd.isw false s N Y = true) (w : World) :
    Calls Try.prog 34 #[.int .i64 4, .agg #[.bool false, .bool s, .int .i64 N], .int .u64 X, .int .u64 Y] w (Ret w (.tuple #[.int .u64 ((X + Y) % 2 ^ N : Nat), .int .i64 0])) := by
  obtain ⟨xN, x64, n1, n2⟩ := isw_nat hx
  obtain ⟨yN, y64, _, _⟩ := isw_nat hy
  obtain ⟨i0, hi, hz0, hz1, hz2⟩ := info_parts (P := Try.prog) (e := 3) (z := .int .i64 0) (size := 1) (bytes := 8) info3
  have HA := Lib.hid (fun A B c d w hR hS => add_any A B N c d X Y 0 n1 n2 (by omega) w hR hS)
  obtain ⟨Z, hZ⟩ : ∃ Z, (X + Y) % 2 ^ N = Z := ⟨_, rfl⟩
  have hz : Z % 2 ^ N = Z := by rw [← hZ]; exact Nat.mod_mod _ _
  rw [Nat.add_zero, hZ] at HA
  rw [hZ]
  have HZ := Lib.hid hz
  clear hz hZ xN yN
  have HX := Lib.hid (fun w => ris_is (v := true) hx x64 w)
  have HY := Lib.hid (fun w => ris_is (v := true) hy y64 w)
  have HBX := Lib.hid (fun w => rbits_any X N n1 n2 x64 w)
  have HBY := Lib.hid (fun w => rbits_any Y N n1 n2 y64 w)
  have tok1 : True := trivial
  have tok2 : True := trivial
  clear hx hy
  go_enter Try.func34, Try.ntmps34
  go_wp2_with (first
    | (go_at_call 35; have _t := tok1; refine (HX.out _).mono ?_; rintro e w1 ⟨rfl, hL1⟩; clear _t tok1; have q0 := cell_later hL1 0 _ rfl; have q1 := cell_later hL1 1 _ rfl; have q2 := cell_later hL1 2 _ rfl)
    | (go_at_call 35; refine (HY.out _).mono ?_; rintro e w2 ⟨rfl, hL2⟩; have hL12 := hL1.trans hL2; clear q0 q1 q2; have q0 := cell_later hL12 0 _ rfl; have q1 := cell_later hL12 1 _ rfl; have q2 := cell_later hL12 2 _ rfl)
    | (go_at_call 32; have _t := tok2; refine (HBX.out _).mono ?_; rintro e w3 ⟨bx, cx, rfl, hL3, hgx, hOx⟩; clear _t tok2; have hL13 := hL12.trans hL3; clear q0 q1 q2; have q0 := cell_later hL13 0 _ rfl; have q1 := cell_later hL13 1 _ rfl; have q2 := cell_later hL13 2 _ rfl)
    | (go_at_call 32; refine (HBY.out _).mono ?_; rintro e w4 ⟨by', cy', rfl, hL4, hgy, hOy⟩; have hL14 := hL13.trans hL4; clear q0 q1 q2; have q0 := cell_later hL14 0 _ rfl; have q1 := cell_later hL14 1 _ rfl; have q2 := cell_later hL14 2 _ rfl)
    | (at_make; refine wpList_make_full _ rfl _ _ 57 rfl 0 3 i0 (.int .i64 0) 1 Try.underlying57 hi hz0 hz1 .i64 .i64 _ _ N rfl rfl rfl rfl (by rw [hz2]; omega) (by unfold maxLen; omega) (Nat.zero_le _) ?_; intro w5 hown hgrow; have hL15 := hL14.trans (Later.of_grown hgrow); clear q0 q1 q2; have q0 := cell_later hL15 0 _ rfl; have q1 := cell_later hL15 1 _ rfl; have q2 := cell_later hL15 2 _ rfl)
    | (go_at_call 37; refine (HA.out _ _ _ _ _ ((hOx.later hL4).later (Later.of_grown hgrow)).row (hOy.later (Later.of_grown hgrow)).row).mono ?_; rintro e w6 ⟨b6, c6, rfl, hL6, hg6, hO6⟩)
    | (go_at_call 31; refine (rnumber_is n2 HZ.out _ hO6.row).mono ?_; rintro e w7 ⟨rfl, hL7⟩))
  go_ret2
  exact Ret.mk ((((Later.refl w).alloc _).trans hL15).trans (hL6.trans hL7))
end Go.Proofs.Ytihnemlnnjdagaa
