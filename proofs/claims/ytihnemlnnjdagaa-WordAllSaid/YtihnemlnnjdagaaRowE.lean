/-
  No statement of the seat is proved here. Contract of the document's own Two at mul, for every type and words.
-/
import Derived.Test.YtihnemlnnjdagaaRowD
namespace Go.Proofs.Ytihnemlnnjdagaa
open Go Go.RowKit Bt
set_option linter.unusedVariables false
theorem Row.congr {w : World} {A : Option Addr} {n X Y : Nat} (h : Row w A n X) (e : ∀ k, k < n → bt X k = bt Y k) : Row w A n Y := fun k hk => by rw [← e k hk]; exact h k hk
theorem bt_zero (k : Nat) : bt 0 k = 0 := by simp [bt]

set_option maxRecDepth 100000 in
set_option maxHeartbeats 4000000 in
theorem rtwo_6 {s : Bool} {N X Y : Nat} (hx : Wd.isw false s N X = true) (hy : Wd.isw false s N Y = true) (w : World) :
    Calls Try.prog 34 #[.int .i64 6, .agg #[.bool false, .bool s, .int .i64 N], .int .u64 X, .int .u64 Y] w (Ret w (.tuple #[.int .u64 (X * Y % 2 ^ N : Nat), .int .i64 0])) := by
  obtain ⟨xN, x64, n1, n2⟩ := isw_nat hx
  obtain ⟨yN, y64, _, _⟩ := isw_nat hy
  obtain ⟨i0, hi, hz0, hz1, hz2⟩ := info_parts (P := Try.prog) (e := 3) (z := .int .i64 0) (size := 1) (bytes := 8) info3
  have HA := Lib.hid (fun A B c d Z1 Z2 w hR hS => add_any A B N c d Z1 Z2 0 n1 n2 (by omega) w hR hS)
  obtain ⟨Z, hZ⟩ : ∃ Z, X * Y % 2 ^ N = Z := ⟨_, rfl⟩
  have hz : X * (Y % 2 ^ N) % 2 ^ N = Z := by rw [← hZ, Nat.mod_eq_of_lt yN]
  rw [hZ]
  have HZ := Lib.hid hz
  have Hxy := Lib.hid (fun k => mod_next Y k)
  clear hz hZ xN yN
  have HX := Lib.hid (fun w => ris_is (v := true) hx x64 w)
  have HY := Lib.hid (fun w => ris_is (v := true) hy y64 w)
  have HBX := Lib.hid (fun w => rbits_any X N n1 n2 x64 w)
  have HBY := Lib.hid (fun w => rbits_any Y N n1 n2 y64 w)
  have tok1 : True := trivial
  have tok2 : True := trivial
  clear hx hy
  go_enter Try.func34, Try.ntmps34
  go_wp2_with (first
    | (go_at_call 35; have _t := tok1; refine (HX.out _).mono ?_; rintro e w1 ⟨rfl, hL1⟩; clear _t tok1; have q0 := cell_later hL1 0 _ rfl; have q1 := cell_later hL1 1 _ rfl; have q2 := cell_later hL1 2 _ rfl)
    | (go_at_call 35; refine (HY.out _).mono ?_; rintro e w2 ⟨rfl, hL2⟩; have hL12 := hL1.trans hL2; clear q0 q1 q2; have q0 := cell_later hL12 0 _ rfl; have q1 := cell_later hL12 1 _ rfl; have q2 := cell_later hL12 2 _ rfl)
    | (go_at_call 32; have _t := tok2; refine (HBX.out _).mono ?_; rintro e w3 ⟨bx, cx, rfl, hL3, hgx, hOx⟩; clear _t tok2; have hL13 := hL12.trans hL3; clear q0 q1 q2; have q0 := cell_later hL13 0 _ rfl; have q1 := cell_later hL13 1 _ rfl; have q2 := cell_later hL13 2 _ rfl)
    | (go_at_call 32; refine (HBY.out _).mono ?_; rintro e w4 ⟨by', cy', rfl, hL4, hgy, hOy⟩; have hL14 := hL13.trans hL4; clear q0 q1 q2; have q0 := cell_later hL14 0 _ rfl; have q1 := cell_later hL14 1 _ rfl; have q2 := cell_later hL14 2 _ rfl)
    | (at_make; refine wpList_make_full _ rfl _ _ 57 rfl 0 3 i0 (.int .i64 0) 1 Try.underlying57 hi hz0 hz1 .i64 .i64 _ _ N rfl rfl rfl rfl (by rw [hz2]; omega) (by unfold maxLen; omega) (Nat.zero_le _) ?_; intro w5 hown hgrow; have hL15 := hL14.trans (Later.of_grown hgrow); clear q0 q1 q2; have q0 := cell_later hL15 0 _ rfl; have q1 := cell_later hL15 1 _ rfl; have q2 := cell_later hL15 2 _ rfl))
  obtain ⟨b5, c5, hbc, _, hO⟩ := IOwn.of_row (f := fun _ => 0) hown (made_at N) (by simp)
  have hb : w4.heap.size = b5 := by injection hbc with hb; injection hb with hb; injection hb
  clear hbc
  subst hb
  have hsz5 : w.heap.size + 1 ≤ w5.heap.size := by have := hL15.below.size; simpa using this
  have HL := Lib.hid hL15
  have HL4 := Later.of_grown hgrow
  have HOx := Lib.hid ((hOx.later hL4).later HL4)
  have HOy := Lib.hid (hOy.later HL4)
  have HR0 : Hid (Row w5 (some ⟨w4.heap.size, 0, none⟩) N (X * (Y % 2 ^ 0))) := Lib.hid (IOwn.row (hO.congr fun c hc => by rw [Nat.pow_zero, Nat.mod_one, Nat.mul_zero, bt_zero]; rfl))
  generalize w4.heap.size = b5 at *
  clear hown hgrow hL1 hL2 hL3 hL4 hL12 hL13 hL14 hL15 hOx hOy q0 q1 q2 HL4 hgx hgy hO
  go_loopw [12, 14, 15, 16] (fun o i _ _ wr => ∃ (k : Nat) (A : Option Addr) (c : Nat), k ≤ N ∧ i = .int .i64 k ∧ o = .slice A N c ∧ Hid (Row wr A N (X * (Y % 2 ^ k))) ∧ Hid (Later (w.alloc (.cells #[.bool false, .bool s, .int .i64 N] 23)) wr) ∧ Hid (Later w5 wr)) (fun _ i _ _ _ => N - (intOf i).toNat)
  case atStart => exact ⟨0, _, _, Nat.zero_le _, rfl, rfl, HR0, HL, Lib.hid (Later.refl _)⟩
  case round =>
    obtain ⟨k, A, c, hk, rfl, rfl, hR, hL, hL5⟩ := hrel
    have q2 := cell_later hL.out 2 _ rfl
    by_cases hlt : k < N
    · have ly := (HOy.out.later hL5.out).1
      have cy1 : wr.cell? ⟨by', k, none⟩ = some (.int .i64 ((bt Y k : Nat) : Int)) := ((HOy.out.later hL5.out).2 k hlt).1
      have hy := bt_le Y k
      have hxy := Hxy.out k
      generalize bt Y k = y at *
      have hyc : y = 0 ∨ y = 1 := by omega
      rcases hyc with rfl | rfl
      · have HR2 : Hid (Row wr A N (X * (Y % 2 ^ (k + 1)))) := Lib.hid (by rw [hxy, Nat.zero_mul, Nat.add_zero]; exact hR.out)
        clear hxy
        go_wp2_with fail
        go_roundw
        case rel => exact ⟨k + 1, A, c, by omega, by go_num, rfl, HR2, hL, hL5⟩
        case measure => simp [intOf]; omega
      · have Hxk := Lib.hid hxy
        obtain ⟨wo, rfl⟩ : ∃ wo : World, wo = wr := ⟨_, rfl⟩
        clear hxy
        go_wp2_with (first
          | (at_make; refine wpList_make_full _ rfl _ _ 57 rfl 0 3 i0 (.int .i64 0) 1 Try.underlying57 hi hz0 hz1 .i64 .i64 _ _ N rfl rfl rfl rfl (by rw [hz2]; omega) (by unfold maxLen; omega) (Nat.zero_le _) ?_; intro w6 hown hgrow))
        obtain ⟨b6, c6, hbc, _, hO⟩ := IOwn.of_row (f := fun _ => 0) hown (made_at N) (by simp)
        have hb : wo.heap.size = b6 := by injection hbc with hb; injection hb with hb; injection hb
        clear hbc
        subst hb
        have hsw : w.heap.size + 1 ≤ wo.heap.size := by have := hL.out.below.size; simpa using this
        have hs5 : w5.heap.size ≤ wo.heap.size := hL5.out.below.size
        have HL6 := Lib.hid (hL.out.trans (Later.of_grown hgrow))
        have HLr := Lib.hid (Later.of_grown hgrow)
        have HR6 := Lib.hid (hR.out)
        have HO6 := Lib.hid hO
        have hsr : wo.heap.size ≤ wo.heap.size := Nat.le_refl _
        obtain ⟨b6, hb⟩ : ∃ b, wo.heap.size = b := ⟨_, rfl⟩
        have hge6 : wo.heap.size ≤ b6 := by omega
        rw [hb] at HO6 ⊢
        clear hown hgrow hO q2 cy1 ly hR hb hsr
        go_loopw [16] (fun i wq => ∃ (kk : Nat) (h : Nat → Int), k ≤ kk ∧ kk ≤ N ∧ i = .int .i64 kk ∧ Hid (∀ c, c < N → h c = if c < kk then ((bt (X * 2 ^ k) c : Nat) : Int) else 0) ∧ Hid (IOwn wq b6 N h) ∧ Hid (Later (w.alloc (.cells #[.bool false, .bool s, .int .i64 N] 23)) wq) ∧ Hid (Later wo wq)) (fun i _ => N - (intOf i).toNat)
        case atStart => exact ⟨k, _, Nat.le_refl _, hk, rfl, Lib.hid (fun c hc => by
              by_cases e : c < k
              · rw [if_pos e, bt_shl, if_neg (by omega)]; rfl
              · rw [if_neg e]), HO6, HL6, HLr⟩
        case round =>
          obtain ⟨kk, h, hk1, hk2, rfl, hP, hO, hL6, hLr⟩ := hrel
          have q2 := cell_later hL6.out 2 _ rfl
          by_cases hlt2 : kk < N
          · have lx := (HOx.out.later (hL5.out.trans hLr.out)).1
            have cx1 : wr.cell? ⟨bx, kk - k, none⟩ = some (.int .i64 ((bt X (kk - k) : Nat) : Int)) := ((HOx.out.later (hL5.out.trans hLr.out)).2 (kk - k) (by omega)).1
            have x5 := (hO.out.2 kk hlt2).1
            have f5 := (hO.out.2 kk hlt2).2
            have l5 := hO.out.1
            have hF := Lib.hid (bt_shl X k kk)
            have hx := bt_le X (kk - k)
            generalize bt X (kk - k) = x at *
            have HF2 : Hid (((x : Nat) : Int) = ((bt (X * 2 ^ k) kk : Nat) : Int)) := Lib.hid (by rw [hF.out, if_pos hk1])
            go_wp2_with fail
            go_roundw
            case rel => exact ⟨kk + 1, _, by omega, by omega, by go_num, Lib.hid (step_row (F := fun c => ((bt (X * 2 ^ k) c : Nat) : Int)) (x := (x : Int)) hP.out HF2.out), Lib.hid (hO.out.set hlt2 _), Lib.hid (hL6.out.setCell (by simp; omega) _), Lib.hid (hLr.out.setCell hge6 _)⟩
            case measure => simp [intOf]; omega
          · obtain rfl : N = kk := by omega
            have HRr : Hid (Row wr (some ⟨b6, 0, none⟩) N (X * 2 ^ k)) := Lib.hid (IOwn.row (hO.out.congr fun c hc => by rw [hP.out c hc, if_pos hc]))
            have HC := Lib.hid (fun c d => HA.out A (some ⟨b6, 0, none⟩) c d _ _ wr (HR6.out.later hLr.out) HRr.out)
            go_wp2_with (first
              | (go_at_call 37; refine (HC.out _ _).mono ?_; rintro e w7 ⟨b7, c7, rfl, hL7, hg7, hO7⟩))
            have HR7 : Hid (Row w7 (some ⟨b7, 0, none⟩) N (X * (Y % 2 ^ (k + 1)))) := Lib.hid (by
              have := row_of_mod hO7.row
              rw [Nat.add_zero, ← Nat.mul_add] at this
              rw [Hxk.out, Nat.one_mul]
              exact this)
            have hLa := Lib.hid (hL6.out.trans hL7)
            have hLb := Lib.hid ((hL5.out.trans hLr.out).trans hL7)
            clear hO7 q2 hL7 hg7
            go_roundw
            case rel => exact ⟨k + 1, _, _, by omega, by go_num, rfl, HR7, hLa, hLb⟩
            case measure => simp [intOf]; omega
    · obtain rfl : N = k := by omega
      go_wp2_with (first
        | (go_at_call 31; refine (rnumber_is n2 HZ.out _ hR.out).mono ?_; rintro e w6 ⟨rfl, hL6⟩))
      go_ret2
      exact Ret.mk ((((Later.refl w).alloc _).trans hL.out).trans hL6)
end Go.Proofs.Ytihnemlnnjdagaa
