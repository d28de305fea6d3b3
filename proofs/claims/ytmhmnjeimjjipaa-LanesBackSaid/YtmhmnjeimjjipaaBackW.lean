/-
  No statement of the seat is proved here. The walk of the law LanesBack.
-/
import Derived.Test.YtmhmnjeimjjipaaSq
import Derived.Test.YtmhmnjeimjjipaaPlainB
import Derived.Laws.Cover1
import Derived.Deep.CutBlock
import Derived.Deep.RegionWith

namespace Go.Proofs.Ytmhmnjeimjjipaa
open Go Go.RowKit
set_option linter.unusedVariables false
/-- One number of a row cut. -/
theorem row_step {f F : Nat → Int} {M : Int} {i k : Nat} (h : ∀ c, c < k → F c = if c < i then bits BinOp.and IntKind.u64 (f c) M else f c) {x : Int} (hx : F i = x) (hi : i < k) (c : Nat) (hc : c < k) :
    (if c = i then bits BinOp.and IntKind.u64 x M else F c) = if c < i + 1 then bits BinOp.and IntKind.u64 (f c) M else f c := by
  by_cases e : c = i
  · subst e; rw [if_pos rfl, if_pos (by omega), ← hx, h c hi, if_neg (by omega)]
  · rw [if_neg e, h c hc]
    by_cases e2 : c < i
    · rw [if_pos e2, if_pos (by omega)]
    · rw [if_neg e2, if_neg (by omega)]
theorem run_min2 {k x y : Nat} (h : k = min x y) (ts : Array TypeId) (t : TypeId) (w : World) : (Builtin.min_ ts t #[.int .i64 x, .int .i64 y]).run Try.prog w = .ok (.int .i64 k) w := by
  rw [run_min_int2]
  congr 2
  subst h
  repeat' split
  all_goals omega
set_option maxRecDepth 100000 in
set_option maxHeartbeats 4000000 in
theorem back_walk (a b v : Int) (ha : -9223372036854775808 ≤ a ∧ a < 9223372036854775808) (hb : -9223372036854775808 ≤ b ∧ b < 9223372036854775808) (hv : 0 ≤ v ∧ v < 18446744073709551616) (A : Option Addr) (la ca : Nat) (f : Nat → Int) (w : World) (hA : Nums w A la f)
    (sA : ∀ a, A = some a → a.spot = none) (lA : la ≤ ca) (mA : ca ≤ 9223372036854775807)
    (hf : ∀ k, 0 ≤ f k ∧ f k < 18446744073709551616) :
    Calls Try.prog 7 #[.agg #[.int .i64 a, .int .i64 b, .int .u64 v], .slice A la ca] w (Ret w (.bool true)) := by
  obtain ⟨n, hn⟩ := Int.eq_ofNat_of_zero_le (show 0 ≤ 1 + a % 64 by omega)
  have n1 : 1 ≤ n := by omega
  have n2 : n ≤ 64 := by omega
  obtain ⟨m, hk⟩ : ∃ k, k = min la 64 := ⟨_, rfl⟩
  have hmin : min (la : Int) 64 = (m : Int) := by omega
  have k1 : m ≤ la := by omega
  have k3 : m ≤ 64 := by omega
  have k4 : m ≤ ca := by omega
  clear hk
  have HA := Lib.hid hA
  have HF := Lib.hid hf
  have SA := Lib.hid sA
  clear hA sA hf
  go_enter Try.func7, Try.ntmps7
  go_upto_region 1 with fail
  refine wp_region_later (by kernel_rfl) (by kernel_rfl) ?_
  repeat (go_big_quiet_step (fail))
  refine wpQuiet_nil ?_
  rintro _ ⟨g, rfl⟩
  rw [Wd.made_calc, hn]
  have hlb := Wd.wrap_bd b
  generalize IntKind.u64.wrap b = lb at *
  go_wp2_with (first
    | (go_at_call 12; refine (clone_any A m ca f _ (fun c hc => (HA.out.later (((Later.refl _).alloc _).more _)) c (by omega)) (by omega) SA.out).mono ?_; rintro e w1 ⟨A1, c1, rfl, hL1, hM1⟩))
  have HM1 := Lib.hid (hM1.base (show w.heap.size ≤ _ by simp; omega))
  have HL := Lib.hid ((((Later.refl w).alloc (.cells #[.int .i64 a, .int .i64 b, .int .u64 v] 38)).more g).trans hL1)
  have hmask := Ln.mask_is n1 n2
  generalize (18446744073709551615 : Int) / 2 ^ (64 - n) = M at *
  have Hmask := Lib.hid hmask
  clear hmask hmin hL1 hM1
  go_loopw [9, 47] (fun _ j wr => ∃ (i : Nat) (F : Nat → Int), i ≤ m ∧ j = .int .i64 i ∧ Hid (∀ c, c < m → F c = if c < i then bits BinOp.and IntKind.u64 (f c) M else f c) ∧ Hid (Mine w.heap.size wr A1 m F) ∧ Hid (Later w wr)) (fun _ j _ => m - (intOf j).toNat)
  case atStart => exact ⟨0, f, Nat.zero_le _, rfl, Lib.hid (fun c hc => by simp), HM1, HL⟩
  case round =>
    obtain ⟨i, F, hi, rfl, hF, hM1, hL⟩ := hrel
    by_cases hlt : i < m
    · obtain ⟨_, hz⟩ | ⟨b1, rfl, hb1, hO1⟩ := hM1.out
      · exact absurd hz (by omega)
      have x1 := (hO1.2 i hlt).1
      have f1 := (hO1.2 i hlt).2
      have l1 := hO1.1
      obtain ⟨x, hx⟩ : ∃ x, F i = x := ⟨_, rfl⟩
      rw [hx] at x1
      have Hx := Lib.hid hx
      have HO1 := Lib.hid hO1
      clear hx hO1
      go_wp2_with fail
      go_roundw
      case rel =>
        exact ⟨i + 1, _, by omega, by go_num, Lib.hid (fun c hc => row_step hF.out Hx.out hlt c hc), Lib.hid ((HO1.out.set hlt _).mine hb1), Lib.hid (hL.out.setCell hb1 _)⟩
      case measure => simp [intOf]; omega
    · obtain rfl : m = i := by omega
      obtain ⟨FF, hFF⟩ : ∃ FF : Nat → Int, ∀ c, FF c = bits BinOp.and IntKind.u64 (f c) M := ⟨_, fun _ => rfl⟩
      have HM1' := Lib.hid (hM1.out.congr (h := FF) fun c hc => by rw [hF.out c hc, if_pos hc, hFF])
      have bF := Lib.hid (fun c => (by rw [hFF c, Hmask.out]; exact Ln.mask_bd n1 n2 (HF.out c).1 (HF.out c).2 : 0 ≤ FF c ∧ FF c < Wd.pw n))
      have bF64 := Lib.hid (fun c => (⟨(bF.out c).1, Ln.lt_64 n2 (bF.out c).2⟩ : 0 ≤ FF c ∧ FF c < 18446744073709551616))
      have bv : 0 ≤ bits BinOp.and IntKind.u64 v M ∧ bits BinOp.and IntKind.u64 v M < Wd.pw n := by rw [Hmask.out]; exact Ln.mask_bd n1 n2 hv.1 hv.2
      have bv64 := Ln.lt_64 n2 bv.2
      obtain ⟨vv, hvv⟩ : ∃ vv, bits BinOp.and IntKind.u64 v M = vv := ⟨_, rfl⟩
      rw [hvv] at bv bv64
      have Bv := Lib.hid bv
      have bv0 := bv.1
      obtain ⟨kk, hkk⟩ := Int.eq_ofNat_of_zero_le (show 0 ≤ lb % 64 by omega)
      have lk : kk < 64 := by omega
      obtain ⟨P, hP⟩ : ∃ P, Ln.trn (over m FF fun _ => 0) = P := ⟨_, rfl⟩
      obtain ⟨ALL, hALL⟩ : ∃ P, over m FF (fun _ => 0) = P := ⟨_, rfl⟩
      have bP := Lib.hid (fun c => (by rw [← hP]; exact Ln.trn_bd _ c : 0 ≤ P c ∧ P c < 18446744073709551616))
      have bA := Lib.hid (fun c => (by rw [← hALL]; exact Ln.over_in bF.out c : 0 ≤ ALL c ∧ ALL c < Wd.pw n))
      have bA64 := Lib.hid (fun c => (⟨(bA.out c).1, Ln.lt_64 n2 (bA.out c).2⟩ : 0 ≤ ALL c ∧ ALL c < 18446744073709551616))
      have hback : ∀ x, x < 64 → Ln.trn (over n P fun _ => 0) x = ALL x := fun x hx => by rw [← hP, ← hALL]; exact Ln.back_law n2 bF.out x hx
      have hagain : ∀ c, Ln.trn (over 64 ALL fun _ => 0) c = P c := fun c => by rw [← hP]; exact Ln.again_law (fun x _ => by rw [hALL]) c
      have hset : ∀ x, x < 64 → Ln.trn (over n (fun i => Ln.setB (P i) (Ln.tb vv i) kk) fun _ => 0) x = if x = kk then vv else ALL x := fun x hx => by
        rw [← hALL]; exact Ln.set_law n2 bF.out Bv.out.1 Bv.out.2 lk (fun c _ => by rw [hP]) x hx
      have hall : ∀ x, x < 64 → ALL x = if x < m then FF x else 0 := fun x hx => by rw [← hALL]; rfl
      have HU1 : ∀ A c w, Nums w A n P → (∀ a, A = some a → a.spot = none) → Calls Try.prog 14 #[.slice A n c] w (Ret w (.tuple #[.agg (arr ALL), .int .i64 0])) := fun A c w hN hz => by
        rw [← arr_congr (fun i hi => hback i hi)]
        exact unpack_ok _ n c P w hN hz bP.out (Ln.may_of n1 n2)
      have HU2 : ∀ A c w, Nums w A n (fun i => Ln.setB (P i) (Ln.tb vv i) kk) → (∀ a, A = some a → a.spot = none) → Calls Try.prog 14 #[.slice A n c] w (Ret w (.tuple #[.agg (arr fun x => if x = kk then vv else ALL x), .int .i64 0])) := fun A c w hN hz => by
        rw [← arr_congr (fun i hi => hset i hi)]
        exact unpack_ok _ n c _ w hN hz (fun i => Ln.setB_bd _ _ _) (Ln.may_of n1 n2)
      have HLane : ∀ A c w x, x < 64 → Nums w A n P → Calls Try.prog 17 #[.slice A n c, .int .i64 (x : Nat)] w (Ret w (.tuple #[.int .u64 (ALL x), .int .i64 0])) := fun A c w x hx hN => by
        rw [← hback x hx]
        exact lane_ok A n c P x w hN bP.out (by simp only [Wd.okLane, Ln.may_of n1 n2, Bool.true_and]; simp; omega)
      have hok : Wd.okLane n kk = true := by simp only [Wd.okLane, Ln.may_of n1 n2, Bool.true_and]; simp; omega
      have hfv : Wd.fitsV n 1 (fun _ => vv) = true := Ln.fits_of n1 n2 (fun _ => Bv.out)
      have HU1' := Lib.hid HU1
      have HU2' := Lib.hid HU2
      have HLane' := Lib.hid HLane
      have Hagain := Lib.hid hagain
      have Hall := Lib.hid hall
      have Hok := Lib.hid hok
      have Hfv := Lib.hid hfv
      have HPP : ∀ c w, Nums w A1 m FF → (∀ a, A1 = some a → a.spot = none) → Calls Try.prog 13 #[.int .i64 n, .slice A1 m c] w (RetSE w n P 0) := fun c w hN hz => by
        rw [← hP]
        exact pack_ok n A1 m c FF w k3 hN hz bF64.out (Ln.fits_of n1 n2 bF.out)
      have HPP' := Lib.hid HPP
      clear HPP HU1 HU2 HLane hagain hall hok hfv hback hset hP hALL hFF hM1 hF HM1 HL bv
      go_wp2_with (first
        | (go_at_call_of 13 (Value.slice A1 m c1); refine (HPP'.out c1 _ HM1'.out.nums HM1'.out.spot).mono ?_; rintro e w2 ⟨A2, c2, rfl, hL2, hM2⟩)
        | (go_at_call_of 14 (Value.slice A2 n c2); refine (HU1'.out A2 c2 _ hM2.nums hM2.spot).mono ?_; rintro e w3 ⟨rfl, hL3⟩)
        | (go_at_call_of 13 (Value.slice (some ⟨w3.heap.size, 0, none⟩) 64 64); refine (pack_ok n _ 64 64 ALL _ (by omega) ((Sq.new w3 ALL).nums (by omega)) (spot_head _ _) bA64.out (Ln.fits_of n1 n2 bA.out)).mono ?_; rintro e w4 ⟨A4, c4, rfl, hL4, hM4⟩)
        | (go_at_call 19; refine (set_ok A2 n c2 P kk vv _ (hM2.nums.later (hL3.trans (((Later.refl _).alloc _).trans hL4))) hM2.spot bP.out bv0 bv64 Hok.out Hfv.out).mono ?_; rintro e w5 ⟨A5, c5, rfl, hL5, hM5⟩)
        | (go_at_call_of 14 (Value.slice A5 n c5); refine (HU2'.out A5 c5 _ hM5.nums hM5.spot).mono ?_; rintro e w6 ⟨rfl, hL6⟩)
        | (go_at_call 11; refine (wakes_ok _).mono ?_; rintro e w7 ⟨rfl, g7, rfl⟩)
        | (go_at_call 23; refine (equal_yes A4 A2 n c4 c2 _ _ _ (by omega) (hM4.nums.later (hL5.trans (hL6.trans (((Later.refl _).alloc _).more _)))) (hM2.nums.later ((hL3.trans (((Later.refl _).alloc _).trans hL4)).trans (hL5.trans (hL6.trans (((Later.refl _).alloc _).more _))))) (fun c _ => Hagain.out c)).mono ?_; rintro e w8 ⟨rfl, g8, rfl⟩))
      have hl6 : Later w4 (w6.alloc (.cells (arr fun x => if x = kk then vv else ALL x) 23)) := (hL5.trans hL6).alloc _
      have hl3 : Later w3 (w6.alloc (.cells (arr fun x => if x = kk then vv else ALL x) 23)) := (((Later.refl _).alloc (.cells (arr ALL) 23)).trans hL4).trans hl6
      have hl1 : Later w2 (w6.alloc (.cells (arr fun x => if x = kk then vv else ALL x) 23)) := hL3.trans hl3
      have S12 := Lib.hid ((Sq.new w3 ALL).later (hL4.trans hl6))
      have S19 := Lib.hid (Sq.new w6 (fun x => if x = kk then vv else ALL x))
      have M1 := Lib.hid (HM1'.out.later (hL2.trans hl1))
      have M2 := Lib.hid (hM2.later hl1)
      have L8 := Lib.hid ((hL.out.trans hL2).trans hl1)
      clear hl6 hl3 hl1 hM2 hM4 hM5 hL2 hL3 hL4 hL5 hL6 HM1' hL
      generalize w6.alloc (.cells (arr fun x => if x = kk then vv else ALL x) 23) = w9 at *
      generalize w6.heap.size = b19 at *
      generalize w3.heap.size = b12 at *
      go_loopw [21, 22, 23, 24, 126] (fun _ _ _ _ j wr => ∃ (x : Nat) (g : Grow), x ≤ 64 ∧ j = .int .i64 x ∧ wr = more w9 g) (fun _ _ _ _ j _ => 64 - (intOf j).toNat)
      case atStart => exact ⟨0, _, Nat.zero_le _, rfl, rfl⟩
      case round =>
        obtain ⟨x, g9, hx, rfl, rfl⟩ := hrel
        by_cases hlt : x < 64
        · have x12 := S12.out.cell hlt
          have x19 := S19.out.cell hlt
          have l12 := S12.out.lt
          have l19 := S19.out.lt
          have hLn : ∀ w, Nums w A2 n P → Calls Try.prog 17 #[.slice A2 n c2, .int .i64 (x : Nat)] w (Ret w (.tuple #[.int .u64 (ALL x), .int .i64 0])) := fun w hN => HLane'.out A2 c2 w x hlt hN
          have hN2 := M2.out.nums
          have hy := Hall.out x hlt
          by_cases hm : x < m
          · obtain ⟨_, hz⟩ | ⟨b1, rfl, hb1, hO1⟩ := M1.out
            · exact absurd hz (by omega)
            have x1 := (hO1.2 x hm).1
            have l1 := hO1.1
            rw [if_pos hm] at hy
            rw [← hy] at x1
            generalize ALL x = y at *
            have HLn := Lib.hid hLn
            have HN2 := Lib.hid hN2
            clear hLn hN2 hO1 hy
            by_cases he : x = kk
            · subst he
              rw [if_pos rfl] at x19
              go_wp2_with (first | (go_at_call 17; refine (HLn.out _ (HN2.out.later ((Later.refl _).more _))).mono ?_; rintro e w10 ⟨rfl, g10, rfl⟩))
              go_roundw
              case rel => exact ⟨x + 1, _, by omega, by go_num, rfl⟩
              case measure => simp [intOf]; omega
            · rw [if_neg he] at x19
              have e1 : ((x : Int) != (kk : Int)) = true := by rw [bne_iff_ne]; omega
              have e2 : ((x : Int) == (kk : Int)) = false := by rw [beq_eq_false_iff_ne]; omega
              go_wp2_with (first | (go_at_call 17; refine (HLn.out _ (HN2.out.later ((Later.refl _).more _))).mono ?_; rintro e w10 ⟨rfl, g10, rfl⟩))
              go_roundw
              case rel => exact ⟨x + 1, _, by omega, by go_num, rfl⟩
              case measure => simp [intOf]; omega
          · rw [if_neg hm] at hy
            rw [hy] at x12 x19 hLn
            have HLn := Lib.hid hLn
            have HN2 := Lib.hid hN2
            clear hLn hN2 hy
            by_cases he : x = kk
            · subst he
              rw [if_pos rfl] at x19
              go_wp2_with (first | (go_at_call 17; refine (HLn.out _ (HN2.out.later ((Later.refl _).more _))).mono ?_; rintro e w10 ⟨rfl, g10, rfl⟩))
              go_roundw
              case rel => exact ⟨x + 1, _, by omega, by go_num, rfl⟩
              case measure => simp [intOf]; omega
            · rw [if_neg he] at x19
              have e1 : ((x : Int) != (kk : Int)) = true := by rw [bne_iff_ne]; omega
              have e2 : ((x : Int) == (kk : Int)) = false := by rw [beq_eq_false_iff_ne]; omega
              go_wp2_with (first | (go_at_call 17; refine (HLn.out _ (HN2.out.later ((Later.refl _).more _))).mono ?_; rintro e w10 ⟨rfl, g10, rfl⟩))
              go_roundw
              case rel => exact ⟨x + 1, _, by omega, by go_num, rfl⟩
              case measure => simp [intOf]; omega
        · obtain rfl : x = 64 := by omega
          go_wp2_with fail
          go_ret
          exact Ret.mk (L8.out.more _)
end Go.Proofs.Ytmhmnjeimjjipaa
