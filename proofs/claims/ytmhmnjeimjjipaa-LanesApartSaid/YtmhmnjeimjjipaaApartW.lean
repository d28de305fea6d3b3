/-
  No statement of the seat is proved here. The walk of the law LanesApart.
-/
import Derived.Test.YtmhmnjeimjjipaaSq
import Derived.Test.YtmhmnjeimjjipaaPlainA
import Derived.Laws.Cover1
import Derived.Deep.CutBlock
import Derived.Deep.RegionWith
import Derived.StillTailTactics
namespace Go.Proofs.Ytmhmnjeimjjipaa
open Go Go.RowKit
set_option linter.unusedVariables false
/-- One step of a row that is being written. -/
theorem Ln.step_row {n : Nat} {F h : Nat → Int} {k : Nat} (hP : ∀ c, c < n → h c = if c < k then F c else 0) {x : Int} (hx : x = F k) (c : Nat) (hc : c < n) : (if c = k then x else h c) = if c < k + 1 then F c else 0 := by
  by_cases e : c = k
  · subst e; rw [if_pos rfl, if_pos (by omega)]; exact hx
  · rw [if_neg e, hP c hc]
    by_cases e2 : c < k
    · rw [if_pos e2, if_pos (by omega)]
    · rw [if_neg e2, if_neg (by omega)]
/-- One number of a row cut. -/
theorem row_step {f F : Nat → Int} {M : Int} {i k : Nat} (h : ∀ c, c < k → F c = if c < i then bits BinOp.and IntKind.u64 (f c) M else f c) {x : Int} (hx : F i = x) (hi : i < k) (c : Nat) (hc : c < k) :
    (if c = i then bits BinOp.and IntKind.u64 x M else F c) = if c < i + 1 then bits BinOp.and IntKind.u64 (f c) M else f c := by
  by_cases e : c = i
  · subst e; rw [if_pos rfl, if_pos (by omega), ← hx, h c hi, if_neg (by omega)]
  · rw [if_neg e, h c hc]
    by_cases e2 : c < i
    · rw [if_pos e2, if_pos (by omega)]
    · rw [if_neg e2, if_neg (by omega)]

theorem run_min3 {k x y z : Nat} (h : k = min (min x y) z) (ts : Array TypeId) (t : TypeId) (w : World) : (Builtin.min_ ts t #[.int .i64 x, .int .i64 y, .int .i64 z]).run Try.prog w = .ok (.int .i64 k) w := by
  rw [run_min_int3]
  congr 2
  subst h
  repeat' split
  all_goals omega
set_option maxRecDepth 100000 in
set_option maxHeartbeats 4000000 in
theorem apart_walk (n0 : Int) (hn0 : 0 ≤ n0 ∧ n0 < 256) (A B : Option Addr) (la ca lb cb : Nat) (f h : Nat → Int) (w : World) (hA : Nums w A la f) (hB : Nums w B lb h)
    (sA : ∀ a, A = some a → a.spot = none) (sB : ∀ a, B = some a → a.spot = none) (lA : la ≤ ca) (lB : lb ≤ cb) (mA : ca ≤ 9223372036854775807) (mB : cb ≤ 9223372036854775807)
    (hf : ∀ k, 0 ≤ f k ∧ f k < 18446744073709551616) (hh : ∀ k, 0 ≤ h k ∧ h k < 18446744073709551616) :
    Calls Try.prog 5 #[.int .u8 n0, .slice A la ca, .slice B lb cb] w (Ret w (.bool true)) := by
  obtain ⟨n, hn⟩ := Int.eq_ofNat_of_zero_le (show 0 ≤ 1 + n0 % 64 by omega)
  have n1 : 1 ≤ n := by omega
  have n2 : n ≤ 64 := by omega
  have HA := Lib.hid hA
  have HB := Lib.hid hB
  have HF := Lib.hid hf
  have HH := Lib.hid hh
  have SA := Lib.hid sA
  have SB := Lib.hid sB
  clear hA hB sA sB hf hh
  obtain ⟨k, hk⟩ : ∃ k, k = min (min la lb) 64 := ⟨_, rfl⟩
  obtain ⟨mm, hmm⟩ : ∃ mm, mm = min la lb := ⟨_, rfl⟩
  have hm1 : (if lb < la then (lb : Int) else (la : Int)) = (mm : Int) := by split <;> omega
  have hmin : min (mm : Int) 64 = (k : Int) := by omega
  have hm3 : (if (64 : Int) < (mm : Int) then (64 : Int) else (mm : Int)) = (k : Int) := by split <;> omega
  have k1 : k ≤ la := by omega
  have k2 : k ≤ lb := by omega
  have k3 : k ≤ 64 := by omega
  have k4 : k ≤ ca := by omega
  have k5 : k ≤ cb := by omega
  clear hk hmm
  go_enter Try.func5, Try.ntmps5
  go_wp2_with fail
  go_region_with (first
    | (go_at_call_of 12 (Value.slice A k ca); refine (clone_any A k ca f _ (fun c hc => HA.out.later (Later.refl _).drew c (by omega)) (by omega) SA.out).mono ?_; rintro e w1 ⟨A1, c1, rfl, hL1, hM1⟩)
    | (go_at_call_of 12 (Value.slice B k cb); refine (clone_any B k cb h _ (fun c hc => (HB.out.later (Later.refl _).drew).later hL1 c (by omega)) (by omega) SB.out).mono ?_; rintro e w2 ⟨B1, c2, rfl, hL2, hM2⟩))
  have hap := Lib.hid (apart_of hM1 hM2)
  have HL := Lib.hid (((Later.refl w).drew.trans hL1).trans hL2)
  have HM1 := Lib.hid ((hM1.later hL2).base (show w.heap.size ≤ w.drew.heap.size from Nat.le_refl _))
  have HM2 := Lib.hid (hM2.base (hL1.below.size))
  clear hL1 hL2 hM1 hM2
  have hmask := Ln.mask_is n1 n2
  generalize (18446744073709551615 : Int) / 2 ^ (64 - n) = M at *
  have Hmask := Lib.hid hmask
  clear hmask hmin hm1 hm3
  go_wp2_with fail
  go_loopw [10, 42] (fun _ j wr => ∃ (i : Nat) (F H : Nat → Int), i ≤ k ∧ j = .int .i64 i ∧ Hid (∀ c, c < k → F c = if c < i then bits BinOp.and IntKind.u64 (f c) M else f c) ∧ Hid (∀ c, c < k → H c = if c < i then bits BinOp.and IntKind.u64 (h c) M else h c) ∧ Hid (Mine w.heap.size wr A1 k F) ∧ Hid (Mine w.heap.size wr B1 k H) ∧ Hid (Later w wr)) (fun _ j _ => k - (intOf j).toNat)
  case atStart => exact ⟨0, f, h, Nat.zero_le _, rfl, Lib.hid (fun c hc => by simp), Lib.hid (fun c hc => by simp), HM1, HM2, HL⟩
  case round =>
    obtain ⟨i, F, H, hi, rfl, hF, hH, hM1, hM2, hL⟩ := hrel
    by_cases hlt : i < k
    · obtain ⟨_, hz⟩ | ⟨b1, rfl, hb1, hO1⟩ := hM1.out
      · exact absurd hz (by omega)
      obtain ⟨_, hz⟩ | ⟨b2, rfl, hb2, hO2⟩ := hM2.out
      · exact absurd hz (by omega)
      have hne := hap.out b1 b2 rfl rfl
      have hne' := hne.symm
      have x1 := (hO1.2 i hlt).1
      have x2 := (hO2.2 i hlt).1
      have f1 := (hO1.2 i hlt).2
      have f2 := (hO2.2 i hlt).2
      have l1 := hO1.1
      have l2 := hO2.1
      obtain ⟨x, hx⟩ : ∃ x, F i = x := ⟨_, rfl⟩
      obtain ⟨y, hy⟩ : ∃ y, H i = y := ⟨_, rfl⟩
      rw [hx] at x1
      rw [hy] at x2
      have Hx := Lib.hid hx
      have Hy := Lib.hid hy
      have HO1 := Lib.hid hO1
      have HO2 := Lib.hid hO2
      clear hx hy hO1 hO2
      go_wp2_with fail
      go_roundw
      case rel =>
        exact ⟨i + 1, _, _, by omega, by go_num, Lib.hid (fun c hc => row_step hF.out Hx.out hlt c hc), Lib.hid (fun c hc => row_step hH.out Hy.out hlt c hc),
          Lib.hid (((HO1.out.set hlt _).other hne' _).mine hb1), Lib.hid (((HO2.out.other hne _).set hlt _).mine hb2), Lib.hid ((hL.out.setCell hb1 _).setCell hb2 _)⟩
      case measure => simp [intOf]; omega
    · obtain rfl : k = i := by omega
      obtain ⟨FF, hFF⟩ : ∃ FF : Nat → Int, ∀ c, FF c = bits BinOp.and IntKind.u64 (f c) M := ⟨_, fun _ => rfl⟩
      obtain ⟨GG, hGG⟩ : ∃ FF : Nat → Int, ∀ c, FF c = bits BinOp.and IntKind.u64 (h c) M := ⟨_, fun _ => rfl⟩
      have HM1' := Lib.hid (hM1.out.congr (h := FF) fun c hc => by rw [hF.out c hc, if_pos hc, hFF])
      have HM2' := Lib.hid (hM2.out.congr (h := GG) fun c hc => by rw [hH.out c hc, if_pos hc, hGG])
      have bF := Lib.hid (fun c => (by rw [hFF c, Hmask.out]; exact Ln.mask_bd n1 n2 (HF.out c).1 (HF.out c).2 : 0 ≤ FF c ∧ FF c < Wd.pw n))
      have bH := Lib.hid (fun c => (by rw [hGG c, Hmask.out]; exact Ln.mask_bd n1 n2 (HH.out c).1 (HH.out c).2 : 0 ≤ GG c ∧ GG c < Wd.pw n))
      have bF64 := Lib.hid (fun c => (⟨(bF.out c).1, Ln.lt_64 n2 (bF.out c).2⟩ : 0 ≤ FF c ∧ FF c < 18446744073709551616))
      have bH64 := Lib.hid (fun c => (⟨(bH.out c).1, Ln.lt_64 n2 (bH.out c).2⟩ : 0 ≤ GG c ∧ GG c < 18446744073709551616))
      clear hM1 hM2 hF hH HM1 HM2 hap HL hFF hGG
      obtain ⟨i0, hi0, hz0, hz1, hz2⟩ := info_parts (P := Try.prog) (e := 22) (z := .int .u64 0) (size := 1) (bytes := 8) (by kernel_rfl)
      go_wp2_with (first
        | (go_at_call_of 13 (Value.slice A1 k c1); refine (pack_ok n A1 k c1 FF _ k3 HM1'.out.nums HM1'.out.spot bF64.out (Ln.fits_of n1 n2 bF.out)).mono ?_; rintro e w3 ⟨A3, c3, rfl, hL3, hM3⟩)
        | (go_at_call_of 13 (Value.slice B1 k c2); refine (pack_ok n B1 k c2 GG _ k3 (HM2'.out.later hL3).nums (HM2'.out.later hL3).spot bH64.out (Ln.fits_of n1 n2 bH.out)).mono ?_; rintro e w4 ⟨A4, c4, rfl, hL4, hM4⟩)
        | (go_at_call 11; refine (wakes_ok _).mono ?_; rintro e w5 ⟨rfl, g5, rfl⟩)
        | (at_make; refine wpList_make_full _ rfl _ _ 29 rfl 0 22 i0 (.int .u64 0) 1 Try.underlying29 hi0 hz0 hz1 .i64 .i64 _ _ n rfl rfl rfl rfl (by rw [hz2]; omega) (by unfold maxLen; omega) (Nat.zero_le _) ?_; intro w6 hown hgrow))
      obtain ⟨b5, c5, hbc, _, hO⟩ := Own.of_row (f := fun _ => 0) hown (made_at n) (by simp)
      have hb : (more w4 g5).heap.size = b5 := by injection hbc with hb; injection hb with hb; injection hb
      rw [more_size] at hb
      clear hbc
      subst hb
      have hL5 : Later w4 (more w4 g5) := ⟨g5, rfl⟩
      have hL6 : Later w4 w6 := hL5.trans (Later.of_grown hgrow)
      have HO3 := Lib.hid (hM3.later hL4)
      have HO4 := Lib.hid hM4
      have HL4 := Lib.hid ((hL.out.trans hL3).trans hL4)
      have HM1 := Lib.hid ((HM1'.out.later hL3).later hL4)
      have HM2 := Lib.hid ((HM2'.out.later hL3).later hL4)
      have hge : w4.heap.size ≤ w4.heap.size + g5.size := by omega
      generalize w4.heap.size + g5.size = b5 at *
      have HO := Lib.hid hO
      have HL6 := Lib.hid hL6
      clear hown hgrow hL5 hL6 hO hM3 hM4 HM1' HM2' hL hL3 hL4 hz0 hz1 hz2 hi0
      obtain ⟨_, hz⟩ | ⟨b3, rfl, hb3, hO3⟩ := HO3.out
      · exact absurd hz (by omega)
      obtain ⟨_, hz⟩ | ⟨b4, rfl, hb4, hO4⟩ := HO4.out
      · exact absurd hz (by omega)
      have HO3' := Lib.hid hO3
      have HO4' := Lib.hid hO4
      clear HO3 HO4 hO3 hO4
      obtain ⟨P, hP⟩ : ∃ P, Ln.trn (over k FF fun _ => 0) = P := ⟨_, rfl⟩
      obtain ⟨Q, hQ⟩ : ∃ P, Ln.trn (over k GG fun _ => 0) = P := ⟨_, rfl⟩
      have bP : ∀ c, 0 ≤ P c ∧ P c < 18446744073709551616 := fun c => by rw [← hP]; exact Ln.trn_bd _ c
      have bQ : ∀ c, 0 ≤ Q c ∧ Q c < 18446744073709551616 := fun c => by rw [← hQ]; exact Ln.trn_bd _ c
      rw [hP] at HO3'
      rw [hQ] at HO4'
      have HP := Lib.hid hP
      have HQ := Lib.hid hQ
      have BP := Lib.hid bP
      have BQ := Lib.hid bQ
      clear hP hQ bP bQ
      go_loopw [16, 98] (fun _ j wr => ∃ (i : Nat) (C : Nat → Int), i ≤ n ∧ j = .int .i64 i ∧ Hid (∀ c, c < n → C c = if c < i then bits BinOp.or IntKind.u64 (bits BinOp.andNot IntKind.u64 (P c) (Q c)) (bits BinOp.andNot IntKind.u64 (Q c) (P c)) else 0) ∧ Hid (Own wr b5 n C) ∧ Hid (Later w4 wr)) (fun _ j _ => n - (intOf j).toNat)
      case atStart => exact ⟨0, _, Nat.zero_le _, rfl, Lib.hid (fun c hc => by simp), HO, HL6⟩
      case round =>
        obtain ⟨i, C, hi, rfl, hC, hO, hL⟩ := hrel
        by_cases hlt : i < n
        · have x3 := ((HO3'.out.later hL.out).2 i hlt).1
          have x4 := ((HO4'.out.later hL.out).2 i hlt).1
          have x5 := (hO.out.2 i hlt).1
          have f5 := (hO.out.2 i hlt).2
          have bp := BP.out i
          have bq := BQ.out i
          obtain ⟨p, hp⟩ : ∃ x, P i = x := ⟨_, rfl⟩
          obtain ⟨q, hq⟩ : ∃ x, Q i = x := ⟨_, rfl⟩
          rw [hp] at x3 bp
          rw [hq] at x4 bq
          have Hp := Lib.hid hp
          have Hq := Lib.hid hq
          clear hp hq
          go_upto_region 19 with fail
          go_still_tail 22, (by kernel_rfl)
          change wpList _ _ _ _ _ wr.drew
          · go_wp2_with fail
            go_roundw
            case rel => exact ⟨i + 1, _, by omega, by go_num, Lib.hid (fun c hc => Ln.step_row (F := fun c => bits BinOp.or IntKind.u64 (bits BinOp.andNot IntKind.u64 (P c) (Q c)) (bits BinOp.andNot IntKind.u64 (Q c) (P c))) hC.out (by rw [Hp.out, Hq.out]) c hc),
                Lib.hid ((hO.out.set hlt _).later ((Later.refl _).drew)), Lib.hid ((hL.out.setCell hge _).drew)⟩
            case measure => simp [intOf]; omega
        · obtain rfl : n = i := by omega
          obtain ⟨D, hD⟩ : ∃ D : Nat → Int, ∀ c, D c = bits BinOp.or IntKind.u64 (bits BinOp.andNot IntKind.u64 (P c) (Q c)) (bits BinOp.andNot IntKind.u64 (Q c) (P c)) := ⟨_, fun _ => rfl⟩
          have HO5 := Lib.hid (hO.out.congr (h := D) fun c hc => by rw [hC.out c hc, if_pos hc, hD])
          have bD := Lib.hid (fun c => (by
            rw [hD c]
            have a := Ln.andNot_bd (BP.out c).1 (BP.out c).2 (BQ.out c).1 (BQ.out c).2
            have b := Ln.andNot_bd (BQ.out c).1 (BQ.out c).2 (BP.out c).1 (BP.out c).2
            have o := Ln.or_bd a.1 a.2.1 b.1 b.2.1
            exact ⟨o.1, o.2.1⟩ : 0 ≤ D c ∧ D c < 18446744073709551616))
          obtain ⟨T, hT⟩ : ∃ T, Ln.trn (over n D fun _ => 0) = T := ⟨_, rfl⟩
          have hTx : ∀ i, i < k → T i = bits BinOp.xor IntKind.u64 (FF i) (GG i) := fun i hi => by
            rw [← hT]
            exact Ln.apart_law k3 n2 bF.out bH.out (fun c hc => by rw [HP.out, HQ.out]; exact hD c) i hi
          have HU : ∀ c w, Nums w (some ⟨b5, 0, none⟩) n D → Calls Try.prog 14 #[.slice (some ⟨b5, 0, none⟩) n c] w (Ret w (.tuple #[.agg (arr T), .int .i64 0])) := fun c w hN => by
            rw [← hT]
            exact unpack_ok _ n c D w hN (spot_head _ _) bD.out (by simp [Wd.may]; omega)
          have HU' := Lib.hid HU
          have HTx := Lib.hid hTx
          clear HU hTx hT hD hC hO
          go_wp2_with (first
            | (go_at_call 14; refine (HU'.out _ _ HO5.out.nums).mono ?_; rintro e w7 ⟨rfl, hL7⟩))
          have hl8 : Later w4 (w7.alloc (.cells (arr T) 23)) := (hL.out.trans hL7).alloc _
          have S8 := Lib.hid (Sq.new w7 T)
          have M1 := Lib.hid (HM1.out.later hl8)
          have M2 := Lib.hid (HM2.out.later hl8)
          have L8 := Lib.hid (HL4.out.trans hl8)
          clear hl8 hL7 hL HM1 HM2 HL4
          generalize w7.alloc (.cells (arr T) 23) = w8 at *
          generalize w7.heap.size = b8 at *
          go_loopw [19, 131] (fun _ j wr => ∃ (i : Nat) (g : Grow), i ≤ k ∧ j = .int .i64 i ∧ wr = more w8 g) (fun _ j _ => k - (intOf j).toNat)
          case atStart => exact ⟨0, ⟨#[], w8.drawn⟩, Nat.zero_le _, rfl, by simp [more]⟩
          case round =>
            obtain ⟨i, g9, hi, rfl, rfl⟩ := hrel
            by_cases hlt : i < k
            · obtain ⟨_, hz⟩ | ⟨b1, rfl, hb1, hO1⟩ := M1.out
              · exact absurd hz (by omega)
              obtain ⟨_, hz⟩ | ⟨b2, rfl, hb2, hO2⟩ := M2.out
              · exact absurd hz (by omega)
              have x8 := S8.out.cell (show i < 64 by omega)
              have x1 := (hO1.2 i hlt).1
              have x2 := (hO2.2 i hlt).1
              have l8 := S8.out.lt
              have l1 := hO1.1
              have l2 := hO2.1
              rw [HTx.out i hlt] at x8
              generalize FF i = x at *
              generalize GG i = y at *
              clear hO1 hO2
              go_wp2_with fail
              refine wp_region_more (by kernel_rfl) (by kernel_rfl) ?_
              repeat (go_big_quiet_step (fail))
              refine wpQuiet_nil ?_
              rintro _ ⟨g3, rfl⟩
              go_wp2_with fail
              go_roundw
              case rel => exact ⟨i + 1, _, by omega, by go_num, rfl⟩
              case measure => simp [intOf]; omega
            · obtain rfl : k = i := by omega
              go_wp2_with fail
              go_ret
              exact Ret.mk (L8.out.more _)
end Go.Proofs.Ytmhmnjeimjjipaa
