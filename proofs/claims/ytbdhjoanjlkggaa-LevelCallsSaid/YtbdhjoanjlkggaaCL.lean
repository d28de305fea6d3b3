/-
  No statement of the seat is proved here. The walk of the law LevelCalls.
-/
import Derived.Test.YtbdhjoanjlkggaaCP
import Derived.Laws.Cover1
import Derived.Deep.CutBlock
import Derived.Deep.RegionWith
import Derived.Deep.DeepCutAuto
namespace Go.Proofs.Ytbdhjoanjlkggaa
open Go Go.RowKit
set_option linter.unusedVariables false
set_option maxRecDepth 100000 in
set_option maxHeartbeats 8000000 in
theorem calls_walk (x0 : List (List Int)) (x1 x2 : List Int) (A B D : Option Addr) (ca cb cd : Nat) (w : World)
    (hA : KRows w .i64 A x0) (lA : x0.length ≤ ca) (mA : ca ≤ 9223372036854775807)
    (hB : KRow w .i64 B x1) (lB : x1.length ≤ cb) (mB : cb ≤ 9223372036854775807) (sB : ∀ a, B = some a → a.spot = none)
    (hD : KRow w .i64 D x2) (lD : x2.length ≤ cd) (mD : cd ≤ 9223372036854775807) (sD : ∀ a, D = some a → a.spot = none) :
    Calls Try.prog 4 #[.slice A x0.length ca, .slice B x1.length cb, .slice D x2.length cd] w (Ret w (.bool true)) := by
  obtain ⟨k1, hk1⟩ : ∃ k, k = min x1.length 10 := ⟨_, rfl⟩
  obtain ⟨k2, hk2⟩ : ∃ k, k = min x2.length 60 := ⟨_, rfl⟩
  have hmin1 : min (x1.length : Int) 10 = (k1 : Int) := by omega
  have hmin2 : min (x2.length : Int) 60 = (k2 : Int) := by omega
  have a1 : k1 ≤ x1.length := by omega
  have a2 : k1 ≤ 10 := by omega
  have a3 : k1 ≤ cb := by omega
  have a4 : k2 ≤ x2.length := by omega
  have a5 : k2 ≤ 60 := by omega
  have a6 : k2 ≤ cd := by omega
  have HF12 := Lib.hid (fun (w' : World) (h : Later w w') => few_any x0 A ca w' (hA.few.later h) lA mA)
  have e1 : (x1.take k1).length = k1 := by rw [List.length_take]; omega
  have e2 : (x2.take k2).length = k2 := by rw [List.length_take]; omega
  have HC1 : Hid (∀ w', Later w w' → Calls Try.prog 13 #[.slice B k1 cb] w' (RetI w' (x1.take k1))) := Lib.hid (fun w' h => by
    have := clone_ints (x1.take k1) B cb w' ((hB.ints.take k1).later h) (by omega)
    rw [e1] at this; exact this)
  have HC2 : Hid (∀ w', Later w w' → Calls Try.prog 13 #[.slice D k2 cd] w' (RetI w' (x2.take k2))) := Lib.hid (fun w' h => by
    have := clone_ints (x2.take k2) D cd w' ((hD.ints.take k2).later h) (by omega)
    rw [e2] at this; exact this)
  have E1 := Lib.hid e1
  have E2 := Lib.hid e2
  have HNl := Lib.hid (Lv.few_len x0)
  have HNr := Lib.hid (Lv.few_row x0)
  have HNf := Lib.hid (Lv.few_few x0)
  generalize Lv.few x0 = ns at HF12 HNl HNr HNf
  generalize x1.take k1 = fs at HC1 E1
  generalize x2.take k2 = ds at HC2 E2
  clear hA hB sB hD sD hk1 hk2 e1 e2
  go_enter Try.func4, Try.ntmps4
  go_wp2_with fail
  go_cut [0, 1, 2] (fun s0 s1 s2 wx => ∃ (A1 : Option Addr) (c1 : Nat) (B1 : Option Addr) (c2 : Nat) (D1 : Option Addr) (c3 : Nat) (wB : World), s0 = .slice A1 ns.length c1 ∧ s1 = .slice B1 k1 c2 ∧ s2 = .slice D1 k2 c3 ∧ Hid (OwnN wB w.heap.size (.slice A1 ns.length c1) ns) ∧ Hid (OwnI wB w.heap.size (.slice B1 k1 c2) fs) ∧ Hid (Later w wB) ∧ Hid (OwnI wx wB.heap.size (.slice D1 k2 c3) ds) ∧ Hid (Later wB wx))
  case first =>
    go_region_with (first
      | (go_at_call_of 13 (Value.slice D k2 cd); have hq := hL2; refine (HC2.out _ ((h01.trans hL1).trans hL2)).mono ?_; rintro e w3 ⟨v3, rfl, hO3, hL3⟩)
      | (go_at_call_of 13 (Value.slice B k1 cb); have hq := hL1; refine (HC1.out _ (h01.trans hL1)).mono ?_; rintro e w2 ⟨v2, rfl, hO2, hL2⟩)
      | (go_at_call 12; refine (HF12.out _ (Later.refl w).drew).mono ?_; rintro e w1 ⟨v1, rfl, hO1, hL1⟩; have h01 : Later w w.drew := (Later.refl w).drew))
    all_goals
      go_wp2_with fail
      obtain ⟨A1, c1, rfl, _, _⟩ := hO1.form
      obtain ⟨B1, c2, rfl, _, _⟩ := hO2.form
      obtain ⟨D1, c3, rfl, _, _⟩ := hO3.form
      rw [E1.out] at *
      rw [E2.out] at *
      go_meet
      exact ⟨A1, c1, B1, c2, D1, c3, w2, rfl, rfl, rfl, Lib.hid (hO1.later hL2), Lib.hid (hO2.mono (h01.trans hL1).below.size), Lib.hid ((h01.trans hL1).trans hL2), Lib.hid hO3, Lib.hid hL3⟩
  case rest =>
    obtain ⟨A1, c1, B1, c2, D1, c3, wB, rfl, rfl, rfl, HN, HB, HLB, HDs, HLx⟩ := hcut
    have HOx := Lib.hid (Only.of_later HLx.out fun k => wB.heap.size ≤ k)
    have HDs0 := Lib.hid (show OwnI _ wB.heap.size (.slice D1 k2 c3) (Lv.lows ds 0) from HDs.out)
    clear HDs HLx
    go_wp2_with fail
    go_loopw [7, 43] (fun _ j wr => ∃ i : Nat, i ≤ k2 ∧ j = .int .i64 i ∧ Hid (OwnI wr wB.heap.size (.slice D1 k2 c3) (Lv.lows ds i)) ∧ Hid (Only wB wr fun k => wB.heap.size ≤ k)) (fun _ j _ => k2 - (intOf j).toNat)
    case atStart => exact ⟨0, Nat.zero_le _, rfl, HDs0, HOx⟩
    case round =>
      obtain ⟨i, hi, rfl, hO, hW⟩ := hrel
      by_cases hik : i < k2
      · have hil : i < (Lv.lows ds i).length := by rw [Lv.lows_len, E2.out]; exact hik
        obtain ⟨g, rfl, hg1, hg2, hg3, hg4⟩ := hO.out.addr (by omega)
        obtain ⟨b1, o1, e1, hb1, hc1⟩ := hO.out.int i hil
        injection e1 with e1
        injection e1 with e1 e2
        subst e1 e2
        rw [Lv.lows_at (by rw [E2.out]; exact hik), Nat.zero_add] at hc1
        obtain ⟨x, hx⟩ : ∃ x, ds.getD i 0 = x := ⟨_, rfl⟩
        rw [hx] at hc1
        have hf1 := hg4 i
        have Hg4 := Lib.hid hg4
        have HOn := Lib.hid (by have := hO.out.set hil (Lv.low x); rw [Lv.lows_next (by rw [E2.out]; exact hik) hx] at this; exact this)
        have HWn := Lib.hid (hW.out.setCell (p := ⟨g, i, none⟩) (.inl hg1) (.int .i64 (Lv.low x)))
        clear hx hg4
        go_wp2_with fail
        go_roundw
        case rel => exact ⟨i + 1, by omega, by go_num, HOn, HWn⟩
        case measure => simp [intOf]; omega
      · obtain rfl : i = k2 := by omega
        obtain ⟨w3, hw3⟩ : ∃ w3, w3 = wr := ⟨_, rfl⟩
        subst hw3
        have HL3 := Lib.hid hW.out.later
        have hds := hO.out
        rw [← E2.out, Lv.lows_all] at hds
        have hinn := Lv.low_inn ds
        have hly1 := Lv.layersL_len ds
        have hly2 := fun i => Lv.layersL_row (ds.map Lv.low) i
        have hdl : (ds.map Lv.low).length = i := by rw [List.length_map]; exact E2.out
        have hdi : ds.length = i := E2.out
        rw [hdi] at hds
        generalize ds.map Lv.low = dl at hds hinn hly1 hly2 hdl
        clear hdi E2 hO hW HDs0 HOx
        subst hdl
        have HDl := Lib.hid hds
        have G12 := Lib.hid (few_again HNf.out (HN.out.later HL3.out))
        have hnl : ns.length ≤ 60 := HNl.out
        have hnr : ∀ i, (ns.getD i []).length ≤ 1000 := fun i => by have := HNr.out i; omega
        have hfl : fs.length ≤ 1000 := by rw [E1.out]; omega
        have G13b : Hid (∀ w', Later w3 w' → Calls Try.prog 13 #[.slice B1 k1 c2] w' (RetI w' fs)) := Lib.hid (fun w' h => by
          have := clone_ints fs B1 c2 w' ((HB.out.int.later HL3.out).later h) (by omega)
          rw [E1.out] at this; exact this)
        have G13d : Hid (∀ w', Later w3 w' → Calls Try.prog 13 #[.slice D1 dl.length c3] w' (RetI w' dl)) := Lib.hid (fun w' h => clone_ints dl D1 c3 w' (HDl.out.int.later h) (by omega))
        have G14 := Lib.hid (fun A c w h => order_any ns A c w h (by omega) hnr)
        have G15 := Lib.hid (fun A c w h => reforder ns A c w h (by omega) hnr)
        have G16 := Lib.hid (fun A c w h => depth_any ns A c w h (by omega) hnr)
        have G17 := Lib.hid (fun A c w h => refdepth ns A c w h (by omega) hnr)
        have G18 := Lib.hid (fun A c w h => round_any ns A c w h (by omega) hnr)
        have G19 := Lib.hid (fun A c w h => refround ns A c w h (by omega) hnr)
        have G9 : Hid (∀ A F c cf w, NeedsR w A ns → IntsR w F fs → (∀ a, F = some a → a.spot = none) → Calls Try.prog 9 #[.slice A ns.length c, .slice F k1 cf] w (RetBE w (Lv.reachV ns fs) (Lv.reachE ns fs))) := Lib.hid (fun A F c cf w h1 h2 h3 => by
          have := reach_all A F c cf w h1 (by omega) hnr h2 hfl h3
          rw [E1.out] at this; exact this)
        have G20 : Hid (∀ A F c cf w, NeedsR w A ns → IntsR w F fs → Calls Try.prog 20 #[.slice A ns.length c, .slice F k1 cf] w (RetBE w (Lv.reachV ns fs) (Lv.reachE ns fs))) := Lib.hid (fun A F c cf w h1 h2 => by
          have := refreach ns fs A F c cf w h1 (by omega) hnr h2 hfl
          rw [E1.out] at this; exact this)
        have G24 := Lib.hid (fun A c w h => layers24 dl A c w h (by omega) hinn)
        have G25 := Lib.hid (fun A c w h => reflayers dl A c w h (by omega) hinn)
        have G26 := Lib.hid (fun A c w h => may_any ns A c w h (by omega) hnr)
        have G27 := Lib.hid (fun A c w h => refmay ns A c w h (by omega) hnr)
        have Gns := Lib.hid (fun A B c d w h1 h2 => same_yes (A := A) (B := B) (c := c) (d := d) (w := w) (ns := ns) (by omega) hnr h1 h2)
        have Gly := Lib.hid (fun A B c d w h1 h2 => same_yes (A := A) (B := B) (c := c) (d := d) (w := w) (ns := Lv.layersL dl) hly1 (fun i => by have := hly2 i; omega) h1 h2)
        have Gfs : Hid (∀ A B c d w, IntsR w A fs → IntsR w B fs → Calls Try.prog 21 #[.slice A k1 c, .slice B k1 d] w (Ret w (.bool true))) := Lib.hid (fun A B c d w h1 h2 => equal21_is (v := true) (decide_eq_true rfl) E1.out.symm E1.out.symm (by omega) (by omega) h1 h2)
        have Gdl := Lib.hid (fun A B c d w h1 h2 => equal21_is (A := A) (B := B) (c := c) (d := d) (w := w) (l := dl) (l' := dl) (v := true) (decide_eq_true rfl) rfl rfl (by omega) (by omega) h1 h2)
        have Gor := Lib.hid (fun A B c d w h1 h2 => equal21_is (A := A) (B := B) (c := c) (d := d) (w := w) (l := ints (Lv.orderL ns)) (l' := ints (Lv.orderL ns)) (v := true) (decide_eq_true rfl) (ints_len _).symm (ints_len _).symm (by have := Lv.orderL_len ns; omega) (by have := Lv.orderL_len ns; omega) h1 h2)
        have Gde := Lib.hid (fun A B c d w h1 h2 => equal21_is (A := A) (B := B) (c := c) (d := d) (w := w) (l := ints (Lv.depthL ns)) (l' := ints (Lv.depthL ns)) (v := true) (decide_eq_true rfl) (ints_len _).symm (ints_len _).symm (by have := Lv.depthL_len ns; omega) (by have := Lv.depthL_len ns; omega) h1 h2)
        have Gro := Lib.hid (fun A B c d w h1 h2 => equal21_is (A := A) (B := B) (c := c) (d := d) (w := w) (l := ints (Lv.roundL ns)) (l' := ints (Lv.roundL ns)) (v := true) (decide_eq_true rfl) (ints_len _).symm (ints_len _).symm (by have := Lv.roundL_len ns; omega) (by have := Lv.roundL_len ns; omega) h1 h2)
        have Gre := Lib.hid (fun A B c d w h1 h2 => equal22_is (A := A) (B := B) (c := c) (d := d) (w := w) (l := Lv.reachV ns fs) (l' := Lv.reachV ns fs) (v := true) (decide_eq_true rfl) rfl rfl (by have := Lv.reachV_len ns fs; omega) (by have := Lv.reachV_len ns fs; omega) h1 h2)
        obtain ⟨eo1, eo2⟩ := Lv.orderE_in ns
        obtain ⟨er1, er2⟩ := Lv.reachE_in ns fs
        generalize Lv.orderL ns = LO at G14 G15 Gor
        generalize Lv.orderE ns = EO at G14 G15 G16 G17 eo1 eo2
        generalize Lv.depthL ns = LD at G16 G17 Gde
        generalize Lv.roundL ns = LR at G18 G19 Gro
        generalize Lv.roundB ns = BR at G18 G19
        generalize Lv.reachV ns fs = RV at G9 G20 Gre
        generalize Lv.reachE ns fs = RE at G9 G20 er1 er2
        generalize Lv.layersL dl = LY at G24 G25 Gly hly1 hly2
        generalize Lv.mayB ns = MB at G26 G27
        clear hds hinn hly1 hly2 HNl HNr HNf hnl hnr hfl HF12 HC1 HC2
        go_wp2_with (first
          | (go_at_call 10; have hq := hL26; refine (wakes_ok _).mono ?_; rintro e w27 ⟨rfl, hL27⟩; skip)
          | (go_at_call 21; have hq := hL25; refine (Gdl.out _ _ _ _ w25 K25.out.depths K25.out.depth).mono ?_; rintro e w26 ⟨rfl, hL26⟩; have K26 := Lib.hid (K25.out.later hL26))
          | (go_at_call 21; have hq := hL24; refine (Gfs.out _ _ _ _ w24 K24.out.things K24.out.from_).mono ?_; rintro e w25 ⟨rfl, hL25⟩; have K25 := Lib.hid (K24.out.later hL25))
          | (go_at_call 23; have hq := hL23; refine (Gns.out _ _ _ _ w23 K23.out.own K23.out.needs).mono ?_; rintro e w24 ⟨rfl, hL24⟩; have K24 := Lib.hid (K23.out.later hL24))
          | (go_at_call 27; have hq := hL22; refine (G27.out _ _ w22 K22.out.needs).mono ?_; rintro e w23 ⟨rfl, hL23⟩; have K23 := Lib.hid (K22.out.later hL23))
          | (go_at_call 26; have hq := hL21; refine (G26.out _ _ w21 K21.out.own).mono ?_; rintro e w22 ⟨rfl, hL22⟩; have K22 := Lib.hid (K21.out.later hL22))
          | (go_at_call 23; have hq := hL20; refine (Gly.out _ _ _ _ w20 (HN19.out.later hL20) HN20.out).mono ?_; rintro e w21 ⟨rfl, hL21⟩; have K21 := Lib.hid (K20.out.later hL21))
          | (go_at_call 25; have hq := hL19; refine (G25.out _ _ w19 K19.out.depth).mono ?_; rintro e w20 ⟨v20, rfl, hO20, hL20⟩; obtain ⟨A20, c20, rfl, hN20, _⟩ := hO20.form; have HN20 := Lib.hid hN20; have K20 := Lib.hid (K19.out.later hL20); clear hO20 hN20)
          | (go_at_call 24; have hq := hL18; refine (G24.out _ _ w18 K18.out.depths).mono ?_; rintro e w19 ⟨A19, c19, rfl, hN19, hL19⟩; have HN19 := Lib.hid hN19; have K19 := Lib.hid (K18.out.later hL19); clear hN19)
          | (go_at_call 22; have hq := hL17; refine (Gre.out _ _ _ _ w17 (J13.out.later ((hL15.trans hL16).trans hL17)) (J14.out.later ((hL15.trans hL16).trans hL17))).mono ?_; rintro e w18 ⟨rfl, hL18⟩; have K18 := Lib.hid (K17.out.later hL18))
          | (go_at_call 21; have hq := hL16; refine (Gro.out _ _ _ _ w16 (J11.out.later (hL15.trans hL16)) (J12.out.later (hL15.trans hL16))).mono ?_; rintro e w17 ⟨rfl, hL17⟩; have K17 := Lib.hid (K16.out.later hL17))
          | (go_at_call 21; have hq := hL15; refine (Gde.out _ _ _ _ w15 (J9.out.later hL15) (J10.out.later hL15)).mono ?_; rintro e w16 ⟨rfl, hL16⟩; have K16 := Lib.hid (K15.out.later hL16))
          | (go_at_call 21; have hq := hL14; refine (Gor.out _ _ _ _ w14 (J7.out.later (Later.refl _)) (J8.out.later (Later.refl _))).mono ?_; rintro e w15 ⟨rfl, hL15⟩; have K15 := Lib.hid (K14.out.later hL15))
          | (go_at_call 20; have hq := hL13; refine (G20.out _ _ _ _ w13 K13.out.needs K13.out.from_).mono ?_; rintro e w14 ⟨A14, c14, rfl, hI14, hL14⟩; have J14 := Lib.hid hI14; have K14 := Lib.hid (K13.out.later hL14); have J7 := Lib.hid (HI7.out.later ((((((hL8.trans hL9).trans hL10).trans hL11).trans hL12).trans hL13).trans hL14)); have J8 := Lib.hid (HI8.out.later (((((hL9.trans hL10).trans hL11).trans hL12).trans hL13).trans hL14)); have J9 := Lib.hid (HI9.out.later ((((hL10.trans hL11).trans hL12).trans hL13).trans hL14)); have J10 := Lib.hid (HI10.out.later (((hL11.trans hL12).trans hL13).trans hL14)); have J11 := Lib.hid (HI11.out.later ((hL12.trans hL13).trans hL14)); have J12 := Lib.hid (HI12.out.later (hL13.trans hL14)); have J13 := Lib.hid (HI13.out.later hL14); clear hI14)
          | (go_at_call 9; have hq := hL12; refine (G9.out _ _ _ _ w12 K12.out.own K12.out.things HS5.out).mono ?_; rintro e w13 ⟨A13, c13, rfl, hI13, hL13⟩; have HI13 := Lib.hid hI13; have K13 := Lib.hid (K12.out.later hL13); clear hI13)
          | (go_at_call 19; have hq := hL11; refine (G19.out _ _ w11 K11.out.needs).mono ?_; rintro e w12 ⟨A12, c12, rfl, hI12, hL12⟩; have HI12 := Lib.hid hI12; have K12 := Lib.hid (K11.out.later hL12); clear hI12)
          | (go_at_call 18; have hq := hL10; refine (G18.out _ _ w10 K10.out.own).mono ?_; rintro e w11 ⟨A11, c11, rfl, hI11, hL11⟩; have HI11 := Lib.hid hI11; have K11 := Lib.hid (K10.out.later hL11); clear hI11)
          | (go_at_call 17; have hq := hL9; refine (G17.out _ _ w9 K9.out.needs).mono ?_; rintro e w10 ⟨v10, rfl, hO10, hL10⟩; obtain ⟨A10, c10, rfl, hI10, _⟩ := hO10.form; have HI10 := Lib.hid hI10; have K10 := Lib.hid (K9.out.later hL10); clear hO10 hI10)
          | (go_at_call 16; have hq := hL8; refine (G16.out _ _ w8 K8.out.own).mono ?_; rintro e w9 ⟨v9, rfl, hO9, hL9⟩; obtain ⟨A9, c9, rfl, hI9, _⟩ := hO9.form; have HI9 := Lib.hid hI9; have K9 := Lib.hid (K8.out.later hL9); clear hO9 hI9)
          | (go_at_call 15; have hq := hL7; refine (G15.out _ _ w7 K7.out.needs).mono ?_; rintro e w8 ⟨v8, rfl, hO8, hL8⟩; obtain ⟨A8, c8, rfl, hI8, _⟩ := hO8.form; have HI8 := Lib.hid hI8; have K8 := Lib.hid (K7.out.later hL8); clear hO8 hI8)
          | (go_at_call 14; have hq := hL6; refine (G14.out _ _ w6 K6.out.own).mono ?_; rintro e w7 ⟨v7, rfl, hO7, hL7⟩; obtain ⟨A7, c7, rfl, hI7, _⟩ := hO7.form; have HI7 := Lib.hid hI7; have K7 := Lib.hid (K6.out.later hL7); clear hO7 hI7)
          | (go_at_call_of 13 (Value.slice D1 dl.length c3); have hq := hL5; refine (G13d.out w5 (hL4.trans hL5)).mono ?_; rintro e w6 ⟨v6, rfl, hO6, hL6⟩; obtain ⟨D6, c6, rfl, _, hI6, _, _⟩ := hO6.form; have K6 : Hid (Keep w6 A1 A4 B1 B5 D1 D6 ns fs dl) := Lib.hid ⟨HN4.out.later (hL5.trans hL6), (by obtain ⟨_, _, q1, q2, _⟩ := HN.out.form; injection q1 with q1; rw [q1]; exact q2.later (HL3.out.trans ((hL4.trans hL5).trans hL6))), HI5.out.later hL6, HB.out.int.later (HL3.out.trans ((hL4.trans hL5).trans hL6)), hI6, HDl.out.int.later ((hL4.trans hL5).trans hL6)⟩; clear hO6 hI6)
          | (go_at_call_of 13 (Value.slice B1 k1 c2); have hq := hL4; refine (G13b.out w4 hL4).mono ?_; rintro e w5 ⟨v5, rfl, hO5, hL5⟩; obtain ⟨B5, c5, hv5, _, hI5, hs5, _⟩ := hO5.form; rw [E1.out] at hv5; subst hv5; have HI5 := Lib.hid hI5; have HS5 := Lib.hid hs5; clear hO5 hI5 hs5)
          | (go_at_call 12; refine (G12.out).mono ?_; rintro e w4 ⟨v4, rfl, hO4, hL4⟩; obtain ⟨A4, c4, rfl, hN4, _⟩ := hO4.form; have HN4 := Lib.hid hN4; clear hO4 hN4))
        go_ret
        exact Ret.mk (HLB.out.trans (HL3.out.trans (((((((((((((((((((((((hL4.trans hL5).trans hL6).trans hL7).trans hL8).trans hL9).trans hL10).trans hL11).trans hL12).trans hL13).trans hL14).trans hL15).trans hL16).trans hL17).trans hL18).trans hL19).trans hL20).trans hL21).trans hL22).trans hL23).trans hL24).trans hL25).trans hL26).trans hL27)))
end Go.Proofs.Ytbdhjoanjlkggaa
