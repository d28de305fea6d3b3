/-
  No statement of the seat is proved here. Contract of the document's Depth.
-/
import Derived.Test.YtbdhjoanjlkggaaRO
import Derived.Outline
namespace Go.Proofs.Ytbdhjoanjlkggaa
open Go Go.RowKit
set_option linter.unusedVariables false
theorem refdepth_no (ns : List (List Int)) (A : Option Addr) (c : Nat) (w : World) (hN : NeedsR w A ns) (hn : ns.length ≤ 1000) (hr : ∀ i, (ns.getD i []).length ≤ 1000) (h0 : Lv.orderE ns ≠ 0) :
    Calls Try.prog 17 #[.slice A ns.length c] w (RetLE w [] (Lv.orderE ns)) := by
  have HOr := Lib.hid (reforder ns A c w hN hn hr)
  have h1 : (Lv.orderE ns != 0) = true := by simpa using h0
  clear hN hn hr h0
  generalize Lv.orderE ns = E at *
  go_enter Try.func17, Try.ntmps17
  go_wp2_with (go_at_call 15; refine HOr.out.mono ?_; rintro e w' ⟨v, rfl, hO, hL⟩; obtain ⟨Av, cv, rfl, _, _⟩ := hO.form; clear hO)
  go_ret2
  exact ⟨_, rfl, OwnL.nil _ _, hL⟩
set_option maxRecDepth 100000 in
set_option maxHeartbeats 4000000 in
theorem refdepth_core (ms : List (List Nat)) (T : List Nat) (A : Option Addr) (c : Nat) (w : World) (hN : NeedsR w A (toI ms)) (hlt : ∀ i, ∀ k ∈ Lv.row ms i, k < ms.length) (hn : ms.length ≤ 1000) (hr : ∀ i, (Lv.row ms i).length ≤ 1000)
    (hT : ∀ x ∈ T, x < ms.length) (hTl : T.length ≤ 1000) (hO : Calls Try.prog 15 #[.slice A ms.length c] w (RetLE w T 0)) :
    Calls Try.prog 17 #[.slice A ms.length c] w (RetLE w ((List.range ms.length).map (Lv.dAll ms T fun _ => 0)) 0) := by
  obtain ⟨i3, hi3, hz3, hs3, hy3⟩ := info_parts (P := Try.prog) (e := 3) (z := .int .i64 0) (size := 1) (bytes := 8) info3
  have HN := Lib.hid hN
  have HLt := Lib.hid hlt
  have HR := Lib.hid hr
  have HT := Lib.hid hT
  have HOr := Lib.hid hO
  clear hN hlt hr hT hO
  obtain ⟨N, hNN⟩ : ∃ N, ms.length = N := ⟨_, rfl⟩
  have HNN := Lib.hid hNN
  rw [hNN] at hn HOr HT HLt ⊢
  clear hNN
  go_enter Try.func17, Try.ntmps17
  go_wp2_with (first
    | (go_at_call 15; refine HOr.out.mono ?_; rintro e w1 ⟨v, rfl, hO, hL⟩; obtain ⟨Av, cv, rfl, hI, _⟩ := hO.form; have HI := Lib.hid hI; clear hO hI)
    | (at_make; refine wpList_make_full _ rfl _ _ 26 rfl w.heap.size 3 i3 (.int .i64 0) 1 Try.underlying26 hi3 hz3 hs3 .i64 .i64 _ _ N rfl rfl rfl rfl (by rw [hy3]; omega) (by unfold maxLen; omega) hL.below.size ?_; intro w2 hown2 hgrow2))
  have hR2 : Rw w2 w.heap.size w1.heap.size N N (fun k => (((fun _ => 0 : Nat → Nat) k : Nat) : Int)) := Rw.of_owns hown2 (made_get _ rfl N)
  have HR2 := Lib.hid hR2
  have l12 : Later w1 w2 := Later.of_below ⟨hgrow2.os, hgrow2.tape, hgrow2.output, hgrow2.size, fun k hk => hgrow2.block k hk (by simp)⟩
  have HL2 := Lib.hid (hL.trans l12)
  have HL12 := Lib.hid l12
  have HO2 := Lib.hid (Only.of_later (hL.trans l12) fun k => w.heap.size ≤ k)
  clear hown2 hgrow2 hR2 l12 hL HOr
  have HO12 := Lib.hid (Only.of_later HL12.out fun k => w1.heap.size ≤ k)
  generalize hg : w1.heap.size = g at HR2 HO12 ⊢
  go_loopw [7, 8, 9] (fun j _ _ wr => ∃ q : Nat, q ≤ T.length ∧ j = .int .i64 q ∧
      Hid (Rw wr w.heap.size g N N fun k => ((Lv.dAll ms (T.take q) (fun _ => 0) k : Nat) : Int)) ∧ Hid (∀ k, Lv.dAll ms (T.take q) (fun _ => 0) k ≤ q * 1000) ∧ Hid (Only w wr fun k => w.heap.size ≤ k) ∧ Hid (Only w1 wr fun k => g ≤ k)) (fun j _ _ _ => T.length - (intOf j).toNat)
  case atStart => exact ⟨0, Nat.zero_le _, rfl, HR2, Lib.hid (fun k => by simp [Lv.dAll]), HO2, HO12⟩
  case round =>
    obtain ⟨q, hq, rfl, hR, hB, hO, hL⟩ := hrel
    by_cases hql : q < T.length
    · obtain ⟨b1, o1, rfl, hb1, hc1⟩ := (HI.out.later (later_of_only hL.out hg)).at_ hql
      obtain ⟨i, hi⟩ : ∃ i, T.getD q 0 = i := ⟨_, rfl⟩
      have hiN : i < N := HT.out i (by rw [← hi, List.getD_eq_getElem?_getD, List.getElem?_eq_getElem hql]; exact List.getElem_mem _)
      rw [hi] at hc1
      have Hi := Lib.hid hi
      obtain ⟨b2, o2, Ai, ci, rfl, hb2', hc2', hI2⟩ := HN.out.at_ (i := i) (by rw [HNN.out]; exact hiN)
      have hb2 := later_lt hO.out.later hb2'
      have hc2 := (cell_later' hO.out.later hb2' (o := o2 + i)).trans hc2'
      have hb2o := hb2'
      have hc2o := hc2'
      clear hb2' hc2'
      have hri := HR.out i
      have HI2 := Lib.hid hI2
      have HLi := Lib.hid (HLt.out i)
      clear hI2 hi
      obtain ⟨ro, hrw⟩ : ∃ r, Lv.row ms i = r := ⟨_, rfl⟩
      rw [hrw] at hc2 hc2o hri HI2 HLi
      have Hrw := Lib.hid hrw
      clear hrw
      obtain ⟨D, hD⟩ : ∃ D, Lv.dAll ms (T.take q) (fun _ => 0) = D := ⟨_, rfl⟩
      rw [hD] at hR hB
      have HD := Lib.hid hD
      clear hD
      have hqb : q * 1000 ≤ 1000000 := by omega
      have Hb2' := Lib.hid hb2
      obtain ⟨w3, hw3⟩ : ∃ w3, w3 = wr := ⟨_, rfl⟩
      subst hw3
      go_wp2_with fail
      go_loopw [9] (fun j wr => ∃ p : Nat, p ≤ ro.length ∧ j = .int .i64 p ∧
          Hid (Rw wr w.heap.size g N N fun k => ((Lv.dRow i (ro.take p) D k : Nat) : Int)) ∧ Hid (∀ k, Lv.dRow i (ro.take p) D k ≤ q * 1000 + p) ∧ Hid (Only w wr fun k => w.heap.size ≤ k) ∧ Hid (Only w1 wr fun k => g ≤ k)) (fun j _ => ro.length - (intOf j).toNat)
      case atStart => exact ⟨0, Nat.zero_le _, rfl, hR, hB, hO, hL⟩
      case round =>
        obtain ⟨p, hp, rfl, hR', hB', hO', hL'⟩ := hrel
        have hc4 := (cell_later' hO'.out.later hb2o (o := o2 + i)).trans hc2o
        have hb4 := later_lt hO'.out.later hb2o
        by_cases hpl : p < ro.length
        · obtain ⟨b3, o3, rfl, hb3, hc3⟩ := (HI2.out.later hO'.out.later).at_ hpl
          obtain ⟨x, hx⟩ : ∃ x, ro.getD p 0 = x := ⟨_, rfl⟩
          have hxm : x ∈ ro := by rw [← hx, List.getD_eq_getElem?_getD, List.getElem?_eq_getElem hpl]; exact List.getElem_mem _
          have hxN : x < N := HLi.out x hxm
          rw [hx] at hc3
          have Hx := Lib.hid hx
          have r1 := hR'.out.cell hiN
          have r2 := hR'.out.cell hxN
          have fw := hR'.out.free i
          have lw := hR'.out.lt
          have b1 := hB'.out i
          have b2 := hB'.out x
          obtain ⟨y1, hy1⟩ : ∃ y, Lv.dRow i (ro.take p) D i = y := ⟨_, rfl⟩
          obtain ⟨y2, hy2⟩ : ∃ y, Lv.dRow i (ro.take p) D x = y := ⟨_, rfl⟩
          rw [hy1] at r1 b1
          rw [hy2] at r2 b2
          by_cases hcmp : y1 < y2 + 1
          · have HRn := Lib.hid ((hR'.out.set hiN ((y2 : Int) + 1)).congr (h' := fun k => ((Lv.dRow i (ro.take (p + 1)) D k : Nat) : Int)) (fun k hk => by
              rw [Lv.dRow_next hpl Hx.out, hy1, hy2, Nat.max_eq_right (by omega)]
              unfold Lv.upd
              split <;> rfl))
            have HBn : Hid (∀ k, Lv.dRow i (ro.take (p + 1)) D k ≤ q * 1000 + (p + 1)) := Lib.hid (fun k => by
              rw [Lv.dRow_next hpl Hx.out, hy1, hy2]
              have := hB'.out k
              unfold Lv.upd
              split <;> omega)
            have HOn := Lib.hid (hO'.out.setCell (p := ⟨g, i, none⟩) (.inl (show w.heap.size ≤ g from hR'.out.ge)) (.int .i64 ((y2 : Int) + 1)))
            have HLn := Lib.hid (hL'.out.setCell (p := ⟨g, i, none⟩) (.inl (Nat.le_refl g)) (.int .i64 ((y2 : Int) + 1)))
            clear hy1 hy2 hx hxm
            go_wp2_with fail
            refine wp_region_later (by kernel_rfl) (by kernel_rfl) ?_
            repeat (go_big_quiet_step (fail))
            refine wpQuiet_nil ?_
            rintro _ ⟨g2, rfl⟩
            go_wp2_with fail
            go_roundw
            case rel => exact ⟨p + 1, by omega, by go_num, Lib.hid (HRn.out.later ((Later.refl _).more _)), HBn, Lib.hid (HOn.out.trans (Only.of_later ((Later.refl _).more _) fun k => w.heap.size ≤ k) (fun _ _ h => h)), Lib.hid (HLn.out.trans (Only.of_later ((Later.refl _).more _) fun k => g ≤ k) (fun _ _ h => h))⟩
            case measure => simp [intOf]; omega
          · have HRn := Lib.hid (hR'.out.congr (h' := fun k => ((Lv.dRow i (ro.take (p + 1)) D k : Nat) : Int)) (fun k hk => by
              rw [Lv.dRow_next hpl Hx.out, hy1, hy2, Nat.max_eq_left (by omega)]
              unfold Lv.upd
              split
              · rename_i e; rw [e, hy1]
              · rfl))
            have HBn : Hid (∀ k, Lv.dRow i (ro.take (p + 1)) D k ≤ q * 1000 + (p + 1)) := Lib.hid (fun k => by
              rw [Lv.dRow_next hpl Hx.out, hy1, hy2]
              have := hB'.out k
              unfold Lv.upd
              split <;> omega)
            clear hy1 hy2 hx hxm
            go_wp2_with fail
            refine wp_region_later (by kernel_rfl) (by kernel_rfl) ?_
            repeat (go_big_quiet_step (fail))
            refine wpQuiet_nil ?_
            rintro _ ⟨g2, rfl⟩
            go_wp2_with fail
            go_roundw
            case rel => exact ⟨p + 1, by omega, by go_num, Lib.hid (HRn.out.later ((Later.refl _).more _)), HBn, Lib.hid (hO'.out.trans (Only.of_later ((Later.refl _).more _) fun k => w.heap.size ≤ k) (fun _ _ h => h)), Lib.hid (hL'.out.trans (Only.of_later ((Later.refl _).more _) fun k => g ≤ k) (fun _ _ h => h))⟩
            case measure => simp [intOf]; omega
        · obtain rfl : p = ro.length := by omega
          go_wp2_with fail
          go_roundw
          case rel => exact ⟨q + 1, by omega, by go_num, Lib.hid (by rw [Lv.dAll_next hql Hi.out, HD.out, Hrw.out]; have := hR'.out; rw [List.take_length] at this; exact this), Lib.hid (by rw [Lv.dAll_next hql Hi.out, HD.out, Hrw.out]; intro k; have := hB'.out k; rw [List.take_length] at this; omega), hO', hL'⟩
          case measure => simp [intOf]; omega
    · obtain rfl : q = T.length := by omega
      go_wp2_with fail
      go_ret2
      have h1 := hR.out
      rw [List.take_length] at h1
      exact ⟨_, rfl, Rw.ownL h1, hO.out.later⟩
theorem refdepth (ns : List (List Int)) (A : Option Addr) (c : Nat) (w : World) (hN : NeedsR w A ns) (hn : ns.length ≤ 1000) (hr : ∀ i, (ns.getD i []).length ≤ 1000) :
    Calls Try.prog 17 #[.slice A ns.length c] w (RetLE w (Lv.depthL ns) (Lv.orderE ns)) := by
  unfold Lv.depthL
  by_cases h0 : Lv.orderE ns = 0
  · rw [if_pos h0]
    obtain ⟨hm, h1, h2⟩ := Lv.orderE_zero h0
    have hO := reforder ns A c w hN hn hr
    have hlt := Lv.may_lt hm
    have hg := (Lv.told_good (Lv.nat ns)).lt
    have := refdepth_core (Lv.nat ns) (Lv.orderL ns) A c w (by rw [Lv.may_nat hm]; exact hN) hlt (by rw [Lv.nat_len]; exact hn) (fun i => by rw [nat_row_len]; exact hr i)
      (by rw [h1]; exact hg) (by rw [h1, h2]; exact hn) (by rw [Lv.nat_len]; rw [h0] at hO; exact hO)
    rw [Lv.nat_len] at this
    rw [h0]
    exact this
  · rw [if_neg h0]
    exact refdepth_no ns A c w hN hn hr h0
end Go.Proofs.Ytbdhjoanjlkggaa
