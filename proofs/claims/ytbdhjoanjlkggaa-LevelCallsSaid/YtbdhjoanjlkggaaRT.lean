/-
  No statement of the seat is proved here. Contract of the document's told.
-/
import Derived.Test.YtbdhjoanjlkggaaRM
import Derived.Outline
namespace Go.Proofs.Ytbdhjoanjlkggaa
open Go Go.RowKit
set_option linter.unusedVariables false
namespace Lv
theorem next_end (ms : List (List Nat)) (j : Nat) (hj : j < ms.length) : rdy ms (told ms) j = false := by
  by_cases h : j ∈ told ms
  · cases hr : rdy ms (told ms) j
    · rfl
    · exact absurd h (rdy_iff.1 hr).1
  · obtain ⟨k, hk, hn⟩ := told_stuck hj h
    cases hr : rdy ms (told ms) j
    · rfl
    · exact absurd (cnt_zero.1 (rdy_iff.1 hr).2 k hk) hn
/-- What comes next, or the count of things. -/
def aim (ms : List (List Nat)) (s : Nat) : Nat := if s < (told ms).length then (told ms).getD s 0 else ms.length
theorem aim_low {ms : List (List Nat)} {s j : Nat} (hs : s ≤ (told ms).length) (hj : j < ms.length) (h : j < aim ms s) : rdy ms ((told ms).take s) j = false := by
  unfold aim at h
  by_cases e : s < (told ms).length
  · rw [if_pos e] at h
    cases hr : rdy ms ((told ms).take s) j
    · rfl
    · have := next_le (told_step e) hj hr
      omega
  · rw [List.take_of_length_le (by omega)]
    exact next_end ms j hj
theorem aim_yes {ms : List (List Nat)} {s : Nat} (h : aim ms s < ms.length) : s < (told ms).length ∧ rdy ms ((told ms).take s) (aim ms s) = true ∧ (told ms).take (s + 1) = (told ms).take s ++ [aim ms s] := by
  unfold aim at h ⊢
  by_cases e : s < (told ms).length
  · rw [if_pos e]
    refine ⟨e, (next_rdy (told_step e)).2, ?_⟩
    rw [List.take_succ_eq_append_getElem e, List.getD_eq_getElem?_getD, List.getElem?_eq_getElem e]
    rfl
  · rw [if_neg e] at h; omega
theorem aim_no {ms : List (List Nat)} {s : Nat} (hs : s ≤ (told ms).length) (h : ms.length ≤ aim ms s) : (told ms).take s = told ms := by
  unfold aim at h
  by_cases e : s < (told ms).length
  · rw [if_pos e] at h
    have := (told_good ms).lt ((told ms).getD s 0) (by rw [List.getD_eq_getElem?_getD, List.getElem?_eq_getElem e]; exact List.getElem_mem _)
    omega
  · rw [List.take_of_length_le (by omega)]
theorem rdy_all {ms : List (List Nat)} {D : List Nat} {i : Nat} (hi : D.contains i = false) : rdy ms D i = (row ms i).all fun k => D.contains k := by
  unfold rdy
  rw [hi, Bool.eq_iff_iff]
  simp [cnt_zero]
end Lv
def RetTB (w : World) (T : List Nat) (N : Nat) (e : Ending) (w' : World) : Prop := ∃ v A c, e = .returned (.tuple #[v, .slice A N c]) ∧ OwnL w' w.heap.size v T ∧ BoolsR w' A ((List.range N).map fun k => T.contains k) ∧ Later w w'
set_option maxRecDepth 100000 in
set_option maxHeartbeats 8000000 in
theorem reftold (ms : List (List Nat)) (A : Option Addr) (c : Nat) (w : World) (hN : NeedsR w A (toI ms)) (hf : Lv.Fine ms) : Calls Try.prog 33 #[.slice A ms.length c] w (RetTB w (Lv.told ms) ms.length) := by
  obtain ⟨i4, hi4, hz4, hs4, hy4⟩ := info_parts (P := Try.prog) (e := 4) (z := .bool false) (size := 1) (bytes := 1) info4
  obtain ⟨i3, hi3, hz3, hs3, hy3⟩ := info_parts (P := Try.prog) (e := 3) (z := .int .i64 0) (size := 1) (bytes := 8) info3
  have HN := Lib.hid hN
  have HFi := Lib.hid hf
  have hN40 := hf.1
  have HTl := Lib.hid (Lv.told_good ms).le
  obtain ⟨N, hNN⟩ : ∃ N, ms.length = N := ⟨_, rfl⟩
  have HNN := Lib.hid hNN
  rw [hNN] at hN40 HTl ⊢
  clear hN hf hNN
  go_enter Try.func33, Try.ntmps33
  go_wp2_with (at_make; refine wpList_make_full _ rfl _ _ 27 rfl w.heap.size 4 i4 (.bool false) 1 Try.underlying27 hi4 hz4 hs4 .i64 .i64 _ _ N rfl rfl rfl rfl (by rw [hy4]; omega) (by unfold maxLen; omega) (Nat.le_refl _) ?_; intro w1 hown1 hgrow1)
  have HB1 := Lib.hid (BRow.make hown1)
  have l1 : Later w w1 := Later.of_below ⟨hgrow1.os, hgrow1.tape, hgrow1.output, hgrow1.size, fun k hk => hgrow1.block k hk (by simp)⟩
  have HL1 := Lib.hid l1
  have HO1 := Lib.hid (Only.of_later l1 fun k => w.heap.size ≤ k)
  obtain ⟨G, hGG⟩ : ∃ G, w.heap.size = G := ⟨_, rfl⟩
  have hG1 := (BRow.make hown1).lt
  have HGG := Lib.hid hGG
  rw [hGG] at HB1 hG1 ⊢
  clear hown1 hgrow1 l1 hGG
  go_loopw [4, 6, 7, 8, 9] (fun v _ _ _ _ wr => ∃ s : Nat, s ≤ (Lv.told ms).length ∧ Hid (OwnL wr (G + 1) v ((Lv.told ms).take s)) ∧ Hid (BRow wr G N fun k => ((Lv.told ms).take s).contains k) ∧ Hid (Only w wr fun k => w.heap.size ≤ k) ∧ G + 1 ≤ wr.heap.size) (fun v _ _ _ _ _ => N - lenOf v)
  case atStart => exact ⟨0, Nat.zero_le _, Lib.hid (OwnL.nil _ _), Lib.hid (HB1.out.congr (fun k hk => by simp)), HO1, by omega⟩
  case round =>
    obtain ⟨s, hs, hO, hB, hW, hGr⟩ := hrel
    have HLo := Lib.hid (fun j (h1 : j < ms.length) h2 => Lv.aim_low hs h1 h2)
    have HYe := Lib.hid (fun h => Lv.aim_yes (ms := ms) (s := s) h)
    have HNo := Lib.hid (fun h => Lv.aim_no hs h)
    rw [HNN.out] at HLo HYe HNo
    obtain ⟨X, hX⟩ : ∃ X, Lv.aim ms s = X := ⟨_, rfl⟩
    rw [hX] at HLo HYe HNo
    obtain ⟨D, hD⟩ : ∃ D, (Lv.told ms).take s = D := ⟨_, rfl⟩
    rw [hD] at HLo HYe HNo hO hB
    have hDl : D.length = s := by rw [← hD, List.length_take]; omega
    obtain ⟨Ap, cp, hv, _, hob⟩ := hO.out.form
    have Hob := Lib.hid hob
    subst hv
    have HNw := Lib.hid (HN.out.later hW.out.later)
    clear hX hD hob
    subst hDl
    go_wp2_with fail
    go_loopw [6, 7, 8, 9] (fun nx ix _ _ wr' => ∃ i : Nat, i ≤ N ∧ ix = .int .i64 i ∧ ((i ≤ X ∧ nx = .int .i64 (-1)) ∨ (i = X + 1 ∧ X < N ∧ nx = .int .i64 (X : Nat))) ∧ wr' = wr) (fun _ ix _ _ _ => N - (intOf ix).toNat)
    case atStart => exact ⟨0, Nat.zero_le _, rfl, .inl ⟨Nat.zero_le _, rfl⟩, rfl⟩
    case round =>
      obtain ⟨i, hi, rfl, hcase, rfl⟩ := hrel
      rcases hcase with ⟨hiX, hnx⟩ | ⟨hiX, hXN, hnx⟩
      · subst hnx
        by_cases hiN : i < N
        · obtain ⟨b3, o3, Ai, ci, rfl, hb3, hc3, hI3⟩ := HNw.out.at_ (i := i) (by rw [HNN.out]; exact hiN)
          have HI3 := Lib.hid hI3
          have hri := HFi.out.2.1 i
          have HLi := Lib.hid (HFi.out.2.2 i)
          have hcb := hB.out.cell hiN
          have HRa := Lib.hid (fun h => Lv.rdy_all (ms := ms) (D := D) (i := i) h)
          obtain ⟨ro, hro⟩ : ∃ ro, Lv.row ms i = ro := ⟨_, rfl⟩
          rw [hro] at hc3 HI3 hri HLi HRa
          clear hro hI3
          cases hci : D.contains i
          · rw [hci] at hcb
            have HRi := Lib.hid (HRa.out hci)
            clear hci HRa
            go_wp2_with fail
            go_loopw [8, 9] (fun al kx wr' => ∃ (q : Nat) (b : Bool), q ≤ ro.length ∧ kx = .int .i64 q ∧ al = .bool b ∧ Hid (b = (ro.take q).all fun k => D.contains k) ∧ wr' = wr) (fun _ kx _ => ro.length - (intOf kx).toNat)
            case atStart => exact ⟨0, true, Nat.zero_le _, rfl, rfl, Lib.hid (by simp), rfl⟩
            case round =>
              obtain ⟨q, b, hq, rfl, rfl, hb, rfl⟩ := hrel
              by_cases hql : q < ro.length
              · obtain ⟨b7, o7, rfl, hb7, hc7⟩ := HI3.out.at_ hql
                obtain ⟨k, hk⟩ : ∃ k, ro.getD q 0 = k := ⟨_, rfl⟩
                have hkm : k ∈ ro := by rw [← hk, List.getD_eq_getElem?_getD, List.getElem?_eq_getElem hql]; exact List.getElem_mem _
                have hkN : k < N := by have := HLi.out k hkm; rw [HNN.out] at this; exact this
                rw [hk] at hc7
                have hck := hB.out.cell hkN
                have hnb : ((ro.take (q + 1)).all fun k => D.contains k) = (b && D.contains k) := by
                  have e : ro[q] = k := by rw [← hk, List.getD_eq_getElem?_getD, List.getElem?_eq_getElem hql]; rfl
                  rw [List.take_succ_eq_append_getElem hql, List.all_append, e, hb.out]
                  simp
                have Hnb := Lib.hid hnb
                clear hk hkm hnb
                cases hdk : D.contains k
                · rw [hdk] at hck Hnb
                  clear hdk
                  go_wp2_with fail
                  go_roundw
                  case rel => exact ⟨q + 1, false, by omega, by go_num, rfl, Lib.hid (by rw [Hnb.out]; simp), trivial⟩
                  case measure => simp [intOf]; omega
                · rw [hdk] at hck Hnb
                  clear hdk
                  go_wp2_with fail
                  go_roundw
                  case rel => exact ⟨q + 1, b, by omega, by go_num, rfl, Lib.hid (by rw [Hnb.out]; simp), trivial⟩
                  case measure => simp [intOf]; omega
              · obtain rfl : q = ro.length := by omega
                have hbv := hb.out
                rw [List.take_length, ← HRi.out] at hbv
                cases b
                · have hne : i + 1 ≤ X := by
                    rcases Nat.lt_or_ge i X with h | h
                    · omega
                    · have e : i = X := by omega
                      have := (HYe.out (by omega)).2.1
                      rw [← e, ← hbv] at this
                      cases this
                  clear hbv
                  go_wp2_with fail
                  go_roundw
                  case rel => exact ⟨i + 1, by omega, by go_num, .inl ⟨hne, rfl⟩, trivial⟩
                  case measure => simp [intOf]; omega
                · have hne : i = X := by
                    rcases Nat.lt_or_ge i X with h | h
                    · have := HLo.out i hiN h
                      rw [← hbv] at this
                      cases this
                    · omega
                  have Hne := Lib.hid hne
                  clear hbv hne
                  go_wp2_with fail
                  go_roundw
                  case rel => exact ⟨i + 1, by omega, by go_num, .inr ⟨by have := Hne.out; omega, by have := Hne.out; omega, by rw [Hne.out]⟩, trivial⟩
                  case measure => simp [intOf]; omega
          · rw [hci] at hcb
            have hne : i + 1 ≤ X := by
              rcases Nat.lt_or_ge i X with h | h
              · omega
              · have e : i = X := by omega
                have := (HYe.out (by omega)).2.1
                rw [← e, Lv.rdy_iff] at this
                exact absurd (by simpa using hci) this.1
            clear hci
            go_wp2_with fail
            go_roundw
            case rel => exact ⟨i + 1, by omega, by go_num, .inl ⟨hne, rfl⟩, trivial⟩
            case measure => simp [intOf]; omega
        · obtain rfl : N = i := by omega
          have HD := Lib.hid (HNo.out hiX)
          go_wp2_with fail
          go_ret2
          rw [← HD.out]
          exact ⟨_, _, _, rfl, hO.out.mono (by have := HGG.out; omega), hB.out.bools, hW.out.later⟩
      · subst hnx
        obtain ⟨hsl, _, htk⟩ := HYe.out hXN
        have Htk := Lib.hid htk
        have hcX := hB.out.cell hXN
        have hfX := hB.out.free X
        have hlX := hB.out.lt
        have HB5 := Lib.hid ((hB.out.put hXN true).congr (is' := fun k => ((Lv.told ms).take (D.length + 1)).contains k) (fun k hk => by
          rw [htk]
          by_cases e : k = X
          · subst e; simp
          · rw [if_neg e]; simp [e]))
        have hoX : Only wr (wr.setCell ⟨G, X, none⟩ (.bool true)) fun k => k = G := (Only.refl wr fun k => k = G).setCell (p := ⟨G, X, none⟩) (.inl rfl) _
        have HOX := Lib.hid hoX
        have HOw := Lib.hid (hO.out.only hoX (fun b hb e => by have := (Hob.out b hb).1; omega))
        have hsz := hoX.size
        have hTs : D.length ≤ N := by have := HTl.out; omega
        clear htk hoX
        by_cases hiN : i < N
        · go_wp2_with (at_builtin; refine wpList_append_own_at _ rfl _ _ 26 rfl (G + 1) 3 i3 (.int .i64 0) 1 8 Try.underlying26 hi3 hz3 hs3 hy3 rfl (by decide) _ _ _ rfl (World.ownsRow.alloc HOw.out _) ⟨wr.heap.size, 0, none⟩ 1 1 [.int .i64 (X : Nat)] rfl rfl (by have h := cell_one_new (wr.setCell ⟨G, X, none⟩ (.bool true)) (.int .i64 (X : Nat)) 3; rw [World.size_setCell] at h; exact h) (fun x hx => by simp at hx; subst hx; rfl) (by unfold maxLen; omega) (by omega) (by simp; omega) ?_; intro v' w6 hown6 hgrow6 hnil6 hat6; have HO6 := Lib.hid (((Only.refl (wr.setCell ⟨G, X, none⟩ (.bool true)) fun c => (Value.slice Ap D.length cp).ownBlock = some c).alloc _).trans (Only.grown hgrow6) (fun _ _ h => h)); have Hown6 := Lib.hid (OwnL.snoc hown6); have hs6 := hgrow6.size; obtain ⟨A6, c6, hv6, _, _⟩ := Hown6.out.form; subst hv6; clear hown6 hgrow6 hnil6 hat6)
          have HB6 := Lib.hid (HB5.out.only HO6.out (fun e => by have := (Hob.out _ e).1; omega))
          have HW6 := Lib.hid ((hW.out.trans HOX.out (fun b _ e => by have := HGG.out; omega)).trans HO6.out (fun b _ e => by have := (Hob.out b e).1; have := HGG.out; omega))
          have hTl := HTl.out
          have hG6 : G + 1 ≤ w6.heap.size := by have := HO6.out.size; simp at this; omega
          go_roundw
          case rel => exact ⟨D.length + 1, by omega, Lib.hid (by rw [Htk.out]; have := Hown6.out; rw [List.length_append] at this; exact this), HB6, HW6, hG6⟩
          case measure => simp [lenOf]; omega
        · go_wp2_with (at_builtin; refine wpList_append_own_at _ rfl _ _ 26 rfl (G + 1) 3 i3 (.int .i64 0) 1 8 Try.underlying26 hi3 hz3 hs3 hy3 rfl (by decide) _ _ _ rfl (World.ownsRow.alloc HOw.out _) ⟨wr.heap.size, 0, none⟩ 1 1 [.int .i64 (X : Nat)] rfl rfl (by have h := cell_one_new (wr.setCell ⟨G, X, none⟩ (.bool true)) (.int .i64 (X : Nat)) 3; rw [World.size_setCell] at h; exact h) (fun x hx => by simp at hx; subst hx; rfl) (by unfold maxLen; omega) (by omega) (by simp; omega) ?_; intro v' w6 hown6 hgrow6 hnil6 hat6; have HO6 := Lib.hid (((Only.refl (wr.setCell ⟨G, X, none⟩ (.bool true)) fun c => (Value.slice Ap D.length cp).ownBlock = some c).alloc _).trans (Only.grown hgrow6) (fun _ _ h => h)); have Hown6 := Lib.hid (OwnL.snoc hown6); have hs6 := hgrow6.size; obtain ⟨A6, c6, hv6, _, _⟩ := Hown6.out.form; subst hv6; clear hown6 hgrow6 hnil6 hat6)
          have HB6 := Lib.hid (HB5.out.only HO6.out (fun e => by have := (Hob.out _ e).1; omega))
          have HW6 := Lib.hid ((hW.out.trans HOX.out (fun b _ e => by have := HGG.out; omega)).trans HO6.out (fun b _ e => by have := (Hob.out b e).1; have := HGG.out; omega))
          have hTl := HTl.out
          have hG6 : G + 1 ≤ w6.heap.size := by have := HO6.out.size; simp at this; omega
          go_roundw
          case rel => exact ⟨D.length + 1, by omega, Lib.hid (by rw [Htk.out]; have := Hown6.out; rw [List.length_append] at this; exact this), HB6, HW6, hG6⟩
          case measure => simp [lenOf]; omega
end Go.Proofs.Ytbdhjoanjlkggaa
