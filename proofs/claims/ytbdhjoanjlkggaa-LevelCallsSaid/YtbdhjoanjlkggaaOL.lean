/-
  No statement of the seat is proved here. The walk of LevelOrder.
-/
import Derived.Test.YtbdhjoanjlkggaaOPl
import Derived.Test.YtbdhjoanjlkggaaRPl
import Derived.Outline
namespace Go.Proofs.Ytbdhjoanjlkggaa
open Go Go.RowKit
set_option linter.unusedVariables false
theorem order_ms {ms : List (List Nat)} {N : Nat} (hf : Lv.Fine ms) (hN : ms.length = N) (A : Option Addr) (c : Nat) (w : World) (hA : NeedsR w A (toI ms)) :
    Calls Try.prog 14 #[.slice A N c] w (RetLE w (if (Lv.told ms).length < N then [] else Lv.told ms) (if (Lv.told ms).length < N then 35 else 0)) := by
  subst hN
  have h := order_any (toI ms) A c w hA (by rw [toI_len]; exact hf.1) (fun i => by rw [toI_row, ints_len]; exact hf.2.1 i)
  have e1 : Lv.orderE (toI ms) = if (Lv.told ms).length < ms.length then 35 else 0 := by
    unfold Lv.orderE
    rw [Lv.fine_may hf, Lv.nat_toI, toI_len]
    simp
  have e2 : Lv.orderL (toI ms) = if (Lv.told ms).length < ms.length then [] else Lv.told ms := by
    unfold Lv.orderL
    rw [Lv.fine_may hf, Lv.nat_toI, toI_len]
    simp
  rw [toI_len, e1, e2] at h
  exact h
theorem round_ms {ms : List (List Nat)} {N : Nat} (hf : Lv.Fine ms) (hN : ms.length = N) (A : Option Addr) (c : Nat) (w : World) (hA : NeedsR w A (toI ms)) :
    Calls Try.prog 18 #[.slice A N c] w (RetLB w (if (Lv.told ms).length < N then Lv.walkF ms (Lv.unt ms) (N + 1) [] (Lv.first (Lv.unt ms) N) else []) (decide ((Lv.told ms).length < N))) := by
  subst hN
  have h := round_any (toI ms) A c w hA (by rw [toI_len]; exact hf.1) (fun i => by rw [toI_row, ints_len]; exact hf.2.1 i)
  have e1 : Lv.roundB (toI ms) = decide ((Lv.told ms).length < ms.length) := by
    unfold Lv.roundB
    rw [Lv.fine_may hf, Lv.nat_toI, toI_len]
    simp
  have e2 : Lv.roundL (toI ms) = if (Lv.told ms).length < ms.length then Lv.walkF ms (Lv.unt ms) (ms.length + 1) [] (Lv.first (Lv.unt ms) ms.length) else [] := by
    unfold Lv.roundL
    rw [e1, Lv.nat_toI, toI_len]
    simp only [decide_eq_true_eq]
  rw [toI_len, e1, e2] at h
  exact h
@[go_sem] theorem dec_neg (x : Nat) : decide ((x : Int) < 0) = false := decide_eq_false (by omega)
@[go_sem] theorem dec_ge {x N : Nat} (h : x < N) : decide (N ≤ x) = false := decide_eq_false (by omega)
set_option maxRecDepth 100000 in
set_option maxHeartbeats 8000000 in
theorem order_walk1 (rs : List (List Nat)) (ms : List (List Nat)) (A : Option Addr) (c : Nat) (w : World) (hB : Calls Try.prog 8 #[.slice A rs.length c] w (RetNN w (toI ms))) (hf : Lv.Fine ms) (hlt : (Lv.told ms).length < ms.length) :
    Calls Try.prog 6 #[.slice A rs.length c] w (Ret w (.bool true)) := by
  have HBr := Lib.hid hB
  obtain ⟨N, hNN⟩ : ∃ N, ms.length = N := ⟨_, rfl⟩
  have hN40 := hf.1
  have hring := Lv.round_ring hf hlt
  rw [hNN] at hring
  have HOr := Lib.hid (fun A c w h => by have := order_ms hf hNN A c w h; rw [if_pos (by rw [← hNN]; exact hlt), if_pos (by rw [← hNN]; exact hlt)] at this; exact this)
  have HRo := Lib.hid (fun A c w h => by have := round_ms hf hNN A c w h; rw [if_pos (by rw [← hNN]; exact hlt), decide_eq_true (by rw [← hNN]; exact hlt)] at this; exact this)
  generalize Lv.walkF ms (Lv.unt ms) (N + 1) [] (Lv.first (Lv.unt ms) N) = R at *
  have HRi := Lib.hid hring
  have HNN := Lib.hid hNN
  have HFi := Lib.hid hf
  rw [hNN] at hN40
  clear hB hf hlt hring hNN
  go_enter Try.func6, Try.ntmps6
  go_wp2_with (first
    | (go_at_call 10; have hq := hL3; refine (wakes_ok _).mono ?_; rintro e w4 ⟨rfl, hL4⟩)
    | (go_at_call 18; have hq := hL2; refine (HRo.out A1 c1 _ (HN1.out.later hL2)).mono ?_; rintro e w3 ⟨A3, c3, rfl, hI3, hL3⟩)
    | (go_at_call 14; have hq := hL1; refine (HOr.out A1 c1 _ HN1.out).mono ?_; rintro e w2 ⟨v2, rfl, hO2, hL2⟩; obtain ⟨A2, c2, rfl, hI2, _⟩ := hO2.form; clear hO2)
    | (go_at_call 8; refine HBr.out.mono ?_; rintro e w1 ⟨v1, rfl, hO1, hL1⟩; obtain ⟨A1, c1, hv1, hN1, _⟩ := hO1.form; rw [toI_len, HNN.out] at hv1; subst hv1; have HN1 := Lib.hid hN1; clear hO1 hN1))
  have HI4 := Lib.hid (hI3.later hL4)
  have HN4 := Lib.hid (HN1.out.later ((hL2.trans hL3).trans hL4))
  have HL := Lib.hid (((hL1.trans hL2).trans hL3).trans hL4)
  have hRN : R.length ≤ N := by
    have := Lv.pigeon ms.length R HRi.out.nodup HRi.out.lt
    rw [HNN.out] at this
    exact this
  have hR0 := HRi.out.pos
  have hL0 : ((R.length : Int) == 0) = false := by rw [beq_eq_false_iff_ne]; omega
  have HCt := Lib.hid (fun (l : List Int) (x : Int) (A : Option Addr) (c : Nat) (w : World) (h : IntsR w A l) (hn : l.length ≤ 1000) => contains11 l x A c w h (by omega))
  have HIx := Lib.hid (fun (x : Int) (w : World) (h : IntsR w A3 (ints R)) => index30 (ints R) x A3 c3 w h (by rw [ints_len]; omega))
  rw [ints_len] at HIx
  clear hI2 hI3 hL1 hL2 hL3 hL4 HN1 HBr HOr HRo
  go_loopw [8, 9, 52] (fun _ _ j wr => ∃ (i : Nat) (g : Grow), i ≤ R.length ∧ j = .int .i64 i ∧ wr = more w4 g) (fun _ _ j _ => R.length - (intOf j).toNat)
  case atStart => exact ⟨0, ⟨#[], w4.drawn⟩, Nat.zero_le _, rfl, by simp [more]⟩
  case round =>
    obtain ⟨i, g, hi, rfl, rfl⟩ := hrel
    by_cases hiR : i < R.length
    · obtain ⟨b1, o1, rfl, hb1, hc1⟩ := HI4.out.at_ hiR
      obtain ⟨x, hx⟩ : ∃ x, R.getD i 0 = x := ⟨_, rfl⟩
      rw [hx] at hc1
      have hxR : x ∈ R := by rw [← hx, List.getD_eq_getElem?_getD, List.getElem?_eq_getElem hiR]; exact List.getElem_mem _
      have hxN : x < N := by have := HRi.out.lt x hxR; rw [HNN.out] at this; exact this
      obtain ⟨b3, o3, Ai, ci, rfl, hb3, hc3, hI3⟩ := HN4.out.at_ (i := x) (by rw [HNN.out]; exact hxN)
      have hri := HFi.out.2.1 x
      obtain ⟨q, hq⟩ : ∃ q, (i + 1) % R.length = q := ⟨_, rfl⟩
      have hqR : q < R.length := by rw [← hq]; exact Nat.mod_lt _ hR0
      have hmod : ((i : Int) + 1) % (R.length : Int) = ((q : Nat) : Int) := by rw [← hq]; rfl
      have hturn := HRi.out.turn i hiR
      rw [hq, hx] at hturn
      obtain ⟨b2, o2, hA2, hb2, hc2⟩ := HI4.out.at_ hqR
      obtain ⟨rfl, rfl⟩ : b1 = b2 ∧ o1 = o2 := by injection hA2 with e; injection e with e1 e2 _; exact ⟨e1, e2⟩
      obtain ⟨y, hy⟩ : ∃ y, R.getD q 0 = y := ⟨_, rfl⟩
      rw [hy] at hc2 hturn
      obtain ⟨ro, hro⟩ : ∃ ro, Lv.row ms x = ro := ⟨_, rfl⟩
      rw [hro] at hc3 hI3 hri hturn
      have hin : ((y : Nat) : Int) ∈ ints ro := List.mem_map.2 ⟨y, hturn, rfl⟩
      have HC := Lib.hid (fun w h => by have := HCt.out (ints ro) ((y : Nat) : Int) Ai ci w h (by rw [ints_len]; exact hri); rw [ints_len, decide_eq_true hin] at this; exact this)
      have HX := Lib.hid (fun w h => by have := HIx.out ((x : Nat) : Int) w h; rw [← hx, Lv.ring_idx HRi.out.nodup hiR, hx] at this; exact this)
      have HI3 := Lib.hid hI3
      clear hx hxR hq hturn hA2 hy hro hin hI3
      go_wp2_with fail
      refine wp_region_more (by kernel_rfl) (by kernel_rfl) ?_
      repeat (go_big_quiet_step (first | (go_at_call 11; exact quiet_of (HC.out _ (HI3.out.later ((Later.refl _).more _)))) | (go_at_call 30; exact quiet_of (HX.out _ (HI4.out.later ((Later.refl _).more _))))))
      refine wpQuiet_nil ?_
      rintro _ ⟨g2, rfl⟩
      go_wp2_with fail
      go_roundw
      case rel => exact ⟨i + 1, _, by omega, by go_num, rfl⟩
      case measure => simp [intOf]; omega
    · obtain rfl : R.length = i := by omega
      go_wp2_with fail
      go_ret
      exact Ret.mk (HL.out.trans ((Later.refl _).more _))
theorem told_all {ms : List (List Nat)} (h : ¬ (Lv.told ms).length < ms.length) : (Lv.told ms).length = ms.length ∧ ∀ k, k < ms.length → k ∈ Lv.told ms := by
  have hg := Lv.told_good ms
  have hl := hg.le
  refine ⟨by omega, fun k hk => ?_⟩
  apply Classical.byContradiction
  intro hn
  have := Lv.pigeon ms.length (Lv.told ms ++ [k]) (by
    rw [List.nodup_append]
    exact ⟨hg.nodup, by simp, fun a ha b hb => by simp at hb; subst hb; exact fun e => hn (e ▸ ha)⟩) (fun x hx => by
    rcases List.mem_append.1 hx with hx | hx
    · exact hg.lt x hx
    · simp at hx; omega)
  rw [List.length_append] at this
  simp at this
  omega
set_option maxRecDepth 100000 in
set_option maxHeartbeats 8000000 in
theorem order_walk2 (rs : List (List Nat)) (ms : List (List Nat)) (A : Option Addr) (c : Nat) (w : World) (hB : Calls Try.prog 8 #[.slice A rs.length c] w (RetNN w (toI ms))) (hf : Lv.Fine ms) (hlt : ¬ (Lv.told ms).length < ms.length) :
    Calls Try.prog 6 #[.slice A rs.length c] w (Ret w (.bool true)) := by
  obtain ⟨i3, hi3, hz3, hs3, hy3⟩ := info_parts (P := Try.prog) (e := 3) (z := .int .i64 0) (size := 1) (bytes := 8) info3
  have HBr := Lib.hid hB
  obtain ⟨N, hNN⟩ : ∃ N, ms.length = N := ⟨_, rfl⟩
  have hN40 := hf.1
  obtain ⟨hTN, hTa⟩ := told_all hlt
  have HTg := Lib.hid (Lv.told_good ms)
  have HTn := Lib.hid (fun x k h1 h2 => Lv.pos_need (ns := ms) (x := x) (k := k) h1 h2)
  have HTl := Lib.hid (fun x s h1 h2 h3 h4 => Lv.told_least (ns := ms) (x := x) (s := s) h1 h2 h3 h4)
  have HOr := Lib.hid (fun A c w h => by have := order_ms hf hNN A c w h; rw [if_neg (by rw [← hNN]; exact hlt), if_neg (by rw [← hNN]; exact hlt)] at this; exact this)
  have HRo := Lib.hid (fun A c w h => by have := round_ms hf hNN A c w h; rw [if_neg (by rw [← hNN]; exact hlt), decide_eq_false (by rw [← hNN]; exact hlt)] at this; exact this)
  generalize Lv.told ms = T at *
  have HNN := Lib.hid hNN
  have HFi := Lib.hid hf
  rw [hNN] at hN40 hTN hTa
  have HTa := Lib.hid hTa
  have HTN := Lib.hid hTN
  clear hB hf hlt hNN hTa hTN
  go_enter Try.func6, Try.ntmps6
  go_wp2_with (first
    | (at_make; have hq := hL4; refine wpList_make_full _ rfl _ _ 26 rfl w4.heap.size 3 i3 (.int .i64 0) 1 Try.underlying26 hi3 hz3 hs3 .i64 .i64 _ _ N rfl rfl rfl rfl (by rw [hy3]; omega) (by unfold maxLen; omega) (Nat.le_refl _) ?_; intro w5 hown5 hgrow5)
    | (go_at_call 10; have hq := hL3; refine (wakes_ok _).mono ?_; rintro e w4 ⟨rfl, hL4⟩)
    | (go_at_call 18; have hq := hL2; refine (HRo.out A1 c1 _ (HN1.out.later hL2)).mono ?_; rintro e w3 ⟨A3, c3, rfl, hI3, hL3⟩)
    | (go_at_call 14; have hq := hL1; refine (HOr.out A1 c1 _ HN1.out).mono ?_; rintro e w2 ⟨v2, rfl, hO2, hL2⟩; obtain ⟨A2, c2, hv2, hc2, hI2, _, _⟩ := hO2.int.form; rw [ints_len, HTN.out] at hv2 hc2; subst hv2; clear hO2)
    | (go_at_call 8; refine HBr.out.mono ?_; rintro e w1 ⟨v1, rfl, hO1, hL1⟩; obtain ⟨A1, c1, hv1, hN1, _⟩ := hO1.form; rw [toI_len, HNN.out] at hv1; subst hv1; have HN1 := Lib.hid hN1; clear hO1 hN1))
  have hR5 : Rw w5 w4.heap.size w4.heap.size N N (fun _ => 0) := Rw.of_owns hown5 (made_get _ rfl N)
  have l45 : Later w4 w5 := Later.of_below ⟨hgrow5.os, hgrow5.tape, hgrow5.output, hgrow5.size, fun k hk => hgrow5.block k hk (by simp)⟩
  have HR5 := Lib.hid hR5
  have HL45 := Lib.hid l45
  have HI4 := Lib.hid (hI2.later (hL3.trans hL4))
  have HN4 := Lib.hid (HN1.out.later ((hL2.trans hL3).trans hL4))
  have HLw := Lib.hid (((hL1.trans hL2).trans hL3).trans hL4)
  obtain ⟨G, hGG⟩ : ∃ G, w4.heap.size = G := ⟨_, rfl⟩
  rw [hGG] at HR5 ⊢
  have hG4 : w4.heap.size ≤ G := by omega
  have HG4 := Lib.hid hG4
  clear hown5 hgrow5 hR5 l45 hI2 hI3 hL1 hL2 hL3 hL4 hGG hG4 HN1 HBr HOr HRo
  go_loopw [11, 102] (fun _ j wr => ∃ i : Nat, i ≤ N ∧ j = .int .i64 i ∧ Hid (Rw wr G G N N fun k => if k < i then -1 else 0) ∧ Hid (Later w4 wr)) (fun _ j _ => N - (intOf j).toNat)
  case atStart => exact ⟨0, Nat.zero_le _, rfl, Lib.hid (HR5.out.congr (fun k hk => by simp)), HL45⟩
  case round =>
    obtain ⟨i, hi, rfl, hR, hL⟩ := hrel
    by_cases hiN : i < N
    · have hc := hR.out.cell hiN
      have hf := hR.out.free i
      have hlt := hR.out.lt
      have HRn := Lib.hid ((hR.out.set hiN (-1)).congr (h' := fun k => if k < i + 1 then -1 else 0) (fun k hk => by
        by_cases e : k = i
        · rw [if_pos e, if_pos (by omega)]
        · rw [if_neg e]
          by_cases e2 : k < i
          · rw [if_pos e2, if_pos (by omega)]
          · rw [if_neg e2, if_neg (by omega)]))
      have HLn := Lib.hid (hL.out.setCell (p := ⟨G, i, none⟩) HG4.out (.int .i64 (-1)))
      simp only [Nat.lt_irrefl, if_false] at hc
      go_wp2_with fail
      go_roundw
      case rel => exact ⟨i + 1, by omega, by go_num, HRn, HLn⟩
      case measure => simp [intOf]; omega
    · obtain rfl : N = i := by omega
      have HRc := Lib.hid (hR.out.congr (h' := fun k => if Lv.pos T k < 0 then (Lv.pos T k : Int) else -1) (fun k hk => by rw [if_pos hk, if_neg (by omega)]))
      have hTN := HTN.out
      clear hR
      go_wp2_with fail
      go_loopw [12, 13, 111] (fun _ _ j wr => ∃ i : Nat, i ≤ N ∧ j = .int .i64 i ∧ Hid (Rw wr G G N N fun k => if Lv.pos T k < i then (Lv.pos T k : Int) else -1) ∧ Hid (Later w4 wr)) (fun _ _ j _ => N - (intOf j).toNat)
      case atStart => exact ⟨0, Nat.zero_le _, rfl, HRc, hL⟩
      case round =>
        obtain ⟨i, hi, rfl, hR, hL⟩ := hrel
        by_cases hiN : i < N
        · obtain ⟨b2, o2, rfl, hb2, hcx⟩ := (HI4.out.later hL.out).at_ (p := i) (by omega)
          obtain ⟨x, hx⟩ : ∃ x, T.getD i 0 = x := ⟨_, rfl⟩
          rw [hx] at hcx
          have hxT : x ∈ T := by rw [← hx, List.getD_eq_getElem?_getD, List.getElem?_eq_getElem (by omega)]; exact List.getElem_mem _
          have hxN : x < N := by have := HTg.out.lt x hxT; rw [HNN.out] at this; exact this
          have hpx : Lv.pos T x = i := Lv.pos_of HTg.out.nodup (by omega) hx
          have hc := hR.out.cell hxN
          have hf := hR.out.free x
          have hlt := hR.out.lt
          have hxi : ∀ k, k < N → Lv.pos T k = i → k = x := fun k hk e => by
            have := Lv.pos_get (HTa.out k hk)
            rw [e, hx] at this
            exact this.symm
          have HRn := Lib.hid ((hR.out.set hxN (i : Nat)).congr (h' := fun k => if Lv.pos T k < i + 1 then (Lv.pos T k : Int) else -1) (fun k hk => by
            by_cases e : k = x
            · subst e; rw [if_pos rfl, if_pos (by omega), hpx]
            · rw [if_neg e]
              by_cases e2 : Lv.pos T k < i
              · rw [if_pos e2, if_pos (by omega)]
              · rw [if_neg e2, if_neg (fun h => e (hxi k hk (by omega)))]))
          have HLn := Lib.hid (hL.out.setCell (p := ⟨G, x, none⟩) HG4.out (.int .i64 (i : Nat)))
          simp only [hpx, Nat.lt_irrefl, if_false] at hc
          clear hx hxT hpx hxi
          go_wp2_with fail
          go_roundw
          case rel => exact ⟨i + 1, by omega, by go_num, HRn, HLn⟩
          case measure => simp [intOf]; omega
        · obtain rfl : N = i := by omega
          have HRc := Lib.hid (hR.out.congr (h' := fun k => (Lv.pos T k : Int)) (fun k hk => by
            have := Lv.pos_lt (HTa.out k hk)
            rw [if_pos (by omega)]))
          have HI6 := Lib.hid (HI4.out.later hL.out)
          have HN6 := Lib.hid (HN4.out.later hL.out)
          have HLw6 := Lib.hid (HLw.out.trans hL.out)
          obtain ⟨w6, hw6⟩ : ∃ w6, w6 = wr := ⟨_, rfl⟩
          subst hw6
          clear hR hL HI4 HN4 HLw
          go_wp2_with fail
          go_loopw [14, 15, 16, 18, 20, 138] (fun _ _ _ _ _ j wr => ∃ (i : Nat) (g : Grow), i ≤ N ∧ j = .int .i64 i ∧ wr = more w6 g) (fun _ _ _ _ _ j _ => N - (intOf j).toNat)
          case atStart => exact ⟨0, ⟨#[], w6.drawn⟩, Nat.zero_le _, rfl, by simp [more]⟩
          case round =>
            obtain ⟨x, g, hx, rfl, rfl⟩ := hrel
            by_cases hxN : x < N
            · obtain ⟨b3, o3, Ai, ci, rfl, hb3, hc3, hI3⟩ := HN6.out.at_ (i := x) (by rw [HNN.out]; exact hxN)
              obtain ⟨b2, o2, rfl, hb2, _⟩ := HI6.out.at_ (p := 0) (by omega)
              have HI3 := Lib.hid hI3
              have hri := HFi.out.2.1 x
              have HLi := Lib.hid (HFi.out.2.2 x)
              have HNx := Lib.hid (fun k h => HTn.out x k (HTa.out x hxN) h)
              have HLx := Lib.hid (fun s h1 h2 => HTl.out x s (by rw [HNN.out]; exact hxN) (HTa.out x hxN) h1 h2)
              have hpl := Lv.pos_lt (HTa.out x hxN)
              have hcx := HRc.out.cell hxN
              have hGl := HRc.out.lt
              obtain ⟨px, hpx⟩ : ∃ px, Lv.pos T x = px := ⟨_, rfl⟩
              rw [hpx] at HNx HLx hpl hcx
              obtain ⟨ro, hro⟩ : ∃ ro, Lv.row ms x = ro := ⟨_, rfl⟩
              rw [hro] at hc3 HI3 hri HLi HNx HLx
              clear hpx hro hI3
              go_wp2_with fail
              go_loopw [16, 18, 145] (fun so _ j wr => ∃ (q s : Nat) (g : Grow), q ≤ ro.length ∧ so = .int .i64 s ∧ j = .int .i64 q ∧ s ≤ px ∧ Hid (∀ j, j < q → Lv.pos T (ro.getD j 0) < s) ∧ wr = more w6 g) (fun _ _ j _ => ro.length - (intOf j).toNat)
              case atStart => exact ⟨0, 0, g, Nat.zero_le _, rfl, rfl, Nat.zero_le _, Lib.hid (fun j hj => by omega), rfl⟩
              case round =>
                obtain ⟨q, s, g, hq, rfl, rfl, hs, hS, rfl⟩ := hrel
                by_cases hql : q < ro.length
                · obtain ⟨b7, o7, rfl, hb7, hc7⟩ := HI3.out.at_ hql
                  obtain ⟨k, hk⟩ : ∃ k, ro.getD q 0 = k := ⟨_, rfl⟩
                  have hkm : k ∈ ro := by rw [← hk, List.getD_eq_getElem?_getD, List.getElem?_eq_getElem hql]; exact List.getElem_mem _
                  have hkN : k < N := by have := HLi.out k hkm; rw [HNN.out] at this; exact this
                  rw [hk] at hc7
                  have hpk := (HNx.out k hkm).2
                  have hck := HRc.out.cell hkN
                  obtain ⟨pk, hpke⟩ : ∃ pk, Lv.pos T k = pk := ⟨_, rfl⟩
                  rw [hpke] at hpk hck
                  obtain ⟨s2, hs2⟩ : ∃ s2, max s (pk + 1) = s2 := ⟨_, rfl⟩
                  have HSn : Hid (∀ j, j < q + 1 → Lv.pos T (ro.getD j 0) < s2) := Lib.hid (fun j hj => by
                    by_cases e : j = q
                    · rw [e, hk, hpke]; omega
                    · have := hS.out j (by omega); omega)
                  have hs2p : s2 ≤ px := by omega
                  have Hs2 := Lib.hid hs2
                  clear hk hkm hpke hs2
                  go_wp2_with fail
                  refine wp_region_more (by kernel_rfl) (by kernel_rfl) ?_
                  repeat (go_big_quiet_step (fail))
                  refine wpQuiet_nil ?_
                  rintro _ ⟨g2, rfl⟩
                  go_wp2_with fail
                  go_roundw
                  case rel => exact ⟨q + 1, s2, _, by omega, by have := Hs2.out; congr 1; omega, by go_num, hs2p, HSn, rfl⟩
                  case measure => simp [intOf]; omega
                · obtain rfl : q = ro.length := by omega
                  have HSa : Hid (∀ k ∈ ro, Lv.pos T k < s) := Lib.hid (fun k hk => by
                    obtain ⟨j, hj, rfl⟩ := List.mem_iff_getElem.1 hk
                    have := hS.out j hj
                    rwa [List.getD_eq_getElem?_getD, List.getElem?_eq_getElem hj] at this)
                  have hsc : s < c2 := by omega
                  have hpc : px ≤ c2 := by omega
                  obtain ⟨n, hn⟩ : ∃ n, px - s = n := ⟨_, rfl⟩
                  have hsub : ((px : Int) - (s : Int)) = (n : Int) := by omega
                  clear hS
                  go_wp2_with fail
                  go_loopw [20, 174] (fun _ j wr => ∃ (q : Nat) (g : Grow), q ≤ n ∧ j = .int .i64 q ∧ wr = more w6 g) (fun _ j _ => n - (intOf j).toNat)
                  case atStart => exact ⟨0, g, Nat.zero_le _, rfl, rfl⟩
                  case round =>
                    obtain ⟨q, g, hq, rfl, rfl⟩ := hrel
                    by_cases hqn : q < n
                    · obtain ⟨b8, o8, hA8, hb8, hc8⟩ := HI6.out.at_ (p := s + q) (by omega)
                      obtain ⟨rfl, rfl⟩ : b2 = b8 ∧ o2 = o8 := by injection hA8 with e; injection e with e1 e2 _; exact ⟨e1, e2⟩
                      have hle : T.getD (s + q) 0 ≤ x := HLx.out (s + q) (by omega) (fun k hk => by have := HSa.out k hk; omega)
                      obtain ⟨ot, hot⟩ : ∃ ot, T.getD (s + q) 0 = ot := ⟨_, rfl⟩
                      rw [hot] at hle hc8
                      rw [← Nat.add_assoc] at hc8
                      clear hA8 hot
                      go_wp2_with fail
                      go_roundw
                      case rel => exact ⟨q + 1, _, by omega, by go_num, rfl⟩
                      case measure => simp [intOf]; omega
                    · obtain rfl : q = n := by omega
                      go_wp2_with fail
                      go_roundw
                      case rel => exact ⟨x + 1, _, by omega, by go_num, rfl⟩
                      case measure => simp [intOf]; omega
            · obtain rfl : N = x := by omega
              go_wp2_with fail
              go_ret
              exact Ret.mk (HLw6.out.trans ((Later.refl _).more _))
theorem order_walk (rs : List (List Nat)) (A : Option Addr) (c : Nat) (w : World) (hR : RowsB w A rs) (hn : rs.length ≤ c) (hc : c ≤ 9223372036854775807) : Calls Try.prog 6 #[.slice A rs.length c] w (Ret w (.bool true)) := by
  have hB := brought_any rs A c w hR hn hc
  have hf := Lv.bro_fine rs
  by_cases hlt : (Lv.told (Lv.bro rs)).length < (Lv.bro rs).length
  · exact order_walk1 rs _ A c w hB hf hlt
  · exact order_walk2 rs _ A c w hB hf hlt
end Go.Proofs.Ytbdhjoanjlkggaa
