/-
  No statement of the seat is proved here. The walk of LevelReach.
-/
import Derived.Test.YtbdhjoanjlkggaaRPl
import Derived.Outline
namespace Go.Proofs.Ytbdhjoanjlkggaa
open Go Go.RowKit
set_option linter.unusedVariables false
set_option maxRecDepth 100000 in
set_option maxHeartbeats 8000000 in
theorem reach_walk (rs : List (List Nat)) (fr : List Nat) (A F : Option Addr) (c cf : Nat) (w : World) (hR : RowsB w A rs) (hn : rs.length ≤ c) (hc : c ≤ 9223372036854775807)
    (hF : BytesR w F fr) (hfn : fr.length ≤ cf) (hfc : cf ≤ 9223372036854775807) : Calls Try.prog 3 #[.slice A rs.length c, .slice F fr.length cf] w (Ret w (.bool true)) := by
  obtain ⟨i4, hi4, hz4, hs4, hy4⟩ := info_parts (P := Try.prog) (e := 4) (z := .bool false) (size := 1) (bytes := 1) info4
  obtain ⟨i3, hi3, hz3, hs3, hy3⟩ := info_parts (P := Try.prog) (e := 3) (z := .int .i64 0) (size := 1) (bytes := 8) info3
  have HBr := Lib.hid (brought_any rs A c w hR hn hc)
  have HFi := Lib.hid (Lv.bro_fine rs)
  generalize Lv.bro rs = ms at *
  have HF := Lib.hid hF
  clear hR hF
  have hN40 := HFi.out.1
  obtain ⟨N, hNN⟩ : ∃ N, ms.length = N := ⟨_, rfl⟩
  have HNN := Lib.hid hNN
  rw [hNN] at hN40
  clear hNN
  go_enter Try.func3, Try.ntmps3
  go_wp2_with (first
    | (go_at_call 8; refine HBr.out.mono ?_; rintro e w1 ⟨v1, rfl, hO1, hL1⟩; obtain ⟨A1, c1, hv1, hN1, _⟩ := hO1.form; rw [toI_len, HNN.out] at hv1; subst hv1; have HN1 := Lib.hid hN1; have HL1 := Lib.hid hL1; clear hO1 hN1 hL1))
  go_loopw [6, 7, 8, 27] (fun v _ _ j wr => ∃ p : Nat, p ≤ fr.length ∧ j = .int .i64 p ∧ Hid (OwnL wr w1.heap.size v (Lv.things N (fr.take p))) ∧ Hid (Later w1 wr)) (fun _ _ _ j _ => fr.length - (intOf j).toNat)
  case atStart => exact ⟨0, Nat.zero_le _, rfl, Lib.hid (by rw [show Lv.things N (fr.take 0) = [] by unfold Lv.things; simp]; exact OwnL.nil _ _), Lib.hid (Later.refl _)⟩
  case round =>
    obtain ⟨p, hp, rfl, hO, hL⟩ := hrel
    by_cases hpl : p < fr.length
    · obtain ⟨b2, o2, rfl, hb2, hc2, hx2⟩ := (HF.out.later (HL1.out.trans hL.out)) p hpl
      obtain ⟨x, hx⟩ : ∃ x, fr.getD p 0 = x := ⟨_, rfl⟩
      rw [hx] at hc2 hx2
      have Hx := Lib.hid hx
      clear hx
      by_cases h0 : N = 0
      · subst h0
        have hst := Lv.things_stay (N := 0) (p := p) (fr := fr) (.inr rfl)
        have Hst := Lib.hid hst
        clear hst
        by_cases h10 : p < 10
        · go_wp2_with fail
          go_roundw
          case rel => exact ⟨p + 1, by omega, by go_num, Lib.hid (by rw [Hst.out]; exact hO.out), hL⟩
          case measure => simp [intOf]; omega
        · go_wp2_with fail
          go_roundw
          case rel => exact ⟨p + 1, by omega, by go_num, Lib.hid (by rw [Hst.out]; exact hO.out), hL⟩
          case measure => simp [intOf]; omega
      · by_cases h10 : p < 10
        · have hnext := Lv.things_next (N := N) hpl h10 (by omega) Hx.out
          have hlen := Lv.things_few (N := N) (p := p) (fr := fr) (by omega) (by omega) (by omega)
          obtain ⟨y, hy⟩ : ∃ y, x % N = y := ⟨_, rfl⟩
          have hmod : (x : Int) % (N : Int) = ((y : Nat) : Int) := by rw [← hy]; rfl
          have hN0 : ((N : Int) == 0) = false := by rw [beq_eq_false_iff_ne]; omega
          rw [hy] at hnext
          obtain ⟨l, hl⟩ : ∃ l, Lv.things N (fr.take p) = l := ⟨_, rfl⟩
          rw [hl] at hO hlen hnext
          have Hnext := Lib.hid hnext
          have hr1 : w1.heap.size ≤ wr.heap.size := hL.out.below.size
          obtain ⟨Ap, cp, hv, _, hob⟩ := hO.out.form
          have Hob := Lib.hid hob
          subst hv hlen
          clear hob hl hy hnext
          go_wp2_with (at_builtin; refine wpList_append_own_at _ rfl _ _ 26 rfl w1.heap.size 3 i3 (.int .i64 0) 1 8 Try.underlying26 hi3 hz3 hs3 hy3 rfl (by decide) _ _ _ rfl (World.ownsRow.alloc hO.out _) ⟨wr.heap.size, 0, none⟩ 1 1 [.int .i64 (y : Nat)] rfl rfl (cell_one_new _ _ _) (fun x hx => by simp at hx; subst hx; rfl) (by unfold maxLen; omega) (by omega) (by simp; omega) ?_; intro v' w5 hown5 hgrow5 hnil5 hat5; have HO5 := Lib.hid ((Only.of_later hL.out fun k => w1.heap.size ≤ k).trans (((Only.refl wr fun c => (Value.slice Ap l.length cp).ownBlock = some c).alloc _).trans (Only.grown hgrow5) (fun _ _ h => h)) (fun c _ e => (Hob.out c e).1)); have Hown5 := Lib.hid (OwnL.snoc hown5); clear hown5 hgrow5 hnil5 hat5)
          go_roundw
          case rel => exact ⟨l.length + 1, by omega, by go_num, Lib.hid (by rw [Hnext.out]; exact Hown5.out), Lib.hid HO5.out.later⟩
          case measure => simp [intOf]; omega
        · have hst := Lv.things_stay (N := N) (p := p) (fr := fr) (.inl (by omega))
          have Hst := Lib.hid hst
          clear hst
          go_wp2_with fail
          go_roundw
          case rel => exact ⟨p + 1, by omega, by go_num, Lib.hid (by rw [Hst.out]; exact hO.out), hL⟩
          case measure => simp [intOf]; omega
    · obtain rfl : p = fr.length := by omega
      have HO := Lib.hid (by have := hO.out; rw [Lv.things_all (Nat.le_refl _)] at this; exact this)
      have htl := Lv.things_len N fr
      have HTl := Lib.hid (fun x (h : x ∈ Lv.things N fr) => Lv.things_lt h)
      generalize Lv.things N fr = T at *
      obtain ⟨Ap, cp, hv, _, hIt, hst, _⟩ := HO.out.int.form
      rw [ints_len] at hv
      subst hv
      have HIt := Lib.hid hIt
      have Hst := Lib.hid hst
      have HRch := Lib.hid (fun A F c cf fr w => reach_N (fr := fr) HFi.out HNN.out A F c cf w)
      have HLw := Lib.hid (HL1.out.trans hL.out)
      have HNr := Lib.hid (HN1.out.later hL.out)
      clear hIt hst hO hL
      go_wp2_with (first
        | (at_make; have hq := hL3; refine wpList_make_full _ rfl _ _ 27 rfl w3.heap.size 4 i4 (.bool false) 1 Try.underlying27 hi4 hz4 hs4 .i64 .i64 _ _ N rfl rfl rfl rfl (by rw [hy4]; omega) (by unfold maxLen; omega) (Nat.le_refl _) ?_; intro w4 hown4 hgrow4)
        | (go_at_call 10; have hq := hL2; refine (wakes_ok _).mono ?_; rintro e w3 ⟨rfl, hL3⟩)
        | (go_at_call 9; refine (HRch.out A1 Ap c1 cp T _ HNr.out HIt.out (by omega) HTl.out Hst.out).mono ?_; rintro e w2 ⟨Ai, ci, rfl, hI2, hL2, hF2⟩))
      have hBG := BRow.make hown4
      have l34 : Later w3 w4 := Later.of_below ⟨hgrow4.os, hgrow4.tape, hgrow4.output, hgrow4.size, fun k hk => hgrow4.block k hk (by simp)⟩
      have HBG := Lib.hid hBG
      have HL34 := Lib.hid l34
      have HN3 := Lib.hid (HNr.out.later (hL2.trans hL3))
      have HIt3 := Lib.hid (HIt.out.later (hL2.trans hL3))
      have HI3 := Lib.hid (hI2.later hL3)
      have HLw3 := Lib.hid (HLw.out.trans (hL2.trans hL3))
      obtain ⟨G, hGG⟩ : ∃ G, w3.heap.size = G := ⟨_, rfl⟩
      rw [hGG] at HBG ⊢
      have HGG := Lib.hid hGG
      clear hown4 hgrow4 hBG l34 hI2 hL2 hF2 hL3 hGG HO HIt HNr HLw HN1 HL1
      go_loopw [13, 14, 15, 16, 72] (fun _ _ _ _ j wr => ∃ (p : Nat) (tg : Nat → Bool), p ≤ T.length ∧ j = .int .i64 p ∧ Hid (BRow wr G N tg) ∧ Hid (∀ k, tg k = (T.take p).any fun x => Lv.reachB ms [x] k) ∧ Hid (Later w3 wr)) (fun _ _ _ _ j _ => T.length - (intOf j).toNat)
      case atStart => exact ⟨0, _, Nat.zero_le _, rfl, HBG, Lib.hid (fun k => by simp), HL34⟩
      case round =>
        obtain ⟨p, tg, hp, rfl, hB, hT, hL⟩ := hrel
        by_cases hpl : p < T.length
        · obtain ⟨b2, o2, rfl, hb2, hc2⟩ := (HIt3.out.later hL.out).at_ hpl
          obtain ⟨x, hx⟩ : ∃ x, T.getD p 0 = x := ⟨_, rfl⟩
          rw [hx] at hc2
          have hxT : x ∈ T := by rw [← hx, List.getD_eq_getElem?_getD, List.getElem?_eq_getElem hpl]; exact List.getElem_mem _
          have hxN : x < N := HTl.out x hxT
          have Hx := Lib.hid hx
          obtain ⟨bi, oi, rfl, hbi, hci⟩ := bools_at HI3.out hxN
          rw [Lv.reachB_in hxT] at hci
          have HxN := Lib.hid hxN
          have hGlt := hB.out.lt
          clear hx hxT
          go_wp2_with (go_at_call 9; refine (HRch.out A1 (some ⟨wr.heap.size, 0, none⟩) c1 1 [x] _ (HN3.out.later (hL.out.alloc _)) (ints_lit (Later.refl _) rfl rfl) (by simp) (fun y hy => by simp at hy; subst hy; exact HxN.out) (fun a e => by injection e with e; rw [← e])).mono ?_; rintro e w5 ⟨A5, c5, rfl, hI5, hL5, hF5⟩; have hL35 := (hL.out.alloc _).trans hL5; have q5 := (cell_later' (o := oi + x) hL35 hbi).trans hci; have q6 := later_lt hL35 hbi)
          have HB5 := Lib.hid (hB.out.later (((Later.refl _).alloc _).trans hL5))
          have HI5 := Lib.hid hI5
          have HF5 : Hid (∀ b off, A5 = some ⟨b, off, none⟩ → ¬ b = G) := Lib.hid (fun b off e => by have := hF5 b off e; simp only [World.size_alloc] at this; omega)
          have HL35 := Lib.hid hL35
          have hG3 : w3.heap.size ≤ G := by rw [HGG.out]; exact Nat.le_refl _
          clear hI5 hF5 hL35 hL5 q5 q6 hB hL hci
          go_loopw [16, 101] (fun _ j wr => ∃ q : Nat, q ≤ N ∧ j = .int .i64 q ∧ Hid (BRow wr G N fun k => if k < q then tg k || Lv.reachB ms [x] k else tg k) ∧ Hid (Only w5 wr fun b => b = G)) (fun _ j _ => N - (intOf j).toNat)
          case atStart => exact ⟨0, Nat.zero_le _, rfl, Lib.hid (HB5.out.congr (fun k hk => by simp)), Lib.hid (Only.refl _ _)⟩
          case round =>
            obtain ⟨q, hq, rfl, hB, hO⟩ := hrel
            by_cases hqN : q < N
            · obtain ⟨b7, o7, rfl, hb7, hc7⟩ := bools_at (HI5.out.only hO.out HF5.out) hqN
              have hct := hB.out.cell hqN
              simp only [Nat.lt_irrefl, if_false] at hct
              have hf := hB.out.free q
              have hlt := hB.out.lt
              have HBn : ∀ v, v = (tg q || Lv.reachB ms [x] q) → Hid (BRow (wr.setCell ⟨G, q, none⟩ (.bool v)) G N fun k => if k < q + 1 then tg k || Lv.reachB ms [x] k else tg k) := fun v hv => Lib.hid ((hB.out.put hqN v).congr (fun k hk => by
                by_cases e : k = q
                · subst e; rw [if_pos rfl, if_pos (by omega), hv]
                · rw [if_neg e]
                  by_cases e2 : k < q
                  · rw [if_pos e2, if_pos (by omega)]
                  · rw [if_neg e2, if_neg (by omega)]))
              have HOn : ∀ v, Hid (Only w5 (wr.setCell ⟨G, q, none⟩ (.bool v)) fun b => b = G) := fun v => Lib.hid (hO.out.setCell (p := ⟨G, q, none⟩) (.inl rfl) _)
              cases ht : tg q
              · rw [ht] at hct
                cases ho : Lv.reachB ms [x] q
                · rw [ho] at hc7
                  have HB1 := HBn false (by rw [ht, ho]; rfl)
                  have HO1 := HOn false
                  clear HBn HOn ht ho
                  go_wp2_with fail
                  go_roundw
                  case rel => exact ⟨q + 1, by omega, by go_num, HB1, HO1⟩
                  case measure => simp [intOf]; omega
                · rw [ho] at hc7
                  have HB1 := HBn true (by rw [ht, ho]; rfl)
                  have HO1 := HOn true
                  clear HBn HOn ht ho
                  go_wp2_with fail
                  go_roundw
                  case rel => exact ⟨q + 1, by omega, by go_num, HB1, HO1⟩
                  case measure => simp [intOf]; omega
              · rw [ht] at hct
                have HB1 := HBn true (by rw [ht]; rfl)
                have HO1 := HOn true
                clear HBn HOn ht hc7
                go_wp2_with fail
                go_roundw
                case rel => exact ⟨q + 1, by omega, by go_num, HB1, HO1⟩
                case measure => simp [intOf]; omega
            · obtain rfl : q = N := by omega
              have HBe := Lib.hid (hB.out.congr (is' := fun k => tg k || Lv.reachB ms [x] k) (fun k hk => by rw [if_pos hk]))
              have HTe : Hid (∀ k, (tg k || Lv.reachB ms [x] k) = (T.take (p + 1)).any fun y => Lv.reachB ms [y] k) := Lib.hid (fun k => by
                have e : T[p]'hpl = x := by rw [← Hx.out, List.getD_eq_getElem?_getD, List.getElem?_eq_getElem hpl]; rfl
                rw [List.take_succ_eq_append_getElem hpl, List.any_append, e, hT.out k]
                simp)
              have HLe : Hid (Later w3 wr) := Lib.hid (((Only.of_later HL35.out fun k => w3.heap.size ≤ k).trans hO.out (fun b _ e => by omega)).later)
              go_wp2_with fail
              go_roundw
              case rel => exact ⟨p + 1, _, by omega, by go_num, HBe, HTe, HLe⟩
              case measure => simp [intOf]; omega
        · obtain rfl : p = T.length := by omega
          have HBt := Lib.hid (hB.out.congr (is' := Lv.reachB ms T) (fun k hk => by rw [hT.out k, List.take_length, ← Lv.reachB_any]))
          have HI5 := Lib.hid (HI3.out.later hL.out)
          have HIt5 := Lib.hid (HIt3.out.later hL.out)
          have HN5 := Lib.hid (HN3.out.later hL.out)
          have HLw5 := Lib.hid (HLw3.out.trans hL.out)
          obtain ⟨w5, hw5⟩ : ∃ w5, w5 = wr := ⟨_, rfl⟩
          subst hw5
          clear hB hT HI3 HIt3 HN3 HLw3
          go_wp2_with (first
            | (at_make; refine wpList_make_full _ rfl _ _ 27 rfl w5.heap.size 4 i4 (.bool false) 1 Try.underlying27 hi4 hz4 hs4 .i64 .i64 _ _ N rfl rfl rfl rfl (by rw [hy4]; omega) (by unfold maxLen; omega) (Nat.le_refl _) ?_; intro w6 hown6 hgrow6))
          have l56 : Later w5 w6 := Later.of_below ⟨hgrow6.os, hgrow6.tape, hgrow6.output, hgrow6.size, fun k hk => hgrow6.block k hk (by simp)⟩
          have HBH0 := Lib.hid (BRow.make hown6)
          have HL56 := Lib.hid l56
          obtain ⟨H, hHH⟩ : ∃ H, w5.heap.size = H := ⟨_, rfl⟩
          rw [hHH] at HBH0 ⊢
          have HHH := Lib.hid hHH
          clear hown6 hgrow6 l56 hHH
          go_loopw [18, 19, 21, 124] (fun _ _ _ j wr => ∃ i : Nat, i ≤ N ∧ j = .int .i64 i ∧ Hid (BRow wr H N (Lv.ned ms (Lv.reachB ms T) i)) ∧ Hid (Later w5 wr)) (fun _ _ _ j _ => N - (intOf j).toNat)
          case atStart => exact ⟨0, Nat.zero_le _, rfl, Lib.hid (HBH0.out.congr (fun k hk => by simp [Lv.ned])), HL56⟩
          case round =>
            obtain ⟨i, hi, rfl, hB, hL6⟩ := hrel
            by_cases hiN : i < N
            · obtain ⟨b3, o3, Ai', ci', rfl, hb3', hc3', hI3'⟩ := HN5.out.at_ (i := i) (by rw [HNN.out]; exact hiN)
              have hc3 := (cell_later' (o := o3 + i) hL6.out hb3').trans hc3'
              have hb3 := later_lt hL6.out hb3'
              have HI3 := Lib.hid hI3'
              have hri := HFi.out.2.1 i
              have HLi := Lib.hid (HFi.out.2.2 i)
              obtain ⟨ro, hro⟩ : ∃ ro, Lv.row ms i = ro := ⟨_, rfl⟩
              have Hro := Lib.hid hro
              rw [hro] at hc3 HI3 hri HLi
              obtain ⟨bi, oi, rfl, hbi, hci⟩ := bools_at HI5.out hiN
              have Hci := Lib.hid hci
              have HbH : Hid (bi < H) := Lib.hid (by have := HHH.out; omega)
              clear hro hc3' hb3' hI3' hci
              go_wp2_with fail
              go_loopw [21, 131] (fun _ j wr => ∃ q : Nat, q ≤ ro.length ∧ j = .int .i64 q ∧ Hid (BRow wr H N (Lv.nedP ms (Lv.reachB ms T) i q)) ∧ Hid (Later w5 wr)) (fun _ j _ => ro.length - (intOf j).toNat)
              case atStart => exact ⟨0, Nat.zero_le _, rfl, Lib.hid (hB.out.congr (fun k hk => (Lv.nedP_zero _ _ _ _).symm)), hL6⟩
              case round =>
                obtain ⟨q, hq, rfl, hB, hL6⟩ := hrel
                by_cases hql : q < ro.length
                · obtain ⟨b7, o7, rfl, hb7, hc7⟩ := (HI3.out.later hL6.out).at_ hql
                  obtain ⟨k, hk⟩ : ∃ k, ro.getD q 0 = k := ⟨_, rfl⟩
                  have hkm : k ∈ ro := by rw [← hk, List.getD_eq_getElem?_getD, List.getElem?_eq_getElem hql]; exact List.getElem_mem _
                  have hkN : k < N := by have := HLi.out k hkm; rw [HNN.out] at this; exact this
                  rw [hk] at hc7
                  have hbi2 := later_lt hL6.out hbi
                  have hc8 := (cell_later' (o := oi + i) hL6.out hbi).trans Hci.out
                  cases his : Lv.reachB ms T i
                  · rw [his] at hc8
                    have HBn := Lib.hid (hB.out.congr (is' := Lv.nedP ms (Lv.reachB ms T) i (q + 1)) (fun k hk => (Lv.nedP_no his k).symm))
                    clear his hk hkm
                    go_wp2_with fail
                    go_roundw
                    case rel => exact ⟨q + 1, by omega, by go_num, HBn, hL6⟩
                    case measure => simp [intOf]; omega
                  · rw [his] at hc8
                    have hf := hB.out.free k
                    have hlt := hB.out.lt
                    have HBn := Lib.hid ((hB.out.put hkN true).congr (is' := Lv.nedP ms (Lv.reachB ms T) i (q + 1)) (fun j hj => Lv.nedP_yes his (by rw [Hro.out]; exact hql) (by rw [Hro.out]; exact hk) j))
                    have hHle : w5.heap.size ≤ H := by rw [HHH.out]; exact Nat.le_refl _
                    have HLn := Lib.hid (hL6.out.setCell (p := ⟨H, k, none⟩) hHle (.bool true))
                    obtain ⟨bk, ok, hbk, _, hck⟩ := bools_at HI5.out hkN
                    obtain ⟨rfl, rfl⟩ : bi = bk ∧ oi = ok := by injection hbk with e; injection e with e1 e2 _; exact ⟨e1, e2⟩
                    rw [Lv.reachB_step his (by rw [Hro.out]; exact hkm)] at hck
                    have hcs : (wr.setCell ⟨H, k, none⟩ (.bool true)).cell? ⟨bi, oi + k, none⟩ = some (.bool true) := (cell_later' HLn.out hbi).trans hck
                    have hct := hB.out.cell hkN
                    have hck2 := (cell_later' (o := oi + k) hL6.out hbi).trans hck
                    have hne : H ≠ bi := by have := HbH.out; omega
                    have hne2 : bi ≠ H := by have := HbH.out; omega
                    clear his hk hkm hbk hHle hck
                    go_wp2_with fail
                    go_roundw
                    case rel => exact ⟨q + 1, by omega, by go_num, HBn, HLn⟩
                    case measure => simp [intOf]; omega
                · obtain rfl : q = ro.length := by omega
                  have HBe := Lib.hid (hB.out.congr (is' := Lv.ned ms (Lv.reachB ms T) (i + 1)) (fun k hk => by rw [← Hro.out]; exact Lv.nedP_all _ _ _ _))
                  go_wp2_with fail
                  go_roundw
                  case rel => exact ⟨i + 1, by omega, by go_num, HBe, hL6⟩
                  case measure => simp [intOf]; omega
            · obtain rfl : N = i := by omega
              have HBG6 := Lib.hid (HBt.out.later hL6.out)
              have HI6 := Lib.hid (HI5.out.later hL6.out)
              have HIt6 := Lib.hid (HIt5.out.later hL6.out)
              have HLw6 := Lib.hid (HLw5.out.trans hL6.out)
              have HB6 := hB
              obtain ⟨w7, hw7⟩ : ∃ w7, w7 = wr := ⟨_, rfl⟩
              subst hw7
              clear hL6 HI5 HIt5 HN5 hL HBt HL56 HBH0 HL34 HBG HRch
              go_wp2_with fail
              have HCt := Lib.hid (fun (x : Int) (w : World) (h : IntsR w Ap (ints T)) => contains11 (ints T) x Ap cp w h (by rw [ints_len]; omega))
              rw [ints_len] at HCt
              go_loopw [22, 151] (fun _ j wr => ∃ (i : Nat) (g : Grow), i ≤ N ∧ j = .int .i64 i ∧ wr = more w7 g) (fun _ j _ => N - (intOf j).toNat)
              case atStart => exact ⟨0, ⟨#[], w7.drawn⟩, Nat.zero_le _, rfl, by simp [more]⟩
              case round =>
                obtain ⟨i, g, hi, rfl, rfl⟩ := hrel
                by_cases hiN : i < N
                · obtain ⟨bi, oi, rfl, hbi, hci⟩ := bools_at HI6.out hiN
                  have hc1 := HBG6.out.cell hiN
                  have hl1 := HBG6.out.lt
                  have hc2 := HB6.out.cell hiN
                  have hl2 := HB6.out.lt
                  cases hr : Lv.reachB ms T i
                  · rw [hr] at hci hc1
                    clear hr hc2
                    go_wp2_with fail
                    refine wp_region_more (by kernel_rfl) (by kernel_rfl) ?_
                    repeat (go_big_quiet_step (fail))
                    refine wpQuiet_nil ?_
                    rintro _ ⟨g2, rfl⟩
                    go_wp2_with fail
                    go_roundw
                    case rel => exact ⟨i + 1, _, by omega, by go_num, rfl⟩
                    case measure => simp [intOf]; omega
                  · rw [hr] at hci hc1
                    cases hnd : Lv.ned ms (Lv.reachB ms T) N i
                    · rw [hnd] at hc2
                      have hin : ((i : Nat) : Int) ∈ ints T := by
                        rcases Lv.reachB_out hr with h | ⟨j, hj, hk⟩
                        · exact List.mem_map.2 ⟨i, h, rfl⟩
                        · have := Lv.ned_of (N := N) hj hk (by rw [← HNN.out]; exact row_mem hk)
                          rw [hnd] at this; cases this
                      have HC := Lib.hid (fun w h => by have := HCt.out ((i : Nat) : Int) w h; rw [decide_eq_true hin] at this; exact this)
                      have HI7 := HIt6
                      clear hr hnd hin
                      go_wp2_with fail
                      refine wp_region_more (by kernel_rfl) (by kernel_rfl) ?_
                      repeat (go_big_quiet_step ((go_at_call 11; exact quiet_of (HC.out _ (HI7.out.later ((Later.refl _).more _))))))
                      refine wpQuiet_nil ?_
                      rintro _ ⟨g2, rfl⟩
                      go_wp2_with fail
                      go_roundw
                      case rel => exact ⟨i + 1, _, by omega, by go_num, rfl⟩
                      case measure => simp [intOf]; omega
                    · rw [hnd] at hc2
                      clear hr hnd
                      go_wp2_with fail
                      refine wp_region_more (by kernel_rfl) (by kernel_rfl) ?_
                      repeat (go_big_quiet_step (fail))
                      refine wpQuiet_nil ?_
                      rintro _ ⟨g2, rfl⟩
                      go_wp2_with fail
                      go_roundw
                      case rel => exact ⟨i + 1, _, by omega, by go_num, rfl⟩
                      case measure => simp [intOf]; omega
                · obtain rfl : N = i := by omega
                  go_wp2_with fail
                  go_ret
                  exact Ret.mk (HLw6.out.trans ((Later.refl _).more _))
end Go.Proofs.Ytbdhjoanjlkggaa
