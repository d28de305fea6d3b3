/-
  No statement of the seat is proved here. Contract of the document's Reach.
-/
import Derived.Test.YtbdhjoanjlkggaaRRd
namespace Go.Proofs.Ytbdhjoanjlkggaa
open Go Go.RowKit
set_option linter.unusedVariables false
namespace Lv
def falses (N : Nat) (is : Nat → Bool) : Nat := (List.range N).countP fun k => !is k
theorem falses_upd {N i : Nat} {is : Nat → Bool} (hi : is i = false) (hN : i < N) : falses N (fun k => if k = i then true else is k) < falses N is := by
  have h1 := countP_upd is i hi N
  rw [if_pos hN] at h1
  have h2 := countP_not is N
  have h3 : (List.range N).countP (fun k => !(if k = i then true else is k)) + (List.range N).countP (fun k => if k = i then true else is k) = N := countP_not (fun k => if k = i then true else is k) N
  show (List.range N).countP (fun k => !(if k = i then true else is k)) < (List.range N).countP (fun k => !is k)
  omega
/-- All is closed but what is behind row i, and behind place q of row i. -/
def Shut (ms : List (List Nat)) (is : Nat → Bool) (i q : Nat) : Prop :=
  (∀ j, j < i → is j = true → ∀ k ∈ row ms j, is k = true) ∧ (is i = true → ∀ k ∈ (row ms i).take q, is k = true)
theorem Shut.zero (ms : List (List Nat)) (is : Nat → Bool) : Shut ms is 0 0 := ⟨fun j hj => by omega, fun _ k hk => by simp at hk⟩
theorem Shut.next {ms : List (List Nat)} {is : Nat → Bool} {i q k : Nat} (h : Shut ms is i q) (hq : q < (row ms i).length) (hk : (row ms i).getD q 0 = k) (hc : is i = true → is k = true) : Shut ms is i (q + 1) := by
  refine ⟨h.1, fun hi x hx => ?_⟩
  have e : (row ms i)[q] = k := by rw [← hk, List.getD_eq_getElem?_getD, List.getElem?_eq_getElem hq]; rfl
  rw [List.take_succ_eq_append_getElem hq, e] at hx
  rcases List.mem_append.1 hx with hx | hx
  · exact h.2 hi x hx
  · simp at hx; subst hx; exact hc hi
theorem Shut.down {ms : List (List Nat)} {is : Nat → Bool} {i : Nat} (h : Shut ms is i (row ms i).length) : Shut ms is (i + 1) 0 := by
  refine ⟨fun j hj hi k hk => ?_, fun _ k hk => by simp at hk⟩
  by_cases e : j = i
  · subst e; exact h.2 hi k (by rw [List.take_length]; exact hk)
  · exact h.1 j (by omega) hi k hk
theorem reach_done {ms : List (List Nat)} {fr : List Nat} {is : Nat → Bool} (h1 : ∀ x ∈ fr, is x = true) (h2 : ∀ k, k < ms.length → is k = true → Rch ms fr k) (hf : ∀ x ∈ fr, x < ms.length) (hlt : ∀ i, ∀ k ∈ row ms i, k < ms.length)
    (h3 : ∀ j, j < ms.length → is j = true → ∀ k ∈ row ms j, is k = true) : reachL ms fr = (List.range ms.length).map is := by
  unfold reachL
  apply List.map_congr_left
  intro k hk
  have hk := List.mem_range.1 hk
  have hr : ∀ k, Rch ms fr k → k < ms.length ∧ is k = true := by
    intro k hr
    induction hr with
    | base hx => exact ⟨hf _ hx, h1 _ hx⟩
    | step _ hk ih => exact ⟨hlt _ _ hk, h3 _ ih.1 ih.2 _ hk⟩
  cases h : is k
  · cases hb : reachB ms fr k
    · rfl
    · have := (hr k (reachB_iff.1 hb)).2
      rw [h] at this; cases this
  · exact reachB_iff.2 (h2 k hk h)
/-- What the document's Reach answers. -/
noncomputable def reachV (ns : List (List Int)) (fr : List Int) : List Bool := if mayB ns = true ∧ fr.all (inB ns.length) = true then reachL (nat ns) (fr.map Int.toNat) else []
def reachE (ns : List (List Int)) (fr : List Int) : Int := if mayB ns = true ∧ fr.all (inB ns.length) = true then 0 else 1
end Lv
def flagOf : Value → Nat
  | .bool true => 1
  | _ => 0
theorem refreach_bad (ns : List (List Int)) (fr : List Int) (A F : Option Addr) (c cf : Nat) (w : World) (hN : NeedsR w A ns) (hn : ns.length ≤ 1000) (hr : ∀ i, (ns.getD i []).length ≤ 1000) (hm : Lv.mayB ns = false) :
    Calls Try.prog 20 #[.slice A ns.length c, .slice F fr.length cf] w (RetBE w [] 1) := by
  have HN := Lib.hid hN
  have HM := Lib.hid (fun w' h => refmay_is hm A c w' h hn hr)
  clear hN
  go_enter Try.func20, Try.ntmps20
  go_wp2_with (go_at_call 27; refine (HM.out _ HN.out).mono ?_; rintro e w' ⟨rfl, g, rfl⟩)
  go_ret2
  exact ⟨none, 0, rfl, fun p hp => absurd hp (by simp), (Later.refl _).more _⟩
set_option maxRecDepth 100000 in
set_option maxHeartbeats 8000000 in
theorem refreach_core (ms : List (List Nat)) (fr : List Int) (A F : Option Addr) (c cf : Nat) (w : World) (hN : NeedsR w A (toI ms)) (hf : Lv.Fine ms) (hF : IntsR w F fr) (hfl : fr.length ≤ 1000)
    (hM : ∀ w', NeedsR w' A (toI ms) → Calls Try.prog 27 #[.slice A ms.length c] w' (Ret w' (.bool true))) :
    Calls Try.prog 20 #[.slice A ms.length c, .slice F fr.length cf] w (RetBE w (if fr.all (Lv.inB ms.length) = true then Lv.reachL ms (fr.map Int.toNat) else []) (if fr.all (Lv.inB ms.length) = true then 0 else 1)) := by
  obtain ⟨i4, hi4, hz4, hs4, hy4⟩ := info_parts (P := Try.prog) (e := 4) (z := .bool false) (size := 1) (bytes := 1) info4
  have HN := Lib.hid hN
  have HFi := Lib.hid hf
  have HF := Lib.hid hF
  have HM := Lib.hid hM
  have hN40 := hf.1
  obtain ⟨R, hRR⟩ : ∃ R, RetBE w (if fr.all (Lv.inB ms.length) = true then Lv.reachL ms (fr.map Int.toNat) else []) (if fr.all (Lv.inB ms.length) = true then 0 else 1) = R := ⟨_, rfl⟩
  rw [hRR]
  have HRR := Lib.hid hRR
  clear hN hf hF hM hRR
  obtain ⟨N, hNN⟩ : ∃ N, ms.length = N := ⟨_, rfl⟩
  have HNN := Lib.hid hNN
  rw [hNN] at hN40 HM HRR ⊢
  clear hNN
  go_enter Try.func20, Try.ntmps20
  go_wp2_with (first
    | (go_at_call 27; refine (HM.out _ HN.out).mono ?_; rintro e w0 ⟨rfl, hL0⟩; have HL0 := Lib.hid hL0; have hz0 := hL0.below.size; clear hL0)
    | (at_make; refine wpList_make_full _ rfl _ _ 27 rfl w.heap.size 4 i4 (.bool false) 1 Try.underlying27 hi4 hz4 hs4 .i64 .i64 _ _ N rfl rfl rfl rfl (by rw [hy4]; omega) (by unfold maxLen; omega) hz0 ?_; intro w1 hown1 hgrow1))
  have HB1 := Lib.hid (BRow.make hown1)
  have l1 : Later w w1 := HL0.out.trans (Later.of_below ⟨hgrow1.os, hgrow1.tape, hgrow1.output, hgrow1.size, fun k hk => hgrow1.block k hk (by simp)⟩)
  have HO1 := Lib.hid (Only.of_later l1 fun k => w.heap.size ≤ k)
  have hG1 := (BRow.make hown1).lt
  obtain ⟨G, hGG⟩ : ∃ G, w0.heap.size = G := ⟨_, rfl⟩
  rw [hGG] at HB1 hG1 hz0 ⊢
  clear hown1 hgrow1 l1 hGG
  go_loopw [7] (fun j wr => ∃ q : Nat, q ≤ fr.length ∧ j = .int .i64 q ∧ Hid (∀ j, j < q → Lv.inB N (fr.getD j 0) = true) ∧ Hid (BRow wr G N fun k => (fr.take q).contains (k : Int)) ∧ Hid (Only w wr fun k => w.heap.size ≤ k)) (fun j _ => fr.length - (intOf j).toNat)
  case atStart => exact ⟨0, Nat.zero_le _, rfl, Lib.hid (fun j hj => by omega), Lib.hid (HB1.out.congr (fun k hk => by simp)), HO1⟩
  case round =>
    obtain ⟨q, hq, rfl, hIn, hB, hO⟩ := hrel
    by_cases hql : q < fr.length
    · obtain ⟨b1, o1, rfl, hb1, hc1⟩ := (HF.out.later hO.out.later) q hql
      obtain ⟨x, hx⟩ : ∃ x, fr.getD q 0 = x := ⟨_, rfl⟩
      rw [hx] at hc1
      have HX := Lib.hid hx
      clear hx
      have HBad : Hid (Lv.inB N x = false → R (.returned (.tuple #[.slice none 0 0, .int .i64 1])) wr) := Lib.hid (fun h => by
        have hb : fr.all (Lv.inB N) = false := all_bad hql (by rw [HX.out]; exact h)
        rw [← HRR.out, if_neg (by rw [hb]; decide), if_neg (by rw [hb]; decide)]
        exact ⟨none, 0, rfl, fun p hp => absurd hp (by simp), hO.out.later⟩)
      by_cases h1 : x < 0
      · go_wp2_with fail
        exact HBad.out (by simp [Lv.inB]; omega)
      · by_cases h2 : (N : Int) ≤ x
        · go_wp2_with fail
          exact HBad.out (by simp [Lv.inB]; omega)
        · obtain ⟨y, rfl⟩ : ∃ y : Nat, x = (y : Int) := ⟨x.toNat, by omega⟩
          have hyN : y < N := by omega
          have c1 := hB.out.cell hyN
          have f1 := hB.out.free y
          have l1 := hB.out.lt
          have HB2 := Lib.hid ((hB.out.set hyN).congr (is' := fun k => (fr.take (q + 1)).contains (k : Int)) (fun k hk => by
            have e : fr[q] = (y : Int) := by rw [← HX.out, List.getD_eq_getElem?_getD, List.getElem?_eq_getElem hql]; rfl
            rw [List.take_succ_eq_append_getElem hql, e]
            by_cases e2 : k = y
            · subst e2; simp
            · rw [if_neg e2]
              have : ¬ (k : Int) = (y : Int) := by omega
              simp [this]))
          have HO2 := Lib.hid (hO.out.setCell (p := ⟨G, y, none⟩) (.inl (show w.heap.size ≤ G by omega)) (.bool true))
          clear HBad
          go_wp2_with fail
          go_roundw
          case rel => exact ⟨q + 1, by omega, by go_num, Lib.hid (fun j hj => by
            by_cases e : j = q
            · rw [e, HX.out]; simp [Lv.inB]; omega
            · exact hIn.out j (by omega)), HB2, HO2⟩
          case measure => simp [intOf]; omega
    · obtain rfl : q = fr.length := by omega
      have HAll : Hid (fr.all (Lv.inB N) = true) := Lib.hid (all_of hIn.out)
      obtain ⟨is, hS, hBs, hRch⟩ : ∃ is : Nat → Bool, Hid (∀ x ∈ fr.map Int.toNat, is x = true) ∧ Hid (BRow wr G N is) ∧ Hid (∀ k, k < N → is k = true → Lv.Rch ms (fr.map Int.toNat) k) := by
        have hB0 := hB.out
        rw [List.take_length] at hB0
        refine ⟨_, Lib.hid (fun x hx => ?_), Lib.hid hB0, Lib.hid (fun k hk h => .base ?_)⟩
        · obtain ⟨z, hz, rfl⟩ := List.mem_map.1 hx
          have := List.all_eq_true.1 HAll.out z hz
          simp only [Lv.inB, Bool.and_eq_true, decide_eq_true_eq] at this
          simp only [show ((z.toNat : Nat) : Int) = z by omega]
          simpa using hz
        · exact List.mem_map.2 ⟨(k : Int), by simpa using h, by simp⟩
      clear hB hIn
      go_wp2_with fail
      go_loopw [8, 9, 10] (fun mv _ _ wr => ∃ (b : Bool) (is : Nat → Bool), mv = .bool b ∧ Hid (∀ x ∈ fr.map Int.toNat, is x = true) ∧ Hid (BRow wr G N is) ∧ Hid (∀ k, k < N → is k = true → Lv.Rch ms (fr.map Int.toNat) k) ∧ Hid (b = false → ∀ j, j < N → is j = true → ∀ k ∈ Lv.row ms j, is k = true) ∧ Hid (Only w wr fun k => w.heap.size ≤ k)) (fun mv _ _ wr => nf wr G N + flagOf mv)
      case atStart => exact ⟨true, is, rfl, hS, hBs, hRch, Lib.hid (fun h => by cases h), hO⟩
      case round =>
        obtain ⟨b, is, rfl, hS, hB, hR, hC, hO⟩ := hrel
        cases b
        · have hfin : (if fr.all (Lv.inB N) = true then Lv.reachL ms (fr.map Int.toNat) else []) = (List.range N).map is := by
            rw [if_pos HAll.out, Lv.reach_done (is := is) hS.out (by rw [HNN.out]; exact hR.out) (fun x hx => ?_) HFi.out.2.2 (by rw [HNN.out]; exact hC.out rfl), HNN.out]
            obtain ⟨z, hz, rfl⟩ := List.mem_map.1 hx
            have := List.all_eq_true.1 HAll.out z hz
            simp only [Lv.inB, Bool.and_eq_true, decide_eq_true_eq] at this
            rw [HNN.out]
            omega
          have Hfin := Lib.hid hfin
          clear hfin
          go_wp2_with fail
          rw [← HRR.out, Hfin.out, if_pos HAll.out]
          exact ⟨some ⟨G, 0, none⟩, N, by rw [List.length_map, List.length_range], hB.out.bools, hO.out.later⟩
        · have hnf0 := hB.out.nf
          obtain ⟨c0, hc0⟩ : ∃ c0, nf wr G N = c0 := ⟨_, rfl⟩
          have hcf : Lv.falses N is ≤ c0 := by rw [← hc0, hnf0]; exact Nat.le_refl _
          rw [hc0]
          clear hC hnf0 hc0
          go_wp2_with fail
          go_loopw [8, 9, 10] (fun mv j _ wr => ∃ (i : Nat) (b : Bool) (is : Nat → Bool), i ≤ N ∧ j = .int .i64 i ∧ mv = .bool b ∧ Hid (∀ x ∈ fr.map Int.toNat, is x = true) ∧ Hid (BRow wr G N is) ∧ Hid (∀ k, k < N → is k = true → Lv.Rch ms (fr.map Int.toNat) k) ∧ Hid (b = false → Lv.Shut ms is i 0) ∧ Hid (Only w wr fun k => w.heap.size ≤ k) ∧ Hid (Lv.falses N is ≤ c0 ∧ (b = true → Lv.falses N is < c0))) (fun _ j _ _ => N - (intOf j).toNat)
          case atStart => exact ⟨0, false, is, Nat.zero_le _, rfl, rfl, hS, hB, hR, Lib.hid (fun _ => Lv.Shut.zero ms is), hO, Lib.hid ⟨hcf, fun h => by cases h⟩⟩
          case round =>
            obtain ⟨i, b, is, hi, rfl, rfl, hS, hB, hR, hC, hO, hF⟩ := hrel
            by_cases hiN : i < N
            · obtain ⟨b3, o3, Ai, ci, rfl, hb3', hc3', hI3⟩ := HN.out.at_ (i := i) (by rw [HNN.out]; exact hiN)
              have HI3 := Lib.hid hI3
              have Hc3 := Lib.hid hc3'
              have Hb3 := Lib.hid hb3'
              have hri := HFi.out.2.1 i
              have HLi := Lib.hid (HFi.out.2.2 i)
              rw [HNN.out] at HLi
              obtain ⟨ro, hrw'⟩ : ∃ ro, Lv.row ms i = ro := ⟨_, rfl⟩
              rw [hrw'] at HI3 Hc3 hri HLi
              have Hro := Lib.hid hrw'
              clear hI3 hc3' hb3' hrw'
              go_wp2_with fail
              go_loopw [8, 10] (fun mv j wr => ∃ (q : Nat) (b : Bool) (is : Nat → Bool), q ≤ ro.length ∧ j = .int .i64 q ∧ mv = .bool b ∧ Hid (∀ x ∈ fr.map Int.toNat, is x = true) ∧ Hid (BRow wr G N is) ∧ Hid (∀ k, k < N → is k = true → Lv.Rch ms (fr.map Int.toNat) k) ∧ Hid (b = false → Lv.Shut ms is i q) ∧ Hid (Only w wr fun k => w.heap.size ≤ k) ∧ Hid (Lv.falses N is ≤ c0 ∧ (b = true → Lv.falses N is < c0))) (fun _ j _ => ro.length - (intOf j).toNat)
              case atStart => exact ⟨0, b, is, Nat.zero_le _, rfl, rfl, hS, hB, hR, hC, hO, hF⟩
              case round =>
                obtain ⟨q, b, is, hq, rfl, rfl, hS, hB, hR, hC, hO, hF⟩ := hrel
                have e5 := (cell_later' hO.out.later Hb3.out (o := o3 + i)).trans Hc3.out
                have d5 := later_lt hO.out.later Hb3.out
                by_cases hql : q < ro.length
                · obtain ⟨b6, o6, rfl, hb6, hc6⟩ := (HI3.out.later hO.out.later).at_ hql
                  obtain ⟨k, hk⟩ : ∃ k, ro.getD q 0 = k := ⟨_, rfl⟩
                  have hkm : k ∈ ro := by rw [← hk, List.getD_eq_getElem?_getD, List.getElem?_eq_getElem hql]; exact List.getElem_mem _
                  have hkN : k < N := HLi.out k hkm
                  have HNx : Hid (∀ is, Lv.Shut ms is i q → (is i = true → is k = true) → Lv.Shut ms is i (q + 1)) := Lib.hid (fun is h1 h2 => h1.next (by rw [Hro.out]; exact hql) (by rw [Hro.out]; exact hk) h2)
                  have HKm : Hid (k ∈ Lv.row ms i) := Lib.hid (by rw [Hro.out]; exact hkm)
                  rw [hk] at hc6
                  have c1 := hB.out.cell hiN
                  have c2 := hB.out.cell hkN
                  have f1 := hB.out.free k
                  have l1 := hB.out.lt
                  clear hk hkm
                  cases hii : is i
                  · rw [hii] at c1
                    have HC2 := Lib.hid (fun h => HNx.out is (hC.out h) (fun h2 => by rw [hii] at h2; cases h2))
                    clear hii
                    go_wp2_with fail
                    go_roundw
                    case rel => exact ⟨q + 1, b, is, by omega, by go_num, rfl, hS, hB, hR, HC2, hO, hF⟩
                    case measure => simp [intOf]; omega
                  · rw [hii] at c1
                    cases hik : is k
                    · rw [hik] at c2
                      have HBn := Lib.hid (hB.out.set hkN)
                      have HOn := Lib.hid (hO.out.setCell (p := ⟨G, k, none⟩) (.inl (show w.heap.size ≤ G by omega)) (.bool true))
                      have HSn : Hid (∀ x ∈ fr.map Int.toNat, (if x = k then true else is x) = true) := Lib.hid (fun x hx => by
                        split
                        · rfl
                        · exact hS.out x hx)
                      have HRn : Hid (∀ x, x < N → (if x = k then true else is x) = true → Lv.Rch ms (fr.map Int.toNat) x) := Lib.hid (fun x hx h => by
                        by_cases e : x = k
                        · subst e; exact .step (hR.out i hiN hii) HKm.out
                        · rw [if_neg e] at h; exact hR.out x hx h)
                      have hfu := Lv.falses_upd hik hkN
                      have HFn : Hid (Lv.falses N (fun x => if x = k then true else is x) ≤ c0 ∧ (true = true → Lv.falses N (fun x => if x = k then true else is x) < c0)) := Lib.hid ⟨by have := hF.out.1; omega, fun _ => by have := hF.out.1; omega⟩
                      clear hii hik hfu
                      go_wp2_with fail
                      go_roundw
                      case rel => exact ⟨q + 1, true, _, by omega, by go_num, rfl, HSn, HBn, HRn, Lib.hid (fun h => by cases h), HOn, HFn⟩
                      case measure => simp [intOf]; omega
                    · rw [hik] at c2
                      have HC2 := Lib.hid (fun h => HNx.out is (hC.out h) (fun _ => hik))
                      clear hii hik
                      go_wp2_with fail
                      go_roundw
                      case rel => exact ⟨q + 1, b, is, by omega, by go_num, rfl, hS, hB, hR, HC2, hO, hF⟩
                      case measure => simp [intOf]; omega
                · obtain rfl : q = ro.length := by omega
                  have HC2 : Hid (b = false → Lv.Shut ms is (i + 1) 0) := Lib.hid (fun h => Lv.Shut.down (by rw [Hro.out]; exact hC.out h))
                  go_wp2_with fail
                  go_roundw
                  case rel => exact ⟨i + 1, b, is, by omega, by go_num, rfl, hS, hB, hR, HC2, hO, hF⟩
                  case measure => simp [intOf]; omega
            · obtain rfl : N = i := by omega
              have hnf1 := hB.out.nf
              go_wp2_with fail
              go_roundw
              case rel => exact ⟨b, is, rfl, hS, hB, hR, Lib.hid (fun h => (hC.out h).1), hO⟩
              case measure =>
                have h1 := hF.out.1
                have h2 := hF.out.2
                unfold Lv.falses at h1 h2
                rw [hnf1]
                cases b
                · simp [flagOf]; omega
                · have := h2 rfl
                  simp [flagOf]; omega
theorem refreach (ns : List (List Int)) (fr : List Int) (A F : Option Addr) (c cf : Nat) (w : World) (hN : NeedsR w A ns) (hn : ns.length ≤ 1000) (hr : ∀ i, (ns.getD i []).length ≤ 1000) (hF : IntsR w F fr) (hfl : fr.length ≤ 1000) :
    Calls Try.prog 20 #[.slice A ns.length c, .slice F fr.length cf] w (RetBE w (Lv.reachV ns fr) (Lv.reachE ns fr)) := by
  unfold Lv.reachV Lv.reachE
  cases hm : Lv.mayB ns
  · rw [if_neg (by simp), if_neg (by simp)]
    exact refreach_bad ns fr A F c cf w hN hn hr hm
  · have := refreach_core (Lv.nat ns) fr A F c cf w (by rw [Lv.may_nat hm]; exact hN) (nat_fine hm hn hr) hF hfl
      (fun w' h => by rw [Lv.nat_len]; exact refmay_is hm A c w' (by rw [Lv.may_nat hm] at h; exact h) hn hr)
    rw [Lv.nat_len] at this
    simp only [true_and]
    exact this
end Go.Proofs.Ytbdhjoanjlkggaa
