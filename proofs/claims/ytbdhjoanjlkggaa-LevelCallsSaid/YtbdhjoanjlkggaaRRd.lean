/-
  No statement of the seat is proved here. Contract of the document's Round.
-/
import Derived.Test.YtbdhjoanjlkggaaSm
namespace Go.Proofs.Ytbdhjoanjlkggaa
open Go Go.RowKit
set_option linter.unusedVariables false
namespace Lv
/-- Where a row has come to: at a thing that comes again, or further. -/
def walkD (ms : List (List Nat)) (U : Nat → Bool) (N : Nat) (p : List Nat) (a : Nat) : List Nat :=
  if 0 ≤ idx (ints p) (a : Nat) then p.drop (idx (ints p) (a : Nat)).toNat else walkF ms U (N + 1 - p.length) p a
theorem idx_not {p : List Nat} {a : Nat} (h : a ∉ p) : ¬ 0 ≤ idx (ints p) (a : Nat) := by
  have : idx (ints p) (a : Nat) = -1 := idx_none (fun j hj e => h (by
    rw [map_getD] at e
    rw [ints_len] at hj
    have e2 : p.getD j 0 = a := by omega
    rw [← e2, List.getD_eq_getElem?_getD, List.getElem?_eq_getElem hj]
    exact List.getElem_mem _))
  omega
theorem walkD_on {ms : List (List Nat)} {U : Nat → Bool} {N a : Nat} {p : List Nat} (hN : ms.length = N) (h : a ∉ p) (hl : p.length ≤ N) :
    walkD ms U N p a = walkD ms U N (p ++ [a]) (minNeed N U (row ms a)) := by
  unfold walkD
  rw [if_neg (idx_not h), show N + 1 - p.length = (N + 1 - (p.length + 1)) + 1 by omega, walkF, hN, List.length_append, List.length_singleton]
theorem walkD_at {ms : List (List Nat)} {U : Nat → Bool} {N a q : Nat} {p : List Nat} (hq : q < p.length) (h : p.getD q 0 = a) (hm : ∀ j, j < q → p.getD j 0 ≠ a) : walkD ms U N p a = p.drop q := by
  have : idx (ints p) (a : Nat) = q := idx_found (by rw [ints_len]; exact hq) (by rw [map_getD, h]) (fun j hj e => hm j hj (by rw [map_getD] at e; omega))
  unfold walkD
  rw [this, if_pos (by omega)]
  rfl
theorem not_mem_of {p : List Nat} {a : Nat} (h : ∀ j, j < p.length → p.getD j 0 ≠ a) : a ∉ p := by
  intro hm
  obtain ⟨j, hj, e⟩ := List.mem_iff_getElem.1 hm
  exact h j hj (by rw [List.getD_eq_getElem?_getD, List.getElem?_eq_getElem hj]; exact e)
end Lv
theorem refround_bad (ns : List (List Int)) (A : Option Addr) (c : Nat) (w : World) (hN : NeedsR w A ns) (hn : ns.length ≤ 1000) (hr : ∀ i, (ns.getD i []).length ≤ 1000) (hm : Lv.mayB ns = false) :
    Calls Try.prog 19 #[.slice A ns.length c] w (RetLB w [] false) := by
  have HN := Lib.hid hN
  have HM := Lib.hid (fun w' h => refmay_is hm A c w' h hn hr)
  clear hN
  go_enter Try.func19, Try.ntmps19
  go_wp2_with (go_at_call 27; refine (HM.out _ HN.out).mono ?_; rintro e w' ⟨rfl, g, rfl⟩)
  go_ret2
  exact ⟨none, 0, rfl, fun p hp => absurd hp (by simp [ints]), (Later.refl _).more _⟩
set_option maxRecDepth 100000 in
set_option maxHeartbeats 8000000 in
theorem refround_core (ms : List (List Nat)) (A : Option Addr) (c : Nat) (w : World) (hN : NeedsR w A (toI ms)) (hf : Lv.Fine ms)
    (hM : ∀ w', NeedsR w' A (toI ms) → Calls Try.prog 27 #[.slice A ms.length c] w' (Ret w' (.bool true))) :
    Calls Try.prog 19 #[.slice A ms.length c] w (RetLB w (if (Lv.told ms).length < ms.length then Lv.walkF ms (Lv.unt ms) (ms.length + 1) [] (Lv.first (Lv.unt ms) ms.length) else []) (decide ((Lv.told ms).length < ms.length))) := by
  obtain ⟨i3, hi3, hz3, hs3, hy3⟩ := info_parts (P := Try.prog) (e := 3) (z := .int .i64 0) (size := 1) (bytes := 8) info3
  have HN := Lib.hid hN
  have HFi := Lib.hid hf
  have HM := Lib.hid hM
  have hn := hf.1
  have HT := Lib.hid (fun w' h => reftold ms A c w' h hf)
  have HG := Lib.hid (Lv.told_good ms)
  clear hN hf hM
  obtain ⟨N, hNN⟩ : ∃ N, ms.length = N := ⟨_, rfl⟩
  have HNN := Lib.hid hNN
  rw [hNN] at hn HM HT ⊢
  clear hNN
  obtain ⟨T, hTT⟩ : ∃ T, Lv.told ms = T := ⟨_, rfl⟩
  have HTT := Lib.hid hTT
  rw [hTT] at HT HG ⊢
  clear hTT
  have HU : Hid (∀ k, k < N → Lv.unt ms k = !T.contains k) := Lib.hid (fun k hk => by
    have := Lv.unt_iff (ms := ms) (k := k)
    rw [HNN.out, HTT.out] at this
    cases hu : Lv.unt ms k
    · rw [hu] at this
      have : k ∈ T := by
        apply Classical.byContradiction
        intro h
        have := this.2 ⟨hk, h⟩
        cases this
      simp [this]
    · have := (this.1 hu).2
      simp [this])
  obtain ⟨R, hRR⟩ : ∃ R, RetLB w (if T.length < N then Lv.walkF ms (Lv.unt ms) (N + 1) [] (Lv.first (Lv.unt ms) N) else []) (decide (T.length < N)) = R := ⟨_, rfl⟩
  rw [hRR]
  have HRR := Lib.hid hRR
  clear hRR
  go_enter Try.func19, Try.ntmps19
  go_wp2_with (first
    | (go_at_call 27; refine (HM.out _ HN.out).mono ?_; rintro e w' ⟨rfl, g, rfl⟩)
    | (go_at_call 33; refine (HT.out _ (HN.out.later ((Later.refl _).more _))).mono ?_; rintro e w2 ⟨v, Ab, cb, rfl, hO, hBs, hL⟩; obtain ⟨Av, cv, rfl, _, _⟩ := hO.form; have HBs := Lib.hid hBs; have HL := Lib.hid (((Later.refl _).more _).trans hL); clear hO hBs hL))
  have HNw := Lib.hid (HN.out.later HL.out)
  have HFirst : Hid (∀ m, m < N → T.contains m = false → (∀ k, k < m → T.contains k = true) → Lv.first (Lv.unt ms) N = m) := Lib.hid (fun m h1 h2 h3 => Lv.first_is h1 (by rw [HU.out m h1, h2]; rfl) (fun k hk => by rw [HU.out k (by omega), h3 k hk]; rfl))
  go_loopw [6, 7] (fun ja j wr => ∃ q : Nat, q ≤ N ∧ j = .int .i64 ((q : Int) - 1) ∧ ((ja = .int .i64 (-1) ∧ Hid (∀ k, q ≤ k → k < N → T.contains k = true)) ∨ (∃ m : Nat, ja = .int .i64 (m : Nat) ∧ q ≤ m ∧ m < N ∧ Hid (T.contains m = false ∧ ∀ k, q ≤ k → k < m → T.contains k = true))) ∧ wr = w2) (fun _ j _ => (intOf j + 1).toNat)
  case atStart => exact ⟨N, Nat.le_refl _, rfl, .inl ⟨rfl, Lib.hid (fun k h1 h2 => by omega)⟩, rfl⟩
  case round =>
    obtain ⟨q, hq, rfl, hcase, rfl⟩ := hrel
    by_cases hq0 : q = 0
    · subst hq0
      rcases hcase with ⟨rfl, hA⟩ | ⟨m, rfl, hm1, hm2, hM2⟩
      · have hlen : N ≤ T.length := Lv.pig2 N T (fun k hk => by simpa using hA.out k (Nat.zero_le _) hk)
        go_wp2_with fail
        rw [← HRR.out, if_neg (by omega), decide_eq_false (by omega)]
        exact ⟨none, 0, rfl, fun p hp => absurd hp (by simp [ints]), HL.out⟩
      · have hlen : T.length < N := by
          have h1 := HG.out.nodup
          have h2 := hM2.out.1
          have := Lv.pigeon N (T ++ [m]) (by
            rw [List.nodup_append]
            exact ⟨h1, by simp, fun x hx y hy => by simp at hy; subst hy; exact fun e => by subst e; simp [hx] at h2⟩) (fun x hx => by
            rcases List.mem_append.1 hx with hx | hx
            · have := HG.out.lt x hx; rw [HNN.out] at this; exact this
            · simp at hx; omega)
          rw [List.length_append, List.length_singleton] at this
          omega
        have HFm := Lib.hid (HFirst.out m hm2 hM2.out.1 (fun k hk => hM2.out.2 k (Nat.zero_le _) hk))
        have HMc := Lib.hid hM2.out.1
        have hnm : ¬ ((m : Nat) : Int) < 0 := by omega
        clear HFirst HM hM2
        go_wp2_with fail
        have hWalk : Lv.walkD ms (Lv.unt ms) N [] m = Lv.walkF ms (Lv.unt ms) (N + 1) [] (Lv.first (Lv.unt ms) N) := by rw [HFm.out]; rfl
        have HW0 := Lib.hid hWalk
        clear hWalk
        generalize Lv.walkF ms (Lv.unt ms) (N + 1) [] (Lv.first (Lv.unt ms) N) = W at *
        obtain ⟨w3, hw3⟩ : ∃ w3, w3 = wr := ⟨_, rfl⟩
        subst hw3
        go_loopw [6, 8, 9, 10, 11, 12] (fun ja v _ _ _ _ wr => ∃ (p : List Nat) (a : Nat), ja = .int .i64 a ∧ a < N ∧ p.length ≤ N ∧ Hid (OwnL wr w3.heap.size v p) ∧ Hid (p.Nodup ∧ (∀ x ∈ p, x < N) ∧ T.contains a = false) ∧ Hid (Lv.walkD ms (Lv.unt ms) N p a = W) ∧ Hid (Later w3 wr)) (fun _ v _ _ _ _ _ => N + 1 - lenOf v)
        case atStart => exact ⟨[], m, rfl, hm2, by simp, Lib.hid (OwnL.nil _ _), Lib.hid ⟨by simp, by simp, HMc.out⟩, HW0, Lib.hid (Later.refl _)⟩
        case round =>
          obtain ⟨p, a, rfl, haN, hpN, hown, hP, hF, hL⟩ := hrel
          obtain ⟨Ap, cp, hv, hIp, hob⟩ := hown.out.form
          subst hv
          have HIp := Lib.hid hIp
          have Hob := Lib.hid hob
          have hr0 : w3.heap.size ≤ wr.heap.size := hL.out.below.size
          have hcp : p.length ≤ cp := by
            rcases hown.out.2 with ⟨h1, h2⟩ | ⟨g, cap, cur, h1, _, _, h3, _⟩
            · rw [h2]; omega
            · injection h1 with _ _ h1; omega
          obtain ⟨w4, hw4⟩ : ∃ w4, w4 = wr := ⟨_, rfl⟩
          subst hw4
          clear hIp hob
          go_wp2_with fail
          go_loopw [9] (fun j wr => ∃ q : Nat, q ≤ p.length ∧ j = .int .i64 q ∧ Hid (∀ j, j < q → p.getD j 0 ≠ a) ∧ wr = w4) (fun j _ => p.length - (intOf j).toNat)
          case atStart => exact ⟨0, Nat.zero_le _, rfl, Lib.hid (fun j hj => by omega), rfl⟩
          case round =>
            obtain ⟨q, hq, rfl, hno, rfl⟩ := hrel
            by_cases hql : q < p.length
            · obtain ⟨b4, rfl, hb4, hc4, hcm4⟩ := hown.out.addr (by omega)
              obtain ⟨b5, o5, e5, hb5, hc5⟩ := HIp.out.at_ hql
              injection e5 with e5
              injection e5 with e5 e6
              subst e5 e6
              rw [Nat.zero_add] at hc5
              obtain ⟨x, hx⟩ : ∃ x, p.getD q 0 = x := ⟨_, rfl⟩
              rw [hx] at hc5
              have HX := Lib.hid hx
              unfold maxLen at hcm4
              by_cases hxa : x = a
              · subst hxa
                have HD := Lib.hid ((Lv.walkD_at hql hx hno.out).symm.trans hF.out)
                have HDr := Lib.hid (HIp.out.drop (d := q))
                clear hx
                go_wp2_with fail
                rw [← HRR.out, if_pos hlen, decide_eq_true hlen, ← HD.out]
                exact ⟨some ⟨b4, q, none⟩, cp - q, by rw [List.length_drop], HDr.out, HL.out.trans hL.out⟩
              · have hxa' : ((x : Int) == (a : Int)) = false := by rw [beq_eq_false_iff_ne]; omega
                clear hx
                go_wp2_with fail
                go_roundw
                case rel => exact ⟨q + 1, by omega, by go_num, Lib.hid (fun j hj => by
                  by_cases e : j = q
                  · rw [e, HX.out]; exact hxa
                  · exact hno.out j (by omega)), trivial⟩
                case measure => simp [intOf]; omega
            · obtain rfl : q = p.length := by omega
              have hap := Lv.not_mem_of hno.out
              obtain ⟨hP1, hP2, hP3⟩ := hP.out
              have hnd : (p ++ [a]).Nodup := by
                rw [List.nodup_append]
                exact ⟨hP1, by simp, fun x hx y hy => by simp at hy; subst hy; exact fun e => hap (e ▸ hx)⟩
              have hltN : ∀ x ∈ p ++ [a], x < N := fun x hx => by
                rcases List.mem_append.1 hx with hx | hx
                · exact hP2 x hx
                · simp at hx; omega
              have hlen := Lv.pigeon N (p ++ [a]) hnd hltN
              rw [List.length_append, List.length_singleton] at hlen
              have HPn := Lib.hid (And.intro hnd hltN)
              have hFn := hF.out
              rw [Lv.walkD_on HNN.out hap hpN] at hFn
              have HFn := Lib.hid hFn
              have hst := Lv.told_stuck (ns := ms) (i := a) (by rw [HNN.out]; exact haN) (by rw [HTT.out]; intro h; simp [h] at hP3)
              rw [HTT.out] at hst
              have HSt := Lib.hid hst
              obtain ⟨b3, o3, Ai, ci, rfl, hb3', hc3', hI3⟩ := HNw.out.at_ (i := a) (by rw [HNN.out]; exact haN)
              have HI3 := Lib.hid hI3
              have Hc3 := Lib.hid hc3'
              have Hb3 := Lib.hid hb3'
              have hri := HFi.out.2.1 a
              have HLi := Lib.hid (HFi.out.2.2 a)
              rw [HNN.out] at HLi
              clear hP1 hP2 hP3 hnd hltN hFn hst hap hI3 hc3' hb3'
              obtain ⟨ro, hrw'⟩ : ∃ ro, Lv.row ms a = ro := ⟨_, rfl⟩
              rw [hrw'] at HI3 Hc3 hri HLi HSt HFn
              clear hrw'
              go_wp2_with (at_builtin; refine wpList_append_own_at _ rfl _ _ 26 rfl w3.heap.size 3 i3 (.int .i64 0) 1 8 Try.underlying26 hi3 hz3 hs3 hy3 rfl (by decide) _ _ _ rfl (World.ownsRow.alloc hown.out _) ⟨wr.heap.size, 0, none⟩ 1 1 [.int .i64 (a : Nat)] rfl rfl (cell_one_new _ _ _) (fun x hx => by simp at hx; subst hx; rfl) (by unfold maxLen; omega) (by omega) (by simp; omega) ?_; intro v' w5 hown5 hgrow5 hnil5 hat5; have HO5 := Lib.hid ((Only.of_later hL.out fun k => w3.heap.size ≤ k).trans (((Only.refl wr fun c => (Value.slice Ap p.length cp).ownBlock = some c).alloc _).trans (Only.grown hgrow5) (fun _ _ h => h)) (fun c _ e => (Hob.out c e).1)); have Hown5 := Lib.hid (OwnL.snoc hown5); obtain ⟨A5, c5, hv5, _, _⟩ := Hown5.out.form; subst hv5; have e5 := (cell_later' HO5.out.later Hb3.out (o := o3 + a)).trans Hc3.out; have d5 := later_lt HO5.out.later Hb3.out; clear hown5 hgrow5 hnil5 hat5)
              go_loopw [10, 11, 12] (fun jm j _ wr => ∃ (q m : Nat), q ≤ ro.length ∧ j = .int .i64 q ∧ ((m = N ∧ jm = .int .i64 (-1)) ∨ (m < N ∧ jm = .int .i64 (m : Nat))) ∧ Hid (Lv.minNeed N (Lv.unt ms) (ro.take q) = m) ∧ wr = w5) (fun _ j _ _ => ro.length - (intOf j).toNat)
              case atStart => exact ⟨0, N, Nat.zero_le _, rfl, .inl ⟨rfl, rfl⟩, Lib.hid rfl, rfl⟩
              case round =>
                obtain ⟨q, m, hq, rfl, hcase, hMin, rfl⟩ := hrel
                by_cases hql : q < ro.length
                · obtain ⟨b6, o6, rfl, hb6, hc6⟩ := (HI3.out.later HO5.out.later).at_ hql
                  obtain ⟨k, hk⟩ : ∃ k, ro.getD q 0 = k := ⟨_, rfl⟩
                  have hkN : k < N := HLi.out k (by rw [← hk, List.getD_eq_getElem?_getD, List.getElem?_eq_getElem hql]; exact List.getElem_mem _)
                  rw [hk] at hc6
                  have hnx := Lv.minNeed_next (N := N) (U := Lv.unt ms) hql hk
                  rw [hMin.out, HU.out k hkN] at hnx
                  obtain ⟨b7, o7, rfl, hb7, hc7⟩ := bools_at (HBs.out.later HO5.out.later) hkN
                  clear hk
                  cases htk : T.contains k
                  · rw [htk] at hc7 hnx
                    rw [show (!false) = true from rfl, if_pos rfl] at hnx
                    have Hnx := Lib.hid hnx
                    clear hnx htk
                    rcases hcase with ⟨rfl, rfl⟩ | ⟨hmN, rfl⟩
                    · go_wp2_with fail
                      go_roundw
                      case rel => exact ⟨q + 1, k, by omega, by go_num, .inr ⟨hkN, rfl⟩, Lib.hid (by rw [Hnx.out]; omega), trivial⟩
                      case measure => simp [intOf]; omega
                    · by_cases hkm : k < m
                      · go_wp2_with fail
                        go_roundw
                        case rel => exact ⟨q + 1, k, by omega, by go_num, .inr ⟨hkN, rfl⟩, Lib.hid (by rw [Hnx.out]; omega), trivial⟩
                        case measure => simp [intOf]; omega
                      · go_wp2_with fail
                        go_roundw
                        case rel => exact ⟨q + 1, m, by omega, by go_num, .inr ⟨hmN, rfl⟩, Lib.hid (by rw [Hnx.out]; omega), trivial⟩
                        case measure => simp [intOf]; omega
                  · rw [htk] at hc7 hnx
                    rw [show (!true) = false from rfl, if_neg (by decide)] at hnx
                    have Hnx := Lib.hid hnx
                    clear hnx htk
                    go_wp2_with fail
                    go_roundw
                    case rel => exact ⟨q + 1, m, by omega, by go_num, hcase, Hnx, trivial⟩
                    case measure => simp [intOf]; omega
                · obtain rfl : q = ro.length := by omega
                  have hMf := hMin.out
                  rw [List.take_length] at hMf
                  have hsp := Lv.minNeed_spec (N := N) (U := Lv.unt ms) ro N (fun h => absurd h (by omega)) (Nat.le_refl _)
                  have hfold : ro.foldl (fun m k => if Lv.unt ms k = true then min m k else m) N = m := hMf
                  rw [hfold] at hsp
                  obtain ⟨k, hk1, hk2⟩ := HSt.out
                  have hkN := HLi.out k hk1
                  have hmN3 : m < N := hsp.2.1 ⟨k, hk1, Lv.unt_iff.2 ⟨by rw [HNN.out]; exact hkN, by rw [HTT.out]; exact hk2⟩, hkN⟩
                  have hmU := (hsp.2.2 hmN3).1
                  rw [HU.out m hmN3] at hmU
                  have HMU : Hid (T.contains m = false) := Lib.hid (by cases h : T.contains m; rfl; rw [h] at hmU; cases hmU)
                  have HFm2 : Hid (Lv.walkD ms (Lv.unt ms) N (p ++ [a]) m = W) := Lib.hid (by rw [← hMf]; exact HFn.out)
                  clear hsp hfold hmU hk1 hk2 hMf
                  rcases hcase with ⟨rfl, _⟩ | ⟨_, rfl⟩
                  · omega
                  go_wp2_with fail
                  go_roundw
                  case rel => exact ⟨p ++ [a], m, rfl, hmN3, by simpa using hlen, by have := Hown5; rw [List.length_append] at this; exact this, Lib.hid ⟨HPn.out.1, HPn.out.2, HMU.out⟩, HFm2, Lib.hid HO5.out.later⟩
                  case measure => simp [lenOf]; omega
    · obtain ⟨i, rfl⟩ : ∃ i, q = i + 1 := ⟨q - 1, by omega⟩
      have hiN : i < N := by omega
      obtain ⟨b3, o3, rfl, hb3, hc3⟩ := bools_at HBs.out hiN
      have hix : ((i + 1 : Nat) : Int) - 1 = (i : Nat) := by omega
      rw [hix]
      cases hti : T.contains i
      · rw [hti] at hc3
        have HTi := Lib.hid hti
        clear hti hq0
        go_wp2_with fail
        go_roundw
        case rel => exact ⟨i, by omega, rfl, .inr ⟨i, rfl, Nat.le_refl _, hiN, Lib.hid ⟨HTi.out, fun k h1 h2 => by omega⟩⟩, trivial⟩
        case measure => simp [intOf]
      · rw [hti] at hc3
        have HTi := Lib.hid hti
        clear hti hq0
        rcases hcase with ⟨rfl, hA⟩ | ⟨m, rfl, hm1, hm2, hM2⟩
        · go_wp2_with fail
          go_roundw
          case rel => exact ⟨i, by omega, rfl, .inl ⟨rfl, Lib.hid (fun k h1 h2 => by
            by_cases e : k = i
            · rw [e]; exact HTi.out
            · exact hA.out k (by omega) h2)⟩, trivial⟩
          case measure => simp [intOf]
        · go_wp2_with fail
          go_roundw
          case rel => exact ⟨i, by omega, rfl, .inr ⟨m, rfl, by omega, hm2, Lib.hid ⟨hM2.out.1, fun k h1 h2 => by
            by_cases e : k = i
            · rw [e]; exact HTi.out
            · exact hM2.out.2 k (by omega) h2⟩⟩, trivial⟩
          case measure => simp [intOf]
theorem refround (ns : List (List Int)) (A : Option Addr) (c : Nat) (w : World) (hN : NeedsR w A ns) (hn : ns.length ≤ 1000) (hr : ∀ i, (ns.getD i []).length ≤ 1000) :
    Calls Try.prog 19 #[.slice A ns.length c] w (RetLB w (Lv.roundL ns) (Lv.roundB ns)) := by
  cases hm : Lv.mayB ns
  · have h1 : Lv.roundB ns = false := by simp [Lv.roundB, hm]
    have h2 : Lv.roundL ns = [] := by simp [Lv.roundL, h1]
    rw [h1, h2]
    exact refround_bad ns A c w hN hn hr hm
  · have := refround_core (Lv.nat ns) A c w (by rw [Lv.may_nat hm]; exact hN) (nat_fine hm hn hr)
      (fun w' h => by rw [Lv.nat_len]; exact refmay_is hm A c w' (by rw [Lv.may_nat hm] at h; exact h) hn hr)
    rw [Lv.nat_len] at this
    have h1 : Lv.roundB ns = decide ((Lv.told (Lv.nat ns)).length < ns.length) := by simp [Lv.roundB, hm]
    have h2 : Lv.roundL ns = if (Lv.told (Lv.nat ns)).length < ns.length then Lv.walkF (Lv.nat ns) (Lv.unt (Lv.nat ns)) (ns.length + 1) [] (Lv.first (Lv.unt (Lv.nat ns)) ns.length) else [] := by
      unfold Lv.roundL
      rw [h1]
      simp only [decide_eq_true_eq]
    rw [h1, h2]
    exact this
end Go.Proofs.Ytbdhjoanjlkggaa
