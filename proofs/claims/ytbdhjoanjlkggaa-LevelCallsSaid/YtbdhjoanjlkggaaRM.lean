/-
  No statement of the seat is proved here. Contracts of the document's May and told.
-/
import Derived.Test.YtbdhjoanjlkggaaFew
namespace Go.Proofs.Ytbdhjoanjlkggaa
open Go Go.RowKit
set_option linter.unusedVariables false
theorem may_no {ns : List (List Int)} {i q : Nat} (hi : i < ns.length) (hq : q < (ns.getD i []).length) (h : Lv.inB ns.length ((ns.getD i []).getD q 0) = false) : Lv.mayB ns = false := by
  unfold Lv.mayB
  rw [List.all_eq_false]
  have e : ns.getD i [] = ns[i] := by rw [List.getD_eq_getElem?_getD, List.getElem?_eq_getElem hi]; rfl
  refine ⟨ns[i], List.getElem_mem hi, ?_⟩
  rw [← e, all_bad hq h]
  simp
theorem may_yes {ns : List (List Int)} (h : ∀ j, j < ns.length → (ns.getD j []).all (Lv.inB ns.length) = true) : Lv.mayB ns = true := by
  unfold Lv.mayB
  rw [List.all_eq_true]
  intro r hr
  obtain ⟨j, hj, rfl⟩ := List.mem_iff_getElem.1 hr
  have := h j hj
  rwa [List.getD_eq_getElem?_getD, List.getElem?_eq_getElem hj] at this
set_option maxRecDepth 100000 in
set_option maxHeartbeats 4000000 in
theorem refmay (ns : List (List Int)) (A : Option Addr) (c : Nat) (w : World) (hN : NeedsR w A ns) (hn : ns.length ≤ 1000) (hr : ∀ i, (ns.getD i []).length ≤ 1000) : Calls Try.prog 27 #[.slice A ns.length c] w (Ret w (.bool (Lv.mayB ns))) := by
  have HN := Lib.hid hN
  have HR := Lib.hid hr
  clear hN hr
  go_enter Try.func27, Try.ntmps27
  go_wp2_with fail
  go_loopw [3, 4] (fun ix _ wr => ∃ i : Nat, i ≤ ns.length ∧ ix = .int .i64 i ∧ Hid (∀ j, j < i → (ns.getD j []).all (Lv.inB ns.length) = true) ∧ wr = w) (fun ix _ _ => ns.length - (intOf ix).toNat)
  case atStart => exact ⟨0, Nat.zero_le _, rfl, Lib.hid (fun j hj => by omega), rfl⟩
  case round =>
    obtain ⟨i, hi, rfl, hF, rfl⟩ := hrel
    by_cases hil : i < ns.length
    · obtain ⟨b1, o1, Ai, ci, rfl, hb1, hc1, hI1⟩ := HN.out i hil
      have HI1 := Lib.hid hI1
      have hri := HR.out i
      have HB := Lib.hid (fun q h1 h2 => may_no (q := q) hil h1 h2)
      have HY := Lib.hid (fun h => all_of (N := ns.length) (l := ns.getD i []) h)
      obtain ⟨r, hr⟩ : ∃ r, ns.getD i [] = r := ⟨_, rfl⟩
      have Hr := Lib.hid hr
      rw [hr] at hc1 HI1 hri HB HY
      clear hr hI1
      go_wp2_with fail
      go_loopw [4] (fun kx wr' => ∃ q : Nat, q ≤ r.length ∧ kx = .int .i64 q ∧ Hid (∀ j, j < q → Lv.inB ns.length (r.getD j 0) = true) ∧ wr' = wr) (fun kx _ => r.length - (intOf kx).toNat)
      case atStart => exact ⟨0, Nat.zero_le _, rfl, Lib.hid (fun j hj => by omega), rfl⟩
      case round =>
        obtain ⟨q, hq, rfl, hG, rfl⟩ := hrel
        by_cases hql : q < r.length
        · obtain ⟨b2, o2, rfl, hb2, hc2⟩ := HI1.out q hql
          obtain ⟨x, hx⟩ : ∃ x, r.getD q 0 = x := ⟨_, rfl⟩
          rw [hx] at hc2
          have Hx := Lib.hid hx
          have HBq := Lib.hid (HB.out q hql)
          rw [hx] at HBq
          clear hx
          by_cases h1 : x < 0
          · have Hm := Lib.hid (HBq.out (by simp [Lv.inB]; omega))
            go_wp2_with fail
            go_ret
            exact Ret.mk' (by rw [Hm.out]; rfl) (Later.refl _)
          · by_cases h2 : (ns.length : Int) ≤ x
            · have Hm := Lib.hid (HBq.out (by simp [Lv.inB]; omega))
              go_wp2_with fail
              go_ret
              exact Ret.mk' (by rw [Hm.out]; rfl) (Later.refl _)
            · have Hin : Hid (Lv.inB ns.length x = true) := Lib.hid (by simp [Lv.inB]; omega)
              go_wp2_with fail
              go_roundw
              case rel => exact ⟨q + 1, by omega, by go_num, Lib.hid (fun j hj => by
                by_cases e : j = q
                · rw [e, Hx.out]; exact Hin.out
                · exact hG.out j (by omega)), trivial⟩
              case measure => simp [intOf]; omega
        · obtain rfl : q = r.length := by omega
          have Hall := Lib.hid (HY.out hG.out)
          go_wp2_with fail
          go_roundw
          case rel => exact ⟨i + 1, by omega, by go_num, Lib.hid (fun j hj => by
            by_cases e : j = i
            · rw [e, Hr.out]; exact Hall.out
            · exact hF.out j (by omega)), trivial⟩
          case measure => simp [intOf]; omega
    · have HM := Lib.hid (may_yes (ns := ns) (fun j hj => hF.out j (by omega)))
      go_wp2_with fail
      go_ret
      exact Ret.mk' (by rw [HM.out]; rfl) (Later.refl _)
end Go.Proofs.Ytbdhjoanjlkggaa
