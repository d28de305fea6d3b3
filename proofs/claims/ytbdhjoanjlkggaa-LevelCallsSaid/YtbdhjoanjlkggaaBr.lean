/-
  No statement of the seat is proved here. Contract of the law's own brought.
-/
import Derived.Test.YtbdhjoanjlkggaaNn
import Derived.Outline
namespace Go.Proofs.Ytbdhjoanjlkggaa
open Go Go.RowKit
set_option linter.unusedVariables false
/-- A row of bytes that is read. -/
def BytesR (w : World) (A : Option Addr) (l : List Nat) : Prop := ∀ p, p < l.length → ∃ b off, A = some ⟨b, off, none⟩ ∧ b < w.heap.size ∧ w.cell? ⟨b, off + p, none⟩ = some (.int .u8 (l.getD p 0 : Nat)) ∧ l.getD p 0 < 256
/-- Rows of bytes that are read. -/
def RowsB (w : World) (A : Option Addr) (rs : List (List Nat)) : Prop :=
  ∀ i, i < rs.length → ∃ b off Ai ci, A = some ⟨b, off, none⟩ ∧ b < w.heap.size ∧ w.cell? ⟨b, off + i, none⟩ = some (.slice Ai (rs.getD i []).length ci) ∧ (rs.getD i []).length ≤ ci ∧ ci ≤ 9223372036854775807 ∧ BytesR w Ai (rs.getD i [])
theorem BytesR.later {w w' : World} {A : Option Addr} {l : List Nat} (h : BytesR w A l) (hl : Later w w') : BytesR w' A l := by
  intro p hp
  obtain ⟨b, off, hA, hb, hc, h2⟩ := h p hp
  exact ⟨b, off, hA, later_lt hl hb, by rw [cell_later' hl hb]; exact hc, h2⟩
theorem RowsB.later {w w' : World} {A : Option Addr} {rs : List (List Nat)} (h : RowsB w A rs) (hl : Later w w') : RowsB w' A rs := by
  intro i hi
  obtain ⟨b, off, Ai, ci, hA, hb, hc, h1, h2, hr⟩ := h i hi
  exact ⟨b, off, Ai, ci, hA, later_lt hl hb, by rw [cell_later' hl hb]; exact hc, h1, h2, hr.later hl⟩
namespace Lv
def broRow (N : Nat) (r : List Nat) : List Nat := (r.take 10).map (· % N)
def bro (rs : List (List Nat)) : List (List Nat) := (rs.take 40).map (broRow (min rs.length 40))
end Lv
def RetNN (w : World) (ns : List (List Int)) (e : Ending) (w' : World) : Prop := ∃ v, e = .returned v ∧ OwnN w' w.heap.size v ns ∧ Later w w'
set_option maxRecDepth 100000 in
set_option maxHeartbeats 4000000 in
theorem brought_any (rs : List (List Nat)) (A : Option Addr) (c : Nat) (w : World) (hR : RowsB w A rs) (hn : rs.length ≤ c) (hc : c ≤ 9223372036854775807) : Calls Try.prog 8 #[.slice A rs.length c] w (RetNN w (toI (Lv.bro rs))) := by
  obtain ⟨i26, hi26, hz26, hs26, hy26⟩ := info_parts (P := Try.prog) (e := 26) (z := .slice none 0 0) (size := 1) (bytes := 24) info26
  obtain ⟨i3, hi3, hz3, hs3, hy3⟩ := info_parts (P := Try.prog) (e := 3) (z := .int .i64 0) (size := 1) (bytes := 8) info3
  have HR := Lib.hid hR
  clear hR
  obtain ⟨N, hN⟩ : ∃ N, min rs.length 40 = N := ⟨_, rfl⟩
  have hmin : min (rs.length : Int) 40 = (N : Int) := by omega
  have HN := Lib.hid hN
  have hN1 : N ≤ rs.length := by omega
  have hN2 : N ≤ 40 := by omega
  have hN3 : N ≤ c := by omega
  clear hN
  go_enter Try.func8, Try.ntmps8
  go_wp2_with fail
  go_loopw [3, 5, 6, 8, 16] (fun v _ _ _ j wr => ∃ k : Nat, k ≤ N ∧ j = .int .i64 k ∧ Hid (OwnN wr w.heap.size v (toI ((rs.take k).map (Lv.broRow N)))) ∧ Hid (Later w wr)) (fun _ _ _ _ j _ => N - (intOf j).toNat)
  case atStart => exact ⟨0, Nat.zero_le _, rfl, Lib.hid (OwnN.nil _ _), Lib.hid (Later.refl w)⟩
  case round =>
    obtain ⟨k, hk, rfl, hO, hL⟩ := hrel
    by_cases hkN : k < N
    · obtain ⟨b1, o1, Ai, ci, rfl, hb1, hc1, hci, hcm, hB1⟩ := (HR.out.later hL.out) k (by omega)
      have HB1 := Lib.hid hB1
      obtain ⟨r, hr⟩ : ∃ r, rs.getD k [] = r := ⟨_, rfl⟩
      rw [hr] at hc1 hci HB1
      have Hr := Lib.hid hr
      obtain ⟨m, hm⟩ : ∃ m, min r.length 10 = m := ⟨_, rfl⟩
      have hmin2 : min (r.length : Int) 10 = (m : Int) := by omega
      have Hm := Lib.hid hm
      have hm1 : m ≤ r.length := by omega
      have hm2 : m ≤ 10 := by omega
      have hm3 : m ≤ ci := by omega
      have hr0 : w.heap.size ≤ wr.heap.size := hL.out.below.size
      obtain ⟨w0, hw0⟩ : ∃ w0, w0 = wr := ⟨_, rfl⟩
      subst hw0
      clear hr hm hB1
      have hN0 : ((N : Int) == 0) = false := by rw [beq_eq_false_iff_ne]; omega
      go_wp2_with fail
      go_loopw [6, 8, 26] (fun v _ j wr => ∃ q : Nat, q ≤ m ∧ j = .int .i64 q ∧ Hid (OwnL wr w0.heap.size v ((r.take q).map (· % N))) ∧ Hid (Later w0 wr)) (fun _ _ j _ => m - (intOf j).toNat)
      case atStart => exact ⟨0, Nat.zero_le _, rfl, Lib.hid (OwnL.nil _ _), Lib.hid (Later.refl w0)⟩
      case round =>
        obtain ⟨q, hq, rfl, hOw, hL1⟩ := hrel
        by_cases hqm : q < m
        · obtain ⟨b2, o2, rfl, hb2, hc2, hx2⟩ := (HB1.out.later hL1.out) q (by omega)
          obtain ⟨x, hx⟩ : ∃ x, r.getD q 0 = x := ⟨_, rfl⟩
          rw [hx] at hc2 hx2
          have Hx := Lib.hid hx
          clear hx
          obtain ⟨y, hy⟩ : ∃ y, x % N = y := ⟨_, rfl⟩
          have hmod : (x : Int) % (N : Int) = ((y : Nat) : Int) := by rw [← hy]; rfl
          have hlen : ((r.take q).map (· % N)).length = q := by rw [List.length_map, List.length_take]; omega
          have hnext : (r.take (q + 1)).map (· % N) = (r.take q).map (· % N) ++ [y] := by
            have e : r[q]'(by omega) = x := by rw [← Hx.out, List.getD_eq_getElem?_getD, List.getElem?_eq_getElem (by omega)]; rfl
            rw [List.take_succ_eq_append_getElem (by omega), List.map_append, e, ← hy]
            rfl
          obtain ⟨l, hl⟩ : ∃ l, (r.take q).map (· % N) = l := ⟨_, rfl⟩
          rw [hl] at hOw hlen hnext
          have Hnext := Lib.hid hnext
          have hr1 : w0.heap.size ≤ wr.heap.size := hL1.out.below.size
          obtain ⟨Ap, cp, hv, _, hob⟩ := hOw.out.form
          have Hob := Lib.hid hob
          subst hv hlen
          clear hob hl hy hnext
          go_wp2_with (at_builtin; refine wpList_append_own_at _ rfl _ _ 26 rfl w0.heap.size 3 i3 (.int .i64 0) 1 8 Try.underlying26 hi3 hz3 hs3 hy3 rfl (by decide) _ _ _ rfl (World.ownsRow.alloc hOw.out _) ⟨wr.heap.size, 0, none⟩ 1 1 [.int .i64 (y : Nat)] rfl rfl (cell_one_new _ _ _) (fun x hx => by simp at hx; subst hx; rfl) (by unfold maxLen; omega) (by omega) (by simp; omega) ?_; intro v' w5 hown5 hgrow5 hnil5 hat5; have HO5 := Lib.hid ((Only.of_later hL1.out fun k => w0.heap.size ≤ k).trans (((Only.refl wr fun c => (Value.slice Ap l.length cp).ownBlock = some c).alloc _).trans (Only.grown hgrow5) (fun _ _ h => h)) (fun c _ e => (Hob.out c e).1)); have Hown5 := Lib.hid (OwnL.snoc hown5); clear hown5 hgrow5 hnil5 hat5)
          go_roundw
          case rel => exact ⟨l.length + 1, by omega, by go_num, Lib.hid (by rw [Hnext.out]; exact Hown5.out), Lib.hid HO5.out.later⟩
          case measure => simp [intOf]; omega
        · obtain rfl : q = m := by omega
          obtain ⟨l, hl⟩ : ∃ l, (r.take q).map (· % N) = l := ⟨_, rfl⟩
          have hbr : Lv.broRow N r = l := by
            rw [← hl, ← Hm.out]
            unfold Lv.broRow
            rw [Nat.min_comm, ← List.take_eq_take_min]
          rw [hl] at hOw
          have hnext : toI ((rs.take (k + 1)).map (Lv.broRow N)) = toI ((rs.take k).map (Lv.broRow N)) ++ [ints l] := by
            have e : rs[k]'(by omega) = r := by rw [← Hr.out, List.getD_eq_getElem?_getD, List.getElem?_eq_getElem (by omega)]; rfl
            rw [List.take_succ_eq_append_getElem (by omega), List.map_append, e]
            unfold toI
            rw [List.map_append, ← hbr]
            rfl
          have hlen : (toI ((rs.take k).map (Lv.broRow N))).length = k := by rw [toI_len, List.length_map, List.length_take]; omega
          obtain ⟨ls, hls⟩ : ∃ ls, toI ((rs.take k).map (Lv.broRow N)) = ls := ⟨_, rfl⟩
          rw [hls] at hnext hO hlen
          have Hnext := Lib.hid hnext
          have hr1 : w0.heap.size ≤ wr.heap.size := hL1.out.below.size
          obtain ⟨vs, ho1, ho2⟩ := hO.out.later hL1.out
          obtain ⟨Ax, cx, hv, _, _⟩ := hOw.out.form
          have HX := Lib.hid (hOw.out.int.mono hr0)
          subst hv
          have Ho1 := Lib.hid ho1
          have Ho2 := Lib.hid ho2
          have hob : ∀ b, u3.ownBlock = some b → w.heap.size ≤ b := fun b hb => by
            obtain ⟨_, _, _, _, h⟩ := (hO.out.later hL1.out).form
            exact (h b hb).1
          have Hob := Lib.hid hob
          have HL2 := Lib.hid (hL.out.trans hL1.out)
          clear hl hbr hls hnext ho1 ho2 hob
          subst hlen
          go_wp2_with (at_builtin; refine wpList_append_own_at _ rfl _ _ 24 rfl w.heap.size 26 i26 (.slice none 0 0) 1 24 Try.underlying24 hi26 hz26 hs26 hy26 rfl (by decide) _ _ _ rfl (World.ownsRow.alloc Ho1.out _) ⟨wr.heap.size, 0, none⟩ 1 1 [.slice Ax l.length cx] rfl rfl (cell_one_new _ _ _) (fun x hx => by simp at hx; subst hx; rfl) (by unfold maxLen; omega) (by omega) (by simp; omega) ?_; intro v' w5 hown5 hgrow5 hnil5 hat5; have HO5 := Lib.hid ((Only.of_later HL2.out fun k => w.heap.size ≤ k).trans (((Only.refl wr fun c => u3.ownBlock = some c).alloc _).trans (Only.grown hgrow5) (fun _ _ h => h)) (fun c _ e => Hob.out c e)); have Hown5 := Lib.hid (OwnN.snoc Ho1.out Ho2.out HX.out hown5 hgrow5); clear hown5 hgrow5 hnil5 hat5)
          go_roundw
          case rel => exact ⟨ls.length + 1, by omega, by go_num, Lib.hid (by rw [Hnext.out]; exact Hown5.out), Lib.hid HO5.out.later⟩
          case measure => simp [intOf]; omega
    · obtain rfl : k = N := by omega
      go_wp2_with fail
      go_ret
      have h1 := hO.out
      have e : Lv.bro rs = (rs.take k).map (Lv.broRow k) := by
        unfold Lv.bro
        rw [HN.out, ← HN.out, Nat.min_comm, ← List.take_eq_take_min]
      rw [← e] at h1
      exact ⟨_, rfl, h1, hL.out⟩
end Go.Proofs.Ytbdhjoanjlkggaa
