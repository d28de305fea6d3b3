/-
  No statement of the seat is proved here. Contract of the document's Layers.
-/
import Derived.Test.YtbdhjoanjlkggaaRD
namespace Go.Proofs.Ytbdhjoanjlkggaa
open Go Go.RowKit
set_option linter.unusedVariables false
namespace Lv
def most (l : List Int) : Int := l.foldl max (-1)
theorem most_next {l : List Int} {i : Nat} {x : Int} (hi : i < l.length) (hx : l.getD i 0 = x) : most (l.take (i + 1)) = max (most (l.take i)) x := by
  have e : l[i] = x := by rw [← hx, List.getD_eq_getElem?_getD, List.getElem?_eq_getElem hi]; rfl
  unfold most
  rw [List.take_succ_eq_append_getElem hi, List.foldl_append, e]
  rfl
theorem foldl_max (l : List Int) : ∀ a b : Int, l.foldl max (max a b) = max a (l.foldl max b) := by
  induction l with
  | nil => intro a b; rfl
  | cons x l ih => intro a b; rw [List.foldl_cons, List.foldl_cons, Int.max_assoc, ih]
theorem most_layers (l : List Int) : ∃ L : Nat, most l + 1 = L ∧ layersL l = (List.range L).map fun k => ints (layer l l.length k) := by
  by_cases h0 : l.length = 0
  · have : l = [] := List.length_eq_zero_iff.1 h0
    subst this
    exact ⟨0, rfl, rfl⟩
  · refine ⟨layersN l, ?_, by unfold layersL; rw [if_neg h0]⟩
    have e : most l = max (-1) (maxL l) := by
      unfold most maxL
      rw [← foldl_max]
      rcases l with _ | ⟨x, l⟩
      · simp at h0
      · show List.foldl max (-1) (x :: l) = List.foldl max (max (-1) x) (x :: l)
        rw [List.foldl_cons, List.foldl_cons, Int.max_assoc, Int.max_self]
    unfold layersN
    omega
end Lv
set_option maxRecDepth 100000 in
set_option maxHeartbeats 4000000 in
theorem reflayers (l : List Int) (A : Option Addr) (c : Nat) (w : World) (hI : IntsR w A l) (hn : l.length ≤ 1000) (hb : ∀ i, i < l.length → -1000 ≤ l.getD i 0 ∧ l.getD i 0 ≤ 1000) :
    Calls Try.prog 25 #[.slice A l.length c] w (RetNN w (Lv.layersL l)) := by
  obtain ⟨i26, hi26, hz26, hs26, hy26⟩ := info_parts (P := Try.prog) (e := 26) (z := .slice none 0 0) (size := 1) (bytes := 24) info26
  obtain ⟨i3, hi3, hz3, hs3, hy3⟩ := info_parts (P := Try.prog) (e := 3) (z := .int .i64 0) (size := 1) (bytes := 8) info3
  have HI := Lib.hid hI
  have HB := Lib.hid hb
  obtain ⟨L, hL, hLe⟩ := Lv.most_layers l
  have HL := Lib.hid hL
  have HLe := Lib.hid hLe
  clear hI hb hL hLe
  go_enter Try.func25, Try.ntmps25
  go_wp2_with fail
  go_loopw [3, 4] (fun mv ix wr => ∃ (i : Nat) (m : Int), i ≤ l.length ∧ ix = .int .i64 i ∧ mv = .int .i64 m ∧ -1 ≤ m ∧ m ≤ 1000 ∧ Hid (m = Lv.most (l.take i)) ∧ wr = w) (fun _ ix _ => l.length - (intOf ix).toNat)
  case atStart => exact ⟨0, -1, Nat.zero_le _, rfl, rfl, by omega, by omega, Lib.hid rfl, rfl⟩
  case round =>
    obtain ⟨i, m, hi, rfl, rfl, hm1, hm2, hm, rfl⟩ := hrel
    by_cases hil : i < l.length
    · obtain ⟨b1, o1, rfl, hb1, hc1⟩ := HI.out i hil
      have hbx := HB.out i hil
      obtain ⟨x, hx⟩ : ∃ x, l.getD i 0 = x := ⟨_, rfl⟩
      rw [hx] at hc1 hbx
      have Hn := Lib.hid (Lv.most_next hil hx)
      clear hx
      by_cases hmx : m < x
      · go_wp2_with fail
        go_roundw
        case rel => exact ⟨i + 1, x, by omega, by go_num, rfl, by omega, by omega, Lib.hid (by rw [Hn.out, ← hm.out, Int.max_eq_right (by omega)]), trivial⟩
        case measure => simp [intOf]; omega
      · go_wp2_with fail
        go_roundw
        case rel => exact ⟨i + 1, m, by omega, by go_num, rfl, by omega, by omega, Lib.hid (by rw [Hn.out, ← hm.out, Int.max_eq_left (by omega)]), trivial⟩
        case measure => simp [intOf]; omega
    · obtain rfl : i = l.length := by omega
      have hmL : m + 1 = (L : Int) := by have := hm.out; rw [List.take_length] at this; rw [this]; exact HL.out
      have hLb : L ≤ 1001 := by omega
      clear hm
      obtain ⟨w0, hw0⟩ : ∃ w0, w0 = wr := ⟨_, rfl⟩
      subst hw0
      go_wp2_with fail
      go_loopw [5, 6, 7, 8] (fun v ix _ _ wr => ∃ k : Nat, k ≤ L ∧ ix = .int .i64 k ∧ Hid (OwnN wr w0.heap.size v ((List.range k).map fun k => ints (Lv.layer l l.length k))) ∧ Hid (Later w0 wr)) (fun _ ix _ _ _ => L - (intOf ix).toNat)
      case atStart => exact ⟨0, Nat.zero_le _, rfl, Lib.hid (OwnN.nil _ _), Lib.hid (Later.refl _)⟩
      case round =>
        obtain ⟨k, hk, rfl, hO, hL⟩ := hrel
        by_cases hkL : k < L
        · have hkm : (k : Int) ≤ m := by omega
          have hr0 : w0.heap.size ≤ wr.heap.size := hL.out.below.size
          obtain ⟨w1, hw1⟩ : ∃ w1, w1 = wr := ⟨_, rfl⟩
          subst hw1
          go_wp2_with fail
          go_loopw [7, 8] (fun v ix wr => ∃ q : Nat, q ≤ l.length ∧ ix = .int .i64 q ∧ Hid (OwnL wr w1.heap.size v (Lv.layer l q k)) ∧ Hid (Later w1 wr)) (fun _ ix _ => l.length - (intOf ix).toNat)
          case atStart => exact ⟨0, Nat.zero_le _, rfl, Lib.hid (OwnL.nil _ _), Lib.hid (Later.refl _)⟩
          case round =>
            obtain ⟨q, hq, rfl, hOw, hL1⟩ := hrel
            by_cases hql : q < l.length
            · obtain ⟨b1, o1, rfl, hb1, hc1⟩ := (HI.out.later (hL.out.trans hL1.out)) q hql
              obtain ⟨x, hx⟩ : ∃ x, l.getD q 0 = x := ⟨_, rfl⟩
              rw [hx] at hc1
              have hnx : Lv.layer l (q + 1) k = Lv.layer l q k ++ (if x = (k : Int) then [q] else []) := by
                unfold Lv.layer
                rw [List.range_succ, List.filter_append]
                congr 1
                simp only [List.filter_cons, List.filter_nil, hx]
                by_cases e : x = (k : Int)
                · simp [e]
                · simp [e]
              have hll := Lv.layer_len l q k
              by_cases hxk : x = (k : Int)
              · rw [if_pos hxk] at hnx
                subst hxk
                obtain ⟨ll, hlle⟩ : ∃ ll, Lv.layer l q k = ll := ⟨_, rfl⟩
                rw [hlle] at hOw hnx hll
                have Hnx := Lib.hid hnx
                have hr1 : w1.heap.size ≤ wr.heap.size := hL1.out.below.size
                obtain ⟨Ap, cp, hv, _, hob⟩ := hOw.out.form
                have Hob := Lib.hid hob
                subst hv
                clear hob hlle hnx hx
                go_wp2_with (at_builtin; refine wpList_append_own_at _ rfl _ _ 26 rfl w1.heap.size 3 i3 (.int .i64 0) 1 8 Try.underlying26 hi3 hz3 hs3 hy3 rfl (by decide) _ _ _ rfl (World.ownsRow.alloc hOw.out _) ⟨wr.heap.size, 0, none⟩ 1 1 [.int .i64 (q : Nat)] rfl rfl (cell_one_new _ _ _) (fun x hx => by simp at hx; subst hx; rfl) (by unfold maxLen; omega) (by omega) (by simp; omega) ?_; intro v' w5 hown5 hgrow5 hnil5 hat5; have HO5 := Lib.hid ((Only.of_later hL1.out fun k => w1.heap.size ≤ k).trans (((Only.refl wr fun c => (Value.slice Ap ll.length cp).ownBlock = some c).alloc _).trans (Only.grown hgrow5) (fun _ _ h => h)) (fun c _ e => (Hob.out c e).1)); have Hown5 := Lib.hid (OwnL.snoc hown5); clear hown5 hgrow5 hnil5 hat5)
                go_roundw
                case rel => exact ⟨q + 1, by omega, by go_num, Lib.hid (by rw [Hnx.out]; exact Hown5.out), Lib.hid HO5.out.later⟩
                case measure => simp [intOf]; omega
              · rw [if_neg hxk, List.append_nil] at hnx
                have Hnx := Lib.hid hnx
                have hne : (x == (k : Int)) = false := by rw [beq_eq_false_iff_ne]; exact hxk
                clear hnx hx
                go_wp2_with fail
                go_roundw
                case rel => exact ⟨q + 1, by omega, by go_num, Lib.hid (by rw [Hnx.out]; exact hOw.out), hL1⟩
                case measure => simp [intOf]; omega
            · obtain rfl : q = l.length := by omega
              have hnext : ((List.range (k + 1)).map fun k => ints (Lv.layer l l.length k)) = ((List.range k).map fun k => ints (Lv.layer l l.length k)) ++ [ints (Lv.layer l l.length k)] := by
                rw [List.range_succ, List.map_append]; rfl
              have hlen : ((List.range k).map fun k => ints (Lv.layer l l.length k)).length = k := by rw [List.length_map, List.length_range]
              obtain ⟨ls, hls⟩ : ∃ ls, ((List.range k).map fun k => ints (Lv.layer l l.length k)) = ls := ⟨_, rfl⟩
              rw [hls] at hnext hO hlen
              obtain ⟨ll, hlle⟩ : ∃ ll, Lv.layer l l.length k = ll := ⟨_, rfl⟩
              rw [hlle] at hOw hnext
              have Hnext := Lib.hid hnext
              have hr1 : w1.heap.size ≤ wr.heap.size := hL1.out.below.size
              obtain ⟨vs, ho1, ho2⟩ := hO.out.later hL1.out
              obtain ⟨Ax, cx, hv, _, _⟩ := hOw.out.form
              have HX := Lib.hid (hOw.out.int.mono hr0)
              subst hv
              have Ho1 := Lib.hid ho1
              have Ho2 := Lib.hid ho2
              have hob : ∀ b, u5.ownBlock = some b → w0.heap.size ≤ b := fun b hb => by
                obtain ⟨_, _, _, _, h⟩ := (hO.out.later hL1.out).form
                exact (h b hb).1
              have Hob := Lib.hid hob
              have HL2 := Lib.hid (hL.out.trans hL1.out)
              clear hls hlle hnext ho1 ho2 hob
              subst hlen
              go_wp2_with (at_builtin; refine wpList_append_own_at _ rfl _ _ 24 rfl w0.heap.size 26 i26 (.slice none 0 0) 1 24 Try.underlying24 hi26 hz26 hs26 hy26 rfl (by decide) _ _ _ rfl (World.ownsRow.alloc Ho1.out _) ⟨wr.heap.size, 0, none⟩ 1 1 [.slice Ax ll.length cx] rfl rfl (cell_one_new _ _ _) (fun x hx => by simp at hx; subst hx; rfl) (by unfold maxLen; omega) (by omega) (by simp; omega) ?_; intro v' w5 hown5 hgrow5 hnil5 hat5; have HO5 := Lib.hid ((Only.of_later HL2.out fun k => w0.heap.size ≤ k).trans (((Only.refl wr fun c => u5.ownBlock = some c).alloc _).trans (Only.grown hgrow5) (fun _ _ h => h)) (fun c _ e => Hob.out c e)); have Hown5 := Lib.hid (OwnN.snoc Ho1.out Ho2.out HX.out hown5 hgrow5); clear hown5 hgrow5 hnil5 hat5)
              go_roundw
              case rel => exact ⟨ls.length + 1, by omega, by go_num, Lib.hid (by rw [Hnext.out]; exact Hown5.out), Lib.hid HO5.out.later⟩
              case measure => simp [intOf]; omega
        · obtain rfl : k = L := by omega
          have hkm : ¬ (k : Int) ≤ m := by omega
          go_wp2_with fail
          go_ret
          exact ⟨_, rfl, by rw [HLe.out]; exact hO.out, hL.out⟩
end Go.Proofs.Ytbdhjoanjlkggaa
