/-
  No statement of the seat is proved here. Contract of the law's own few.
-/
import Derived.Test.YtbdhjoanjlkggaaOpens
import Derived.Test.YtbdhjoanjlkggaaDL
import Derived.Lib.SliceRun
import Derived.Outline
namespace Go.Proofs.Ytbdhjoanjlkggaa
open Go Go.RowKit
set_option linter.unusedVariables false
theorem clone_empty (A : Option Addr) (c : Nat) (w : World) : Calls Try.prog 13 #[.slice A 0 c] w (RetI w []) := by
  cases A with
  | none =>
    have := clone13 [] none c w (ints_nil w none) (by simp) (fun a h => by cases h)
    exact this
  | some a =>
    have heq := fun w => Lib.run_eql_slice_nil (P := Try.prog) w 26 3 (some a) 0 c 0 0 Try.underlying26
    go_enter Try.func13, Try.ntmps13
    go_wp2_with fail
    go_ret
    exact ⟨_, rfl, ⟨rfl, .inr ⟨w.heap.size, 0, #[], rfl, Nat.le_refl _, block_lit (Later.refl _), Nat.le_refl _, Nat.zero_le _, rfl, rfl⟩⟩, (Later.refl w).alloc _⟩
theorem clone_ints (l : List Int) (A : Option Addr) (c : Nat) (w : World) (hI : IntsR w A l) (hn : l.length ≤ 1000000) : Calls Try.prog 13 #[.slice A l.length c] w (RetI w l) := by
  rcases l with _ | ⟨x, l⟩
  · exact clone_empty A c w
  · refine clone13 _ A c w hI hn (fun a h => ?_)
    obtain ⟨b, off, hA, _⟩ := hI 0 (by simp)
    rw [hA] at h
    injection h with h
    rw [← h]
/-- Rows of ints that may be cut. -/
def FewIn (w : World) (A : Option Addr) (rs : List (List Int)) : Prop :=
  ∀ i, i < rs.length → ∃ b off Ai ci, A = some ⟨b, off, none⟩ ∧ b < w.heap.size ∧ w.cell? ⟨b, off + i, none⟩ = some (.slice Ai (rs.getD i []).length ci) ∧ (rs.getD i []).length ≤ ci ∧ ci ≤ 9223372036854775807 ∧ IntsR w Ai (rs.getD i [])
theorem FewIn.later {w w' : World} {A : Option Addr} {rs : List (List Int)} (h : FewIn w A rs) (hl : Later w w') : FewIn w' A rs := by
  intro i hi
  obtain ⟨b, off, Ai, ci, hA, hb, hc, h1, h2, hr⟩ := h i hi
  exact ⟨b, off, Ai, ci, hA, later_lt hl hb, by rw [cell_later' hl hb]; exact hc, h1, h2, hr.later hl⟩
theorem KRow.ints {w : World} {A : Option Addr} {l : List Int} (h : KRow w .i64 A l) : IntsR w A l := by
  intro p hp
  obtain ⟨b, off, hA, hb, hc, _⟩ := h p hp
  exact ⟨b, off, hA, hb, hc⟩
theorem KRows.few {w : World} {A : Option Addr} {rs : List (List Int)} (h : KRows w .i64 A rs) : FewIn w A rs := by
  intro i hi
  obtain ⟨b, off, Ai, ci, hA, hb, hc, h1, h2, hr⟩ := h i hi
  exact ⟨b, off, Ai, ci, hA, hb, hc, h1, h2, hr.ints⟩
theorem OwnI.cap {w : World} {base n c : Nat} {A : Option Addr} {l : List Int} (h : OwnI w base (.slice A n c) l) : c ≤ 9223372036854775807 := by
  rcases h.2 with ⟨e, _⟩ | ⟨g, cap, cur, e, _, _, _, h2, _⟩
  · injection e with _ _ e; omega
  · injection e with _ _ e; unfold maxLen at h2; omega
theorem OwnN.few {w : World} {base n c : Nat} {A : Option Addr} {ns : List (List Int)} (h : OwnN w base (.slice A n c) ns) : FewIn w A ns := by
  intro i hi
  obtain ⟨g, rfl, _, hg, _⟩ := h.addr (by omega)
  obtain ⟨u, hu, hO⟩ := h.cell hi
  obtain ⟨Ai, ci, rfl, hl, hI, _, _⟩ := hO.form
  exact ⟨g, 0, Ai, ci, rfl, hg, by rw [Nat.zero_add]; exact hu, hl, hO.cap, hI⟩
theorem IntsR.take {w : World} {A : Option Addr} {l : List Int} (h : IntsR w A l) (m : Nat) : IntsR w A (l.take m) := by
  intro p hp
  rw [List.length_take] at hp
  obtain ⟨b, off, hA, hb, hc⟩ := h p (by omega)
  refine ⟨b, off, hA, hb, ?_⟩
  rw [hc, List.getD_eq_getElem?_getD, List.getD_eq_getElem?_getD, List.getElem?_take, if_pos (by omega)]
def Lv.few (rs : List (List Int)) : List (List Int) := (rs.take 60).map fun r => r.take 20
set_option maxRecDepth 100000 in
set_option maxHeartbeats 4000000 in
theorem few_any (rs : List (List Int)) (A : Option Addr) (c : Nat) (w : World) (hR : FewIn w A rs) (hn : rs.length ≤ c) (hc : c ≤ 9223372036854775807) : Calls Try.prog 12 #[.slice A rs.length c] w (RetNN w (Lv.few rs)) := by
  obtain ⟨i26, hi26, hz26, hs26, hy26⟩ := info_parts (P := Try.prog) (e := 26) (z := .slice none 0 0) (size := 1) (bytes := 24) info26
  have HR := Lib.hid hR
  clear hR
  go_enter Try.func12, Try.ntmps12
  go_wp2_with fail
  go_loopw [3, 4, 5, 8] (fun v _ _ j wr => ∃ k : Nat, k ≤ rs.length ∧ k ≤ 60 ∧ j = .int .i64 k ∧ Hid (OwnN wr w.heap.size v ((rs.take k).map fun r => r.take 20)) ∧ Hid (Later w wr)) (fun _ _ _ j _ => rs.length - (intOf j).toNat)
  case atStart => exact ⟨0, Nat.zero_le _, Nat.zero_le _, rfl, Lib.hid (OwnN.nil _ _), Lib.hid (Later.refl _)⟩
  case round =>
    obtain ⟨k, hk, hk6, rfl, hO, hL⟩ := hrel
    by_cases hkl : k < rs.length
    · obtain ⟨b1, o1, Ai, ci, rfl, hb1, hc1, hci, hcm, hI⟩ := (HR.out.later hL.out) k hkl
      by_cases h60 : k = 60
      · subst h60
        go_wp2_with fail
        go_ret
        exact ⟨_, rfl, hO.out, hL.out⟩
      · obtain ⟨r, hr⟩ : ∃ r, rs.getD k [] = r := ⟨_, rfl⟩
        rw [hr] at hc1 hci hI
        obtain ⟨m, hm⟩ : ∃ m, min r.length 20 = m := ⟨_, rfl⟩
        have hmin2 : min (r.length : Int) 20 = (m : Int) := by omega
        have hm1 : m ≤ r.length := by omega
        have hm3 : m ≤ ci := by omega
        have hrl : (r.take 20).length = m := by rw [List.length_take]; omega
        have h60' : ((k : Int) == 60) = false := by rw [beq_eq_false_iff_ne]; omega
        have HC := Lib.hid (fun w' h => by have := clone_ints (r.take 20) Ai ci w' h (by rw [hrl]; omega); rw [hrl] at this; exact this)
        have HI := Lib.hid (hI.take 20)
        have hnext : (rs.take (k + 1)).map (fun r => r.take 20) = (rs.take k).map (fun r => r.take 20) ++ [r.take 20] := by
          have e : rs[k] = r := by rw [← hr, List.getD_eq_getElem?_getD, List.getElem?_eq_getElem hkl]; rfl
          rw [List.take_succ_eq_append_getElem hkl, List.map_append, e]
          rfl
        have hlen : ((rs.take k).map fun r => r.take 20).length = k := by rw [List.length_map, List.length_take]; omega
        obtain ⟨ls, hls⟩ : ∃ ls, ((rs.take k).map fun r => r.take 20) = ls := ⟨_, rfl⟩
        rw [hls] at hnext hO hlen
        have Hnext := Lib.hid hnext
        have hr1 : w.heap.size ≤ wr.heap.size := hL.out.below.size
        obtain ⟨l, hl⟩ : ∃ l, r.take 20 = l := ⟨_, rfl⟩
        rw [hl] at HC HI Hnext hrl
        clear hr hm hI hnext hls hl
        subst hlen
        subst hrl
        go_wp2_with (first
          | (at_builtin; have hq := hL5; refine wpList_append_own_at _ rfl _ _ 24 rfl w.heap.size 26 i26 (.slice none 0 0) 1 24 Try.underlying24 hi26 hz26 hs26 hy26 rfl (by decide) _ _ _ rfl (World.ownsRow.alloc Ho1.out _) ⟨w5.heap.size, 0, none⟩ 1 1 [.slice Ax l.length cx] rfl rfl (cell_one_new _ _ _) (fun x hx => by simp at hx; subst hx; rfl) (by unfold maxLen; omega) (by omega) (by simp; omega) ?_; intro v' w6 hown6 hgrow6 hnil6 hat6; have HO6 := Lib.hid ((Only.of_later HL5.out fun k => w.heap.size ≤ k).trans (((Only.refl w5 fun c => u3.ownBlock = some c).alloc _).trans (Only.grown hgrow6) (fun _ _ h => h)) (fun c _ e => Hob.out c e)); have Hown6 := Lib.hid (OwnN.snoc Ho1.out Ho2.out HX.out hown6 hgrow6); clear hown6 hgrow6 hnil6 hat6)
          | (go_at_call 13; refine (HC.out _ HI.out).mono ?_; rintro e w5 ⟨v5, rfl, hO5, hL5⟩; obtain ⟨Ax, cx, rfl, _, _, _, _⟩ := hO5.form; have HX := Lib.hid (hO5.mono hr1); obtain ⟨vs, ho1, ho2⟩ := hO.out.later hL5; have Ho1 := Lib.hid ho1; have Ho2 := Lib.hid ho2; have HL5 := Lib.hid (hL.out.trans hL5); have Hob : Hid (∀ b, u3.ownBlock = some b → w.heap.size ≤ b) := Lib.hid (fun b hb => by obtain ⟨_, _, _, _, h⟩ := hO.out.form; exact (h b hb).1); have hs5 := hL5.below.size; clear ho1 ho2 hO5))
        go_roundw
        case rel => exact ⟨ls.length + 1, by omega, by omega, by go_num, Lib.hid (by rw [Hnext.out]; exact Hown6.out), Lib.hid HO6.out.later⟩
        case measure => simp [intOf]; omega
    · obtain rfl : k = rs.length := by omega
      have hO' := hO.out
      rw [List.take_length] at hO'
      have e : Lv.few rs = rs.map fun r => r.take 20 := by unfold Lv.few; rw [List.take_of_length_le hk6]
      rw [← e] at hO'
      go_wp2_with fail
      go_ret
      exact ⟨_, rfl, hO', hL.out⟩
end Go.Proofs.Ytbdhjoanjlkggaa
