/-
  No statement of the seat is proved here. container/heap.down over level.ready, for every heap.
-/
import Derived.Test.YtbdhjoanjlkggaaHeap
namespace Go.Proofs.Ytbdhjoanjlkggaa
open Go Go.RowKit Hp
set_option linter.unusedVariables false
def DSifted (w : World) (base b g n m cap : Nat) (f : Nat → Int) (e : Ending) (w' : World) : Prop := ∃ v : Bool, Sifted w base b g n m cap f (.bool v) e w'
set_option maxHeartbeats 8000000 in
theorem down43 {base b g n m cap : Nat} {f : Nat → Int} {w : World} (h : HeapAt w base b g n cap f) (hd : DownAt m 0 f) (hm : m ≤ n) (hn : n ≤ 100000) :
    Calls Try.prog 43 #[.iface 61 (.pointer (some ⟨b, 0, none⟩)), .int .i64 0, .int .i64 m] w (DSifted w base b g n m cap f) := by
  have H0 := Lib.hid h
  have HU := Lib.hid hd
  clear h hd
  go_enter Try.func43, Try.ntmps43
  go_wp2_with fail
  go_loopw [7, 8, 9, 10] (fun q _ _ _ wr => ∃ (i : Nat) (f' : Nat → Int), (i = 0 ∨ i < m) ∧ q = .int .i64 i ∧ Hid (HeapAt wr base b g n cap f') ∧ Hid (DownAt m i f') ∧ Hid (∀ k, m ≤ k → k < n → f' k = f k) ∧ Hid (Inj m f → Inj m f') ∧ Hid (∀ x, Has m f' x ↔ Has m f x) ∧ Hid (Only w wr fun k => k = g)) (fun q _ _ _ _ => m - (intOf q).toNat)
  case atStart => exact ⟨0, f, .inl rfl, rfl, H0, HU, Lib.hid (fun k _ _ => rfl), Lib.hid id, Lib.hid (fun x => Iff.rfl), Lib.hid (Only.refl _ _)⟩
  case round =>
    obtain ⟨i, f', hi, rfl, hH, hU, hT, hI, hX, hO⟩ := hrel
    have q1 := hH.out.box.cell
    have q2 := hH.out.box.lt
    have ml := meth_less b (some ⟨g, 0, none⟩) n cap
    have ms := meth_swap b (some ⟨g, 0, none⟩) n cap
    by_cases h1 : m ≤ 2 * i + 1
    · have hord := Lib.hid (down_done hU.out (fun k k1 k2 k3 => by omega))
      go_wp2_with fail
      go_ret
      exact ⟨_, rfl, f', hH.out, hord.out, hT.out, hI.out, hX.out, hO.out⟩
    · have him : i < m := by omega
      have j1n : 2 * i + 1 < n := by omega
      have hin : i < n := by omega
      by_cases h2 : m ≤ 2 * i + 1 + 1
      · have hmin := Lib.hid (fun k (k1 : 1 ≤ k) (k2 : k < m) (k3 : (k - 1) / 2 = i) => (by rw [show k = 2 * i + 1 by omega]; exact Int.le_refl _ : f' (2 * i + 1) ≤ f' k))
        by_cases hlt : f' (2 * i + 1) < f' i
        · have HL2 := Lib.hid (fun w' (h : Rw w' base g n cap f') => less_is (v := true) (i := 2 * i + 1) (j := i) h (by omega) hin (by simpa using hlt))
          have HSt := Lib.hid (down_step hU.out (j := 2 * i + 1) (by omega) (by omega) (by omega) hmin.out hlt)
          clear hlt
          go_wp2_with (first
            | (go_at_call 60; refine (HL2.out _ (hH.out.row.later (Later.refl _))).mono ?_; rintro e w2 ⟨rfl, g2, rfl⟩)
            | (go_at_call 63; refine (swap_any (i := i) (j := 2 * i + 1) (hH.out.row.later ((Later.refl _).more _)) hin (by omega)).mono ?_; rintro e w3 hsw; obtain rfl := hsw.1; have Hsw := Lib.hid hsw; clear hsw))
          go_roundw
          case rel => exact ⟨2 * i + 1, swp f' i (2 * i + 1), .inr (by omega), by go_num, Lib.hid ((hH.out.later ((Later.refl _).more _)).swapped Hsw.out), HSt, Lib.hid (fun k k1 k2 => (swp_o f' (by omega) (by omega)).trans (hT.out k k1 k2)), Lib.hid (fun h => inj_swp (hI.out h) him (by omega)), Lib.hid (fun x => (has_swp him (by omega) x).trans (hX.out x)), Lib.hid ((hO.out.more _).trans Hsw.out.2.2 (fun _ _ h => h))⟩
          case measure => simp [intOf]; omega
        · have HL2 := Lib.hid (fun w' (h : Rw w' base g n cap f') => less_is (v := false) (i := 2 * i + 1) (j := i) h (by omega) hin (by simpa using hlt))
          have hord := Lib.hid (down_done hU.out (fun k k1 k2 k3 => by have := hmin.out k k1 k2 k3; omega))
          clear hlt
          go_wp2_with (first
            | (go_at_call 60; refine (HL2.out _ (hH.out.row.later (Later.refl _))).mono ?_; rintro e w2 ⟨rfl, g2, rfl⟩))
          go_ret
          exact ⟨_, rfl, f', hH.out.later ((Later.refl _).more _), hord.out, hT.out, hI.out, hX.out, hO.out.more _⟩
      · have tok1 : True := trivial
        have j2n : 2 * i + 1 + 1 < n := by omega
        by_cases h12 : f' (2 * i + 1 + 1) < f' (2 * i + 1)
        · have HL1 := Lib.hid (fun w' (h : Rw w' base g n cap f') => less_is (v := true) (i := 2 * i + 1 + 1) (j := 2 * i + 1) h j2n j1n (by simpa using h12))
          have hmin := Lib.hid (fun k (k1 : 1 ≤ k) (k2 : k < m) (k3 : (k - 1) / 2 = i) => (by
            by_cases e : k = 2 * i + 1
            · rw [e]; omega
            · rw [show k = 2 * i + 1 + 1 by omega]; exact Int.le_refl _ : f' (2 * i + 1 + 1) ≤ f' k))
          clear h12
          by_cases hlt : f' (2 * i + 1 + 1) < f' i
          · have HL2 := Lib.hid (fun w' (h : Rw w' base g n cap f') => less_is (v := true) (i := 2 * i + 1 + 1) (j := i) h (by omega) hin (by simpa using hlt))
            have HSt := Lib.hid (down_step hU.out (j := 2 * i + 1 + 1) (by omega) (by omega) (by omega) hmin.out hlt)
            clear hlt
            go_wp2_with (first
              | (go_at_call 60; have _t := tok1; refine (HL1.out _ hH.out.row).mono ?_; rintro e w1 ⟨rfl, g1, rfl⟩; clear _t tok1)
              | (go_at_call 60; refine (HL2.out _ (hH.out.row.later ((Later.refl _).more _))).mono ?_; rintro e w2 ⟨rfl, g2, rfl⟩)
              | (go_at_call 63; refine (swap_any (i := i) (j := 2 * i + 1 + 1) (hH.out.row.later ((Later.refl _).more _)) hin (by omega)).mono ?_; rintro e w3 hsw; obtain rfl := hsw.1; have Hsw := Lib.hid hsw; clear hsw))
            go_roundw
            case rel => exact ⟨2 * i + 1 + 1, swp f' i (2 * i + 1 + 1), .inr (by omega), by go_num, Lib.hid ((hH.out.later ((Later.refl _).more _)).swapped Hsw.out), HSt, Lib.hid (fun k k1 k2 => (swp_o f' (by omega) (by omega)).trans (hT.out k k1 k2)), Lib.hid (fun h => inj_swp (hI.out h) him (by omega)), Lib.hid (fun x => (has_swp him (by omega) x).trans (hX.out x)), Lib.hid ((hO.out.more _).trans Hsw.out.2.2 (fun _ _ h => h))⟩
            case measure => simp [intOf]; omega
          · have HL2 := Lib.hid (fun w' (h : Rw w' base g n cap f') => less_is (v := false) (i := 2 * i + 1 + 1) (j := i) h (by omega) hin (by simpa using hlt))
            have hord := Lib.hid (down_done hU.out (fun k k1 k2 k3 => by have := hmin.out k k1 k2 k3; omega))
            clear hlt
            go_wp2_with (first
              | (go_at_call 60; have _t := tok1; refine (HL1.out _ hH.out.row).mono ?_; rintro e w1 ⟨rfl, g1, rfl⟩; clear _t tok1)
              | (go_at_call 60; refine (HL2.out _ (hH.out.row.later ((Later.refl _).more _))).mono ?_; rintro e w2 ⟨rfl, g2, rfl⟩))
            go_ret
            exact ⟨_, rfl, f', hH.out.later ((Later.refl _).more _), hord.out, hT.out, hI.out, hX.out, hO.out.more _⟩
        · have HL1 := Lib.hid (fun w' (h : Rw w' base g n cap f') => less_is (v := false) (i := 2 * i + 1 + 1) (j := 2 * i + 1) h j2n j1n (by simpa using h12))
          have hmin := Lib.hid (fun k (k1 : 1 ≤ k) (k2 : k < m) (k3 : (k - 1) / 2 = i) => (by
            by_cases e : k = 2 * i + 1
            · rw [e]; exact Int.le_refl _
            · rw [show k = 2 * i + 1 + 1 by omega]; omega : f' (2 * i + 1) ≤ f' k))
          clear h12
          by_cases hlt : f' (2 * i + 1) < f' i
          · have HL2 := Lib.hid (fun w' (h : Rw w' base g n cap f') => less_is (v := true) (i := 2 * i + 1) (j := i) h (by omega) hin (by simpa using hlt))
            have HSt := Lib.hid (down_step hU.out (j := 2 * i + 1) (by omega) (by omega) (by omega) hmin.out hlt)
            clear hlt
            go_wp2_with (first
              | (go_at_call 60; have _t := tok1; refine (HL1.out _ hH.out.row).mono ?_; rintro e w1 ⟨rfl, g1, rfl⟩; clear _t tok1)
              | (go_at_call 60; refine (HL2.out _ (hH.out.row.later ((Later.refl _).more _))).mono ?_; rintro e w2 ⟨rfl, g2, rfl⟩)
              | (go_at_call 63; refine (swap_any (i := i) (j := 2 * i + 1) (hH.out.row.later ((Later.refl _).more _)) hin (by omega)).mono ?_; rintro e w3 hsw; obtain rfl := hsw.1; have Hsw := Lib.hid hsw; clear hsw))
            go_roundw
            case rel => exact ⟨2 * i + 1, swp f' i (2 * i + 1), .inr (by omega), by go_num, Lib.hid ((hH.out.later ((Later.refl _).more _)).swapped Hsw.out), HSt, Lib.hid (fun k k1 k2 => (swp_o f' (by omega) (by omega)).trans (hT.out k k1 k2)), Lib.hid (fun h => inj_swp (hI.out h) him (by omega)), Lib.hid (fun x => (has_swp him (by omega) x).trans (hX.out x)), Lib.hid ((hO.out.more _).trans Hsw.out.2.2 (fun _ _ h => h))⟩
            case measure => simp [intOf]; omega
          · have HL2 := Lib.hid (fun w' (h : Rw w' base g n cap f') => less_is (v := false) (i := 2 * i + 1) (j := i) h (by omega) hin (by simpa using hlt))
            have hord := Lib.hid (down_done hU.out (fun k k1 k2 k3 => by have := hmin.out k k1 k2 k3; omega))
            clear hlt
            go_wp2_with (first
              | (go_at_call 60; have _t := tok1; refine (HL1.out _ hH.out.row).mono ?_; rintro e w1 ⟨rfl, g1, rfl⟩; clear _t tok1)
              | (go_at_call 60; refine (HL2.out _ (hH.out.row.later ((Later.refl _).more _))).mono ?_; rintro e w2 ⟨rfl, g2, rfl⟩))
            go_ret
            exact ⟨_, rfl, f', hH.out.later ((Later.refl _).more _), hord.out, hT.out, hI.out, hX.out, hO.out.more _⟩
end Go.Proofs.Ytbdhjoanjlkggaa
