/-
  No statement of the seat is proved here. container/heap over level.ready: up, down, Push, Pop, for every heap.
-/
import Derived.Test.YtbdhjoanjlkggaaHp
import Derived.Deep.CutBlock
namespace Go.Proofs.Ytbdhjoanjlkggaa
open Go Go.RowKit Hp
set_option linter.unusedVariables false
theorem HeapAt.only {w w' : World} {base b g n cap : Nat} {f : Nat → Int} {S : Nat → Prop} (h : HeapAt w base b g n cap f) (ho : Only w w' S) (hb : ¬ S b) (hg : ¬ S g) : HeapAt w' base b g n cap f :=
  ⟨h.ge, h.box.only ho hb, h.row.only ho hg⟩
theorem HeapAt.later {w w' : World} {base b g n cap : Nat} {f : Nat → Int} (h : HeapAt w base b g n cap f) (hl : Later w w') : HeapAt w' base b g n cap f :=
  h.only (Only.of_later hl fun _ => False) (fun h => h) (fun h => h)
theorem HeapAt.swapped {w w' : World} {base b g n cap : Nat} {f : Nat → Int} {i j : Nat} {e : Ending} (h : HeapAt w base b g n cap f) (hs : Swapped w base g n cap f i j e w') : HeapAt w' base b g n cap (swp f i j) :=
  ⟨h.ge, h.box.only hs.2.2 (fun e => h.row.ne_box h.box e.symm), hs.2.1⟩
/-- What sifting leaves: the same things, in order. -/
def Sifted (w : World) (base b g n m cap : Nat) (f : Nat → Int) (v : Value) (e : Ending) (w' : World) : Prop :=
  e = .returned v ∧ ∃ f', HeapAt w' base b g n cap f' ∧ Ord m f' ∧ (∀ k, m ≤ k → k < n → f' k = f k) ∧ (Inj m f → Inj m f') ∧ (∀ x, Has m f' x ↔ Has m f x) ∧ Only w w' fun k => k = g
set_option maxHeartbeats 4000000 in
theorem up42 {base b g n cap j : Nat} {f : Nat → Int} {w : World} (h : HeapAt w base b g n cap f) (hu : UpAt n j f) (hj : j < n) (hn : n ≤ 100000) :
    Calls Try.prog 42 #[.iface 61 (.pointer (some ⟨b, 0, none⟩)), .int .i64 j] w (Sifted w base b g n n cap f (.tuple #[])) := by
  have H0 := Lib.hid h
  have HU := Lib.hid hu
  clear h hu
  go_enter Try.func42, Try.ntmps42
  go_wp2_with fail
  go_loopw [1, 4] (fun q _ wr => ∃ (j : Nat) (f' : Nat → Int), j < n ∧ q = .int .i64 j ∧ Hid (HeapAt wr base b g n cap f') ∧ Hid (UpAt n j f') ∧ Hid (Inj n f → Inj n f') ∧ Hid (∀ x, Has n f' x ↔ Has n f x) ∧ Hid (Only w wr fun k => k = g)) (fun q _ _ => (intOf q).toNat)
  case atStart => exact ⟨j, f, hj, rfl, H0, HU, Lib.hid id, Lib.hid (fun x => Iff.rfl), Lib.hid (Only.refl _ _)⟩
  case round =>
    obtain ⟨j, f', hj, rfl, hH, hU, hI, hX, hO⟩ := hrel
    have q1 := hH.out.box.cell
    have q2 := hH.out.box.lt
    have ml := meth_less b (some ⟨g, 0, none⟩) n cap
    have ms := meth_swap b (some ⟨g, 0, none⟩) n cap
    by_cases h0 : j = 0
    · subst h0
      have hord := Lib.hid (up_done hU.out (.inl rfl))
      go_wp2_with fail
      go_end0
      exact ⟨rfl, f', hH.out, hord.out, fun k h1 h2 => by omega, hI.out, hX.out, hO.out⟩
    · have hne : (((j : Int) - 1) / 2 == (j : Int)) = false := by rw [beq_eq_false_iff_ne]; omega
      have hi : ((j : Int) - 1) / 2 = (((j - 1) / 2 : Nat) : Int) := by omega
      obtain ⟨i, hii⟩ : ∃ i, (j - 1) / 2 = i := ⟨_, rfl⟩
      rw [hii] at hi
      rw [hi] at hne
      have hij : i < j := by omega
      have hin : i < n := by omega
      have Hii := Lib.hid hii
      clear hii
      by_cases hlt : f' j < f' i
      · have HLess := Lib.hid (fun w' (h : Rw w' base g n cap f') => less_is (v := true) h hj hin (by simpa using hlt))
        have HSt : Hid (UpAt n i (swp f' i j)) := Lib.hid (by have := up_step hU.out (by omega) hj (by rw [Hii.out]; exact hlt); rw [Hii.out] at this; exact this)
        clear hlt
        go_wp2_with (first
          | (go_at_call 60; refine (HLess.out _ hH.out.row).mono ?_; rintro e w1 ⟨rfl, g1, rfl⟩)
          | (go_at_call 63; refine (swap_any (hH.out.row.later ((Later.refl _).more _)) hin hj).mono ?_; rintro e w2 hsw; obtain rfl := hsw.1; have Hsw := Lib.hid hsw; clear hsw))
        go_roundw
        case rel => exact ⟨i, swp f' i j, hin, rfl, Lib.hid ((hH.out.later ((Later.refl _).more _)).swapped Hsw.out), HSt, Lib.hid (fun h => inj_swp (hI.out h) hin hj), Lib.hid (fun x => (has_swp hin hj x).trans (hX.out x)), Lib.hid ((hO.out.more _).trans Hsw.out.2.2 (fun _ _ h => h))⟩
        case measure => simp [intOf]; omega
      · have HLess := Lib.hid (fun w' (h : Rw w' base g n cap f') => less_is (v := false) h hj hin (by simpa using hlt))
        have hord := Lib.hid (up_done hU.out (.inr (by rw [Hii.out]; omega)))
        clear hlt
        go_wp2_with (first
          | (go_at_call 60; refine (HLess.out _ hH.out.row).mono ?_; rintro e w1 ⟨rfl, g1, rfl⟩))
        go_end0
        exact ⟨rfl, f', hH.out.later ((Later.refl _).more _), hord.out, fun k h1 h2 => by omega, hI.out, hX.out, hO.out.more _⟩
end Go.Proofs.Ytbdhjoanjlkggaa
