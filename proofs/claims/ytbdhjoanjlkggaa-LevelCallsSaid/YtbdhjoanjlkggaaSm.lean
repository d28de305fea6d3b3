/-
  No statement of the seat is proved here. Contract of the law's own same, at rows that are the same.
-/
import Derived.Test.YtbdhjoanjlkggaaRLy
namespace Go.Proofs.Ytbdhjoanjlkggaa
open Go Go.RowKit
set_option linter.unusedVariables false
theorem same35 {l : List Int} {A B : Option Addr} {c d : Nat} {w : World} (hl : l.length ≤ 1000) (hA : IntsR w A l) (hB : IntsR w B l) : Calls Try.prog 35 #[.slice A l.length c, .slice B l.length d] w (Ret w (.bool true)) := by
  have H := Lib.hid (equal21_is (v := true) (l := l) (l' := l) (c := c) (d := d) (by simp) rfl rfl hl hl hA hB)
  clear hA hB
  go_enter Try.func35, Try.ntmps35
  go_wp2_with (go_at_call 21; refine H.out.mono ?_; rintro e w' ⟨rfl, hL⟩)
  go_ret
  exact Ret.mk hL
set_option maxRecDepth 100000 in
theorem same34 {ns : List (List Int)} {A B : Option Addr} {c d : Nat} {w : World} (hn : ns.length ≤ 1000) (hr : ∀ i, (ns.getD i []).length ≤ 1000) (hA : NeedsR w A ns) (hB : NeedsR w B ns) :
    Calls Try.prog 34 #[.slice A ns.length c, .slice B ns.length d, .func (.func 35) #[] #[]] w (Ret w (.bool true)) := by
  have HA := Lib.hid hA
  have HB := Lib.hid hB
  have HR := Lib.hid hr
  clear hA hB hr
  go_enter Try.func34, Try.ntmps34
  go_wp2_with fail
  go_loopw [7, 8, 9, 17] (fun _ _ _ j wr => ∃ (k : Nat) (g : Grow), k ≤ ns.length ∧ j = .int .i64 k ∧ wr = more w g) (fun _ _ _ j _ => ns.length - (intOf j).toNat)
  case atStart => exact ⟨0, ⟨#[], w.drawn⟩, Nat.zero_le _, rfl, by simp [more]⟩
  case round =>
    obtain ⟨k, g, hk, rfl, rfl⟩ := hrel
    by_cases hkl : k < ns.length
    · obtain ⟨b1, o1, A1, c1, rfl, hb1, hc1, hI1⟩ := HA.out k hkl
      obtain ⟨b2, o2, A2, c2, rfl, hb2, hc2, hI2⟩ := HB.out k hkl
      have hrk := HR.out k
      have HI1 := Lib.hid hI1
      have HI2 := Lib.hid hI2
      obtain ⟨r, hr⟩ : ∃ r, ns.getD k [] = r := ⟨_, rfl⟩
      rw [hr] at hc1 hc2 hrk HI1 HI2
      clear hI1 hI2 hr
      go_wp2_with (go_at_call 35; refine (same35 hrk (HI1.out.later ((Later.refl _).more _)) (HI2.out.later ((Later.refl _).more _))).mono ?_; rintro e w' ⟨rfl, g2, rfl⟩)
      go_roundw
      case rel => exact ⟨k + 1, _, by omega, by go_num, rfl⟩
      case measure => simp [intOf]; omega
    · obtain rfl : k = ns.length := by omega
      go_wp2_with fail
      go_ret
      exact Ret.mk ((Later.refl _).more _)
theorem same_yes {ns : List (List Int)} {A B : Option Addr} {c d : Nat} {w : World} (hn : ns.length ≤ 1000) (hr : ∀ i, (ns.getD i []).length ≤ 1000) (hA : NeedsR w A ns) (hB : NeedsR w B ns) :
    Calls Try.prog 23 #[.slice A ns.length c, .slice B ns.length d] w (Ret w (.bool true)) := by
  have H := Lib.hid (same34 (c := c) (d := d) hn hr hA hB)
  clear hA hB
  go_enter Try.func23, Try.ntmps23
  go_wp2_with (go_at_call 34; refine H.out.mono ?_; rintro e w' ⟨rfl, hL⟩)
  go_ret
  exact Ret.mk hL
end Go.Proofs.Ytbdhjoanjlkggaa
