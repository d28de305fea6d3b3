/-
  No statement of the seat is proved here. Contract of the document's Order.
-/
import Derived.Test.YtbdhjoanjlkggaaRT
namespace Go.Proofs.Ytbdhjoanjlkggaa
open Go Go.RowKit
set_option linter.unusedVariables false
theorem refmay_is {ns : List (List Int)} {v : Bool} (hv : Lv.mayB ns = v) (A : Option Addr) (c : Nat) (w : World) (hN : NeedsR w A ns) (hn : ns.length ≤ 1000) (hr : ∀ i, (ns.getD i []).length ≤ 1000) : Calls Try.prog 27 #[.slice A ns.length c] w (Ret w (.bool v)) := hv ▸ refmay ns A c w hN hn hr
/-- Needs that may be, as needs of things. -/
theorem nat_fine {ns : List (List Int)} (hm : Lv.mayB ns = true) (hn : ns.length ≤ 1000) (hr : ∀ i, (ns.getD i []).length ≤ 1000) : Lv.Fine (Lv.nat ns) :=
  ⟨by rw [Lv.nat_len]; exact hn, fun i => by rw [nat_row_len]; exact hr i, Lv.may_lt hm⟩
theorem reftold_ns {ns : List (List Int)} (hm : Lv.mayB ns = true) (A : Option Addr) (c : Nat) (w : World) (hN : NeedsR w A ns) (hn : ns.length ≤ 1000) (hr : ∀ i, (ns.getD i []).length ≤ 1000) :
    Calls Try.prog 33 #[.slice A ns.length c] w (RetTB w (Lv.told (Lv.nat ns)) ns.length) := by
  have := reftold (Lv.nat ns) A c w (by rw [Lv.may_nat hm]; exact hN) (nat_fine hm hn hr)
  rw [Lv.nat_len] at this
  exact this
theorem reforder (ns : List (List Int)) (A : Option Addr) (c : Nat) (w : World) (hN : NeedsR w A ns) (hn : ns.length ≤ 1000) (hr : ∀ i, (ns.getD i []).length ≤ 1000) :
    Calls Try.prog 15 #[.slice A ns.length c] w (RetLE w (Lv.orderL ns) (Lv.orderE ns)) := by
  have HN := Lib.hid hN
  cases hm : Lv.mayB ns
  · have HM := Lib.hid (fun w' h => refmay_is hm A c w' h hn hr)
    have e1 : Lv.orderE ns = 1 := by simp [Lv.orderE, hm]
    have e2 : Lv.orderL ns = [] := by simp [Lv.orderL, hm]
    rw [e1, e2]
    clear hm e1 e2 hN hr
    go_enter Try.func15, Try.ntmps15
    go_wp2_with (go_at_call 27; refine (HM.out _ HN.out).mono ?_; rintro e w' ⟨rfl, g, rfl⟩)
    go_ret2
    exact ⟨_, rfl, OwnL.nil _ _, (Later.refl _).more _⟩
  · have HM := Lib.hid (fun w' h => refmay_is hm A c w' h hn hr)
    have HT := Lib.hid (fun w' h => reftold_ns hm A c w' h hn hr)
    have e1 : Lv.orderE ns = if (Lv.told (Lv.nat ns)).length < ns.length then 35 else 0 := by simp [Lv.orderE, hm]
    have e2 : Lv.orderL ns = if (Lv.told (Lv.nat ns)).length < ns.length then [] else Lv.told (Lv.nat ns) := by simp [Lv.orderL, hm]
    rw [e1, e2]
    clear hm e1 e2 hN hr
    generalize Lv.told (Lv.nat ns) = T at *
    by_cases hlt : T.length < ns.length
    · rw [if_pos hlt, if_pos hlt]
      go_enter Try.func15, Try.ntmps15
      go_wp2_with (first
        | (go_at_call 27; refine (HM.out _ HN.out).mono ?_; rintro e w' ⟨rfl, g, rfl⟩)
        | (go_at_call 33; refine (HT.out _ (HN.out.later ((Later.refl _).more _))).mono ?_; rintro e w2 ⟨v, Ab, cb, rfl, hO, hBs, hL⟩; obtain ⟨Av, cv, rfl, _, _⟩ := hO.form; have HO := Lib.hid hO; clear hO hBs))
      go_ret2
      exact ⟨_, rfl, OwnL.nil _ _, ((Later.refl _).more _).trans hL⟩
    · rw [if_neg hlt, if_neg hlt]
      go_enter Try.func15, Try.ntmps15
      go_wp2_with (first
        | (go_at_call 27; refine (HM.out _ HN.out).mono ?_; rintro e w' ⟨rfl, g, rfl⟩)
        | (go_at_call 33; refine (HT.out _ (HN.out.later ((Later.refl _).more _))).mono ?_; rintro e w2 ⟨v, Ab, cb, rfl, hO, hBs, hL⟩; obtain ⟨Av, cv, rfl, _, _⟩ := hO.form; have HO := Lib.hid hO; clear hO hBs))
      go_ret2
      exact ⟨_, rfl, HO.out.mono (by simp), ((Later.refl _).more _).trans hL⟩
end Go.Proofs.Ytbdhjoanjlkggaa
