/-
  No statement of the seat is proved here. The contract of the law's own wakes.
-/
import Derived.Test.YtbdhjoanjlkggaaLit
namespace Go.Proofs.Ytbdhjoanjlkggaa
open Go Go.RowKit
set_option linter.unusedVariables false
theorem needs_a (w : World) {b0 b1 b2 : Nat} (h0 : b0 = w.heap.size) (h1 : b1 = w.heap.size + 1) (h2 : b2 = w.heap.size + 1 + 1) : NeedsR (((w.alloc (.cells #[.int .i64 2] 3)).alloc (.cells #[.int .i64 1] 3)).alloc (.cells #[.slice (some ⟨b0, 0, none⟩) 1 1, .slice none 0 0, .slice (some ⟨b1, 0, none⟩) 1 1] 26)) (some ⟨b2, 0, none⟩) [[2], [], [1]] := by
  subst h0 h1 h2
  exact needs_lit (w := ((w.alloc (.cells #[.int .i64 2] 3)).alloc (.cells #[.int .i64 1] 3))) (Later.refl _) (by simp) ⟨⟨_, _, rfl, ints_lit (w := w) (((Later.refl _).alloc _).alloc _) (by simp) rfl⟩, ⟨_, _, rfl, ints_nil _ _⟩, ⟨_, _, rfl, ints_lit (w := (w.alloc (.cells #[.int .i64 2] 3))) ((Later.refl _).alloc _) (by simp) rfl⟩, trivial⟩
theorem needs_b (w : World) {b0 b1 b2 : Nat} (h0 : b0 = w.heap.size) (h1 : b1 = w.heap.size + 1) (h2 : b2 = w.heap.size + 1 + 1) : NeedsR (((w.alloc (.cells #[.int .i64 1] 3)).alloc (.cells #[.int .i64 2, .int .i64 0] 3)).alloc (.cells #[.slice (some ⟨b0, 0, none⟩) 1 1, .slice (some ⟨b1, 0, none⟩) 2 2, .slice none 0 0] 26)) (some ⟨b2, 0, none⟩) [[1], [2, 0], []] := by
  subst h0 h1 h2
  exact needs_lit (w := ((w.alloc (.cells #[.int .i64 1] 3)).alloc (.cells #[.int .i64 2, .int .i64 0] 3))) (Later.refl _) (by simp) ⟨⟨_, _, rfl, ints_lit (w := w) (((Later.refl _).alloc _).alloc _) (by simp) rfl⟩, ⟨_, _, rfl, ints_lit (w := (w.alloc (.cells #[.int .i64 1] 3))) ((Later.refl _).alloc _) (by simp) rfl⟩, ⟨_, _, rfl, ints_nil _ _⟩, trivial⟩
theorem needs_c (w : World) {b0 b1 : Nat} (h0 : b0 = w.heap.size) (h1 : b1 = w.heap.size + 1) : NeedsR ((w.alloc (.cells #[.int .i64 0] 3)).alloc (.cells #[.slice (some ⟨b0, 0, none⟩) 1 1] 26)) (some ⟨b1, 0, none⟩) [[0]] := by
  subst h0 h1
  exact needs_lit (w := (w.alloc (.cells #[.int .i64 0] 3))) (Later.refl _) (by simp) ⟨⟨_, _, rfl, ints_lit (w := w) ((Later.refl _).alloc _) (by simp) rfl⟩, trivial⟩
set_option maxHeartbeats 4000000 in
theorem wakes_ok (w : World) : Calls Try.prog 10 #[] w (Ret w (.bool true)) := by
  go_enter Try.func10, Try.ntmps10
  go_wp2_with (first
    | (go_at_call 24; have hq := hL9; refine (layers_is wk6 rfl (by decide) (by decide) (hI2.later (h29.trans (by repeat (first | exact Later.refl _ | refine Later.alloc ?_ _ | refine Later.more ?_ _))))).mono ?_; rintro e w10 ⟨A10, c10, rfl, hI10, hL10⟩)
    | (go_at_call 21; have hq := hL8; refine (equal21_is (v := true) (l := ints [0]) (l' := [0]) rfl rfl rfl (by decide) (by decide) (hI5.later (h58.trans (by repeat (first | exact Later.refl _ | refine Later.alloc ?_ _ | refine Later.more ?_ _)))) (ints_lit (Later.refl _) (by simp) rfl)).mono ?_; rintro e w9 ⟨rfl, hL9⟩; have h89 : Later w8 w9 := Later.trans (by repeat (first | exact Later.refl _ | refine Later.alloc ?_ _ | refine Later.more ?_ _)) hL9; have h29 : Later w2 w9 := h25.trans (h58.trans h89))
    | (go_at_call 21; have hq := hL7; refine (equal21_is (v := true) (l := ints [0, 1]) (l' := [0, 1]) rfl rfl rfl (by decide) (by decide) (hI4.later (h47.trans (by repeat (first | exact Later.refl _ | refine Later.alloc ?_ _ | refine Later.more ?_ _)))) (ints_lit (Later.refl _) (by simp) rfl)).mono ?_; rintro e w8 ⟨rfl, hL8⟩; have h78 : Later w7 w8 := Later.trans (by repeat (first | exact Later.refl _ | refine Later.alloc ?_ _ | refine Later.more ?_ _)) hL8; have h58 : Later w5 w8 := (h56.trans h67).trans h78)
    | (go_at_call 21; have hq := hL6; refine (equal21_is (v := true) (l := ints [2, 0, 1]) (l' := [2, 0, 1]) rfl rfl rfl (by decide) (by decide) (hI2.later (h26.trans (by repeat (first | exact Later.refl _ | refine Later.alloc ?_ _ | refine Later.more ?_ _)))) (ints_lit (Later.refl _) (by simp) rfl)).mono ?_; rintro e w7 ⟨rfl, hL7⟩; have h67 : Later w6 w7 := Later.trans (by repeat (first | exact Later.refl _ | refine Later.alloc ?_ _ | refine Later.more ?_ _)) hL7; have h47 : Later w4 w7 := h45.trans (h56.trans h67))
    | (go_at_call 21; have hq := hL5; refine (equal21_is (v := true) (l := ints [1, 2, 0]) (l' := [1, 2, 0]) rfl rfl rfl (by decide) (by decide) (hI1.later (h15.trans (by repeat (first | exact Later.refl _ | refine Later.alloc ?_ _ | refine Later.more ?_ _)))) (ints_lit (Later.refl _) (by simp) rfl)).mono ?_; rintro e w6 ⟨rfl, hL6⟩; have h56 : Later w5 w6 := Later.trans (by repeat (first | exact Later.refl _ | refine Later.alloc ?_ _ | refine Later.more ?_ _)) hL6; have h26 : Later w2 w6 := h25.trans h56)
    | (go_at_call 18; have hq := hL4; refine (round_is wk5 rfl (by decide) (by decide) (needs_c _ (by simp) (by simp))).mono ?_; rintro e w5 ⟨A5, c5, rfl, hI5, hL5⟩; have h45 : Later w4 w5 := Later.trans (by repeat (first | exact Later.refl _ | refine Later.alloc ?_ _ | refine Later.more ?_ _)) hL5; have h34 : Later w3 w4 := Later.trans (by repeat (first | exact Later.refl _ | refine Later.alloc ?_ _ | refine Later.more ?_ _)) hL4; have h23 : Later w2 w3 := Later.trans (by repeat (first | exact Later.refl _ | refine Later.alloc ?_ _ | refine Later.more ?_ _)) hL3; have h12 : Later w1 w2 := Later.trans (by repeat (first | exact Later.refl _ | refine Later.alloc ?_ _ | refine Later.more ?_ _)) hL2; have h01 : Later w w1 := Later.trans (by repeat (first | exact Later.refl _ | refine Later.alloc ?_ _ | refine Later.more ?_ _)) hL1; have h25 : Later w2 w5 := h23.trans (h34.trans h45); have h15 : Later w1 w5 := h12.trans h25)
    | (go_at_call 18; have hq := hL3; refine (round_is wk4 rfl (by decide) (by decide) (needs_b _ (by simp) (by simp) (by simp))).mono ?_; rintro e w4 ⟨A4, c4, rfl, hI4, hL4⟩)
    | (go_at_call 14; have hq := hL2; refine (order_is wk3 rfl (by decide) (by decide) (needs_b _ (by simp) (by simp) (by simp))).mono ?_; rintro e w3 ⟨v3, rfl, hO3, hL3⟩; obtain ⟨A3, c3, rfl, hI3, _⟩ := hO3.form; clear hO3)
    | (go_at_call 16; refine (depth_is wk2 rfl (by decide) (by decide) (needs_a _ (by simp) (by simp) (by simp))).mono ?_; rintro e w2 ⟨v2, rfl, hO2, hL2⟩; obtain ⟨A2, c2, rfl, hI2, _⟩ := hO2.form; clear hO2)
    | (go_at_call 14; refine (order_is wk1 rfl (by decide) (by decide) (needs_a _ (by simp) (by simp) (by simp))).mono ?_; rintro e w1 ⟨v1, rfl, hO1, hL1⟩; obtain ⟨A1, c1, rfl, hI1, _⟩ := hO1.form; clear hO1))
  go_ret
  exact Ret.mk (((h01.trans h12).trans h29).trans hL10)
end Go.Proofs.Ytbdhjoanjlkggaa
