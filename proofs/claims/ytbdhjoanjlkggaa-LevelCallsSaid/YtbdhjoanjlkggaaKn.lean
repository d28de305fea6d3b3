/-
  No statement of the seat is proved here. The walk of LevelKnown.
-/
import Derived.Test.YtbdhjoanjlkggaaWk
namespace Go.Proofs.Ytbdhjoanjlkggaa
open Go Go.RowKit
set_option linter.unusedVariables false
theorem needs_1 (w : World) {b0 b1 : Nat} (h0 : b0 = w.heap.size) (h1 : b1 = w.heap.size + 1) : NeedsR ((w.alloc (.cells #[.int .i64 1] 3)).alloc (.cells #[.slice (some ⟨b0, 0, none⟩) 1 1] 26)) (some ⟨b1, 0, none⟩) [[1]] := by
  subst h0 h1
  exact needs_lit (w := (w.alloc (.cells #[.int .i64 1] 3))) (Later.refl _) (by simp) ⟨⟨_, _, rfl, ints_lit (w := w) ((Later.refl _).alloc _) (by simp) rfl⟩, trivial⟩
theorem needs_2 (w : World) {b0 b1 : Nat} (h0 : b0 = w.heap.size) (h1 : b1 = w.heap.size + 1) : NeedsR ((w.alloc (.cells #[.int .i64 (-1)] 3)).alloc (.cells #[.slice (some ⟨b0, 0, none⟩) 1 1] 26)) (some ⟨b1, 0, none⟩) [[-1]] := by
  subst h0 h1
  exact needs_lit (w := (w.alloc (.cells #[.int .i64 (-1)] 3))) (Later.refl _) (by simp) ⟨⟨_, _, rfl, ints_lit (w := w) ((Later.refl _).alloc _) (by simp) rfl⟩, trivial⟩
theorem needs_3 (w : World) {b0 : Nat} (h0 : b0 = w.heap.size) : NeedsR (w.alloc (.cells #[.slice none 0 0] 26)) (some ⟨b0, 0, none⟩) [[]] := by
  subst h0
  exact needs_lit (w := w) (Later.refl _) (by simp) ⟨⟨_, _, rfl, ints_nil _ _⟩, trivial⟩
theorem needs_5 (w : World) {b0 b1 b2 : Nat} (h0 : b0 = w.heap.size) (h1 : b1 = w.heap.size + 1) (h2 : b2 = w.heap.size + 1 + 1) : NeedsR (((w.alloc (.cells #[.int .i64 1, .int .i64 1, .int .i64 1] 3)).alloc (.cells #[.int .i64 0, .int .i64 1] 3)).alloc (.cells #[.slice (some ⟨b0, 0, none⟩) 3 3, .slice none 0 0, .slice (some ⟨b1, 0, none⟩) 2 2] 26)) (some ⟨b2, 0, none⟩) [[1, 1, 1], [], [0, 1]] := by
  subst h0 h1 h2
  exact needs_lit (w := ((w.alloc (.cells #[.int .i64 1, .int .i64 1, .int .i64 1] 3)).alloc (.cells #[.int .i64 0, .int .i64 1] 3))) (Later.refl _) (by simp) ⟨⟨_, _, rfl, ints_lit (w := w) (((Later.refl _).alloc _).alloc _) (by simp) rfl⟩, ⟨_, _, rfl, ints_nil _ _⟩, ⟨_, _, rfl, ints_lit (w := (w.alloc (.cells #[.int .i64 1, .int .i64 1, .int .i64 1] 3))) ((Later.refl _).alloc _) (by simp) rfl⟩, trivial⟩
theorem needs_6 (w : World) {b0 b1 b2 b3 : Nat} (h0 : b0 = w.heap.size) (h1 : b1 = w.heap.size + 1) (h2 : b2 = w.heap.size + 1 + 1) (h3 : b3 = w.heap.size + 1 + 1 + 1) : NeedsR ((((w.alloc (.cells #[.int .i64 3] 3)).alloc (.cells #[.int .i64 1] 3)).alloc (.cells #[.int .i64 2, .int .i64 1] 3)).alloc (.cells #[.slice none 0 0, .slice (some ⟨b0, 0, none⟩) 1 1, .slice (some ⟨b1, 0, none⟩) 1 1, .slice (some ⟨b2, 0, none⟩) 2 2] 26)) (some ⟨b3, 0, none⟩) [[], [3], [1], [2, 1]] := by
  subst h0 h1 h2 h3
  exact needs_lit (w := (((w.alloc (.cells #[.int .i64 3] 3)).alloc (.cells #[.int .i64 1] 3)).alloc (.cells #[.int .i64 2, .int .i64 1] 3))) (Later.refl _) (by simp) ⟨⟨_, _, rfl, ints_nil _ _⟩, ⟨_, _, rfl, ints_lit (w := w) ((((Later.refl _).alloc _).alloc _).alloc _) (by simp) rfl⟩, ⟨_, _, rfl, ints_lit (w := (w.alloc (.cells #[.int .i64 3] 3))) (((Later.refl _).alloc _).alloc _) (by simp) rfl⟩, ⟨_, _, rfl, ints_lit (w := ((w.alloc (.cells #[.int .i64 3] 3)).alloc (.cells #[.int .i64 1] 3))) ((Later.refl _).alloc _) (by simp) rfl⟩, trivial⟩
theorem needs_7 (w : World) {b0 b1 b2 b3 b4 : Nat} (h0 : b0 = w.heap.size) (h1 : b1 = w.heap.size + 1) (h2 : b2 = w.heap.size + 1 + 1) (h3 : b3 = w.heap.size + 1 + 1 + 1) (h4 : b4 = w.heap.size + 1 + 1 + 1 + 1) : NeedsR (((((w.alloc (.cells #[.int .i64 3] 3)).alloc (.cells #[.int .i64 1] 3)).alloc (.cells #[.int .i64 2] 3)).alloc (.cells #[.int .i64 0] 3)).alloc (.cells #[.slice none 0 0, .slice (some ⟨b0, 0, none⟩) 1 1, .slice (some ⟨b1, 0, none⟩) 1 1, .slice (some ⟨b2, 0, none⟩) 1 1, .slice (some ⟨b3, 0, none⟩) 1 1] 26)) (some ⟨b4, 0, none⟩) [[], [3], [1], [2], [0]] := by
  subst h0 h1 h2 h3 h4
  exact needs_lit (w := ((((w.alloc (.cells #[.int .i64 3] 3)).alloc (.cells #[.int .i64 1] 3)).alloc (.cells #[.int .i64 2] 3)).alloc (.cells #[.int .i64 0] 3))) (Later.refl _) (by simp) ⟨⟨_, _, rfl, ints_nil _ _⟩, ⟨_, _, rfl, ints_lit (w := w) (((((Later.refl _).alloc _).alloc _).alloc _).alloc _) (by simp) rfl⟩, ⟨_, _, rfl, ints_lit (w := (w.alloc (.cells #[.int .i64 3] 3))) ((((Later.refl _).alloc _).alloc _).alloc _) (by simp) rfl⟩, ⟨_, _, rfl, ints_lit (w := ((w.alloc (.cells #[.int .i64 3] 3)).alloc (.cells #[.int .i64 1] 3))) (((Later.refl _).alloc _).alloc _) (by simp) rfl⟩, ⟨_, _, rfl, ints_lit (w := (((w.alloc (.cells #[.int .i64 3] 3)).alloc (.cells #[.int .i64 1] 3)).alloc (.cells #[.int .i64 2] 3))) ((Later.refl _).alloc _) (by simp) rfl⟩, trivial⟩
theorem needs_8 (w : World) {b0 b1 : Nat} (h0 : b0 = w.heap.size) (h1 : b1 = w.heap.size + 1) : NeedsR ((w.alloc (.cells #[.int .i64 5] 3)).alloc (.cells #[.slice (some ⟨b0, 0, none⟩) 1 1] 26)) (some ⟨b1, 0, none⟩) [[5]] := by
  subst h0 h1
  exact needs_lit (w := (w.alloc (.cells #[.int .i64 5] 3))) (Later.refl _) (by simp) ⟨⟨_, _, rfl, ints_lit (w := w) ((Later.refl _).alloc _) (by simp) rfl⟩, trivial⟩
theorem needs_nil (w : World) (A : Option Addr) : NeedsR w A [] := fun p hp => absurd hp (by simp)
theorem kn1 : Lv.orderL [[1]] = [] ∧ Lv.orderE [[1]] = 1 := by decide +kernel
theorem kn2 : Lv.depthL [[-1]] = [] ∧ Lv.orderE [[-1]] = 1 := by decide +kernel
theorem kn3 : Lv.roundL [[1]] = [] ∧ Lv.roundB [[1]] = false := by decide +kernel
theorem kn6 : Lv.orderL [] = [] ∧ Lv.orderE [] = 0 := by decide +kernel
theorem kn7 : Lv.orderL [[1, 1, 1], [], [0, 1]] = [1, 0, 2] ∧ Lv.orderE [[1, 1, 1], [], [0, 1]] = 0 := by decide +kernel
theorem kn8 : Lv.roundL [[], [3], [1], [2, 1]] = [1, 3] ∧ Lv.roundB [[], [3], [1], [2, 1]] = true := by decide +kernel
theorem kn9 : Lv.layersL [] = [] := by decide +kernel
theorem reach_bad {ns : List (List Int)} {fr : List Int} (h : Lv.mayB ns = false ∨ fr.all (Lv.inB ns.length) = false) {A F : Option Addr} {n c m d : Nat} {w : World} (hl : n = ns.length) (hm : m = fr.length) (hn : ns.length ≤ 1000) (hr : ns.all (fun r => decide (r.length ≤ 1000)) = true) (hf : fr.length ≤ 1000) (hN : NeedsR w A ns) (hF : IntsR w F fr) :
    Calls Try.prog 9 #[.slice A n c, .slice F m d] w (RetBE w [] 1) := by
  subst hl hm
  exact reach_no ns A F c d fr w hN hn (short hr) hF hf h
theorem reach_is {ns : List (List Int)} {fr : List Nat} {l : List Bool} (h : Lv.reachL (Lv.nat ns) fr = l) {A : Option Addr} {b n c m d : Nat} {w : World} (hl : n = ns.length) (hm : m = fr.length) (hn : ns.length ≤ 1000) (hr : ns.all (fun r => decide (r.length ≤ 1000)) = true) (hf : fr.length ≤ 1000) (hmay : Lv.mayB ns = true) (hft : ∀ x ∈ fr, x < ns.length) (hN : NeedsR w A ns) (hF : IntsR w (some ⟨b, 0, none⟩) (ints fr)) :
    Calls Try.prog 9 #[.slice A n c, .slice (some ⟨b, 0, none⟩) m d] w (RetBE w l 0) := by
  subst hl hm h
  exact reach_ok ns A _ c d fr w hN hn (short hr) hF hf hmay hft (fun a e => by injection e with e; rw [← e])
theorem kn10 : Lv.reachL (Lv.nat [[], [3], [1], [2], [0]]) [3, 3] = [false, true, true, true, false] := by
  have r3 : Lv.Rch (Lv.nat [[], [3], [1], [2], [0]]) [3, 3] 3 := .base (by simp)
  have r2 : Lv.Rch (Lv.nat [[], [3], [1], [2], [0]]) [3, 3] 2 := .step r3 (by decide)
  have r1 : Lv.Rch (Lv.nat [[], [3], [1], [2], [0]]) [3, 3] 1 := .step r2 (by decide)
  have h : Lv.Half (Lv.nat [[], [3], [1], [2], [0]]) [3, 3] [] (fun k => k == 1 || k == 2 || k == 3) := by
    have hs : ∀ i : Nat, (i == 1 || i == 2 || i == 3) = true → i = 1 ∨ i = 2 ∨ i = 3 := fun i h => by simpa [or_assoc] using h
    refine ⟨fun x hx => .inl ?_, fun i hi k hk => .inl ?_, fun i hi => ?_, fun x hx => by simp at hx, fun x hx => by simp at hx, by simp⟩
    · simp at hx; subst hx; rfl
    · rcases hs i hi with rfl | rfl | rfl
      · have : k = 3 := by simpa [Lv.nat, Lv.row] using hk
        subst this; rfl
      · have : k = 1 := by simpa [Lv.nat, Lv.row] using hk
        subst this; rfl
      · have : k = 2 := by simpa [Lv.nat, Lv.row] using hk
        subst this; rfl
    · rcases hs i hi with rfl | rfl | rfl
      · exact r1
      · exact r2
      · exact r3
  unfold Lv.reachL
  rw [show Lv.reachB (Lv.nat [[], [3], [1], [2], [0]]) [3, 3] = _ from (funext fun k => (h.done k).symm)]
  rfl
theorem may_lit {ns : List (List Int)} {v : Bool} (hv : Lv.mayB ns = v) {A : Option Addr} {n c : Nat} {w : World} (hl : n = ns.length) (hn : ns.length ≤ 1000) (hr : ns.all (fun r => decide (r.length ≤ 1000)) = true) (hN : NeedsR w A ns) : Calls Try.prog 26 #[.slice A n c] w (Ret w (.bool v)) := by
  subst hl
  exact may_is hv A c w hN hn (short hr)
theorem equal22_is {l l' : List Bool} {v : Bool} (h : decide (l = l') = v) {A B : Option Addr} {c d n m : Nat} {w : World} (h1 : n = l.length) (h2 : m = l'.length) (hn : n ≤ 1000) (hm : m ≤ 1000) (hA : BoolsR w A l) (hB : BoolsR w B l') :
    Calls Try.prog 22 #[.slice A n c, .slice B m d] w (Ret w (.bool v)) := by
  subst h1 h2 h
  exact equal22 l l' A B c d w hA hB (by omega) (by omega)
set_option maxRecDepth 100000 in
set_option maxHeartbeats 8000000 in
theorem known_ok (w : World) : Calls Try.prog 7 #[] w (Ret w (.bool true)) := by
  go_enter Try.func7, Try.ntmps7
  go_wp2_with (first
    | (go_at_call 10; have hq := hL15; refine (wakes_ok _).mono ?_; rintro e w16 ⟨rfl, hL16⟩; have h1516 : Later w15 w16 := Later.trans (by repeat (first | exact Later.refl _ | refine Later.alloc ?_ _ | refine Later.more ?_ _)) hL16)
    | (go_at_call 24; have hq := hL14; refine (layers_is kn9 rfl (by decide) (by decide) (ints_nil _ _)).mono ?_; rintro e w15 ⟨A15, c15, rfl, hI15, hL15⟩; have h1415 : Later w14 w15 := Later.trans (by repeat (first | exact Later.refl _ | refine Later.alloc ?_ _ | refine Later.more ?_ _)) hL15)
    | (go_at_call 26; have hq := hL13; refine (may_lit (v := true) (ns := []) (by decide) rfl (by decide) (by decide) (needs_nil _ _)).mono ?_; rintro e w14 ⟨rfl, hL14⟩; have h1314 : Later w13 w14 := Later.trans (by repeat (first | exact Later.refl _ | refine Later.alloc ?_ _ | refine Later.more ?_ _)) hL14)
    | (go_at_call 26; have hq := hL12; refine (may_lit (v := false) (ns := [[5]]) (by decide) rfl (by decide) (by decide) (needs_8 _ (by simp) (by simp))).mono ?_; rintro e w13 ⟨rfl, hL13⟩; have h1213 : Later w12 w13 := Later.trans (by repeat (first | exact Later.refl _ | refine Later.alloc ?_ _ | refine Later.more ?_ _)) hL13)
    | (go_at_call 22; have hq := hL11; refine (equal22_is (v := true) (l := [false, true, true, true, false]) (l' := [false, true, true, true, false]) rfl rfl rfl (by decide) (by decide) (hI9.later ((h910.trans h1011).trans (by repeat (first | exact Later.refl _ | refine Later.alloc ?_ _ | refine Later.more ?_ _)))) (bools_lit (Later.refl _) (by simp) rfl)).mono ?_; rintro e w12 ⟨rfl, hL12⟩; have h1112 : Later w11 w12 := Later.trans (by repeat (first | exact Later.refl _ | refine Later.alloc ?_ _ | refine Later.more ?_ _)) hL12)
    | (go_at_call 21; have hq := hL10; refine (equal21_is (v := true) (l := ints [1, 3]) (l' := [1, 3]) rfl rfl rfl (by decide) (by decide) (hI8.later ((h89.trans h910).trans (by repeat (first | exact Later.refl _ | refine Later.alloc ?_ _ | refine Later.more ?_ _)))) (ints_lit (Later.refl _) (by simp) rfl)).mono ?_; rintro e w11 ⟨rfl, hL11⟩; have h1011 : Later w10 w11 := Later.trans (by repeat (first | exact Later.refl _ | refine Later.alloc ?_ _ | refine Later.more ?_ _)) hL11)
    | (go_at_call 21; have hq := hL9; refine (equal21_is (v := true) (l := ints [1, 0, 2]) (l' := [1, 0, 2]) rfl rfl rfl (by decide) (by decide) (hI7.later ((h78.trans h89).trans (by repeat (first | exact Later.refl _ | refine Later.alloc ?_ _ | refine Later.more ?_ _)))) (ints_lit (Later.refl _) (by simp) rfl)).mono ?_; rintro e w10 ⟨rfl, hL10⟩; have h910 : Later w9 w10 := Later.trans (by repeat (first | exact Later.refl _ | refine Later.alloc ?_ _ | refine Later.more ?_ _)) hL10)
    | (go_at_call 9; have hq := hL8; refine (reach_is kn10 rfl rfl (by decide) (by decide) (by decide) (by decide) (by decide) ((needs_7 _ (by simp) (by simp) (by simp) (by simp) (by simp)).later ((Later.refl _).alloc _)) (ints_lit (Later.refl _) (by simp) rfl)).mono ?_; rintro e w9 ⟨A9, c9, rfl, hI9, hL9⟩; have h89 : Later w8 w9 := Later.trans (by repeat (first | exact Later.refl _ | refine Later.alloc ?_ _ | refine Later.more ?_ _)) hL9)
    | (go_at_call 18; have hq := hL7; refine (round_is kn8 rfl (by decide) (by decide) (needs_6 _ (by simp) (by simp) (by simp) (by simp))).mono ?_; rintro e w8 ⟨A8, c8, rfl, hI8, hL8⟩; have h78 : Later w7 w8 := Later.trans (by repeat (first | exact Later.refl _ | refine Later.alloc ?_ _ | refine Later.more ?_ _)) hL8)
    | (go_at_call 14; have hq := hL6; refine (order_is kn7 rfl (by decide) (by decide) (needs_5 _ (by simp) (by simp) (by simp))).mono ?_; rintro e w7 ⟨v7, rfl, hO7, hL7⟩; obtain ⟨A7, c7, rfl, hI7, _⟩ := hO7.form; clear hO7; have h67 : Later w6 w7 := Later.trans (by repeat (first | exact Later.refl _ | refine Later.alloc ?_ _ | refine Later.more ?_ _)) hL7)
    | (go_at_call 14; have hq := hL5; refine (order_is kn6 rfl (by decide) (by decide) (needs_nil _ _)).mono ?_; rintro e w6 ⟨v6, rfl, hO6, hL6⟩; obtain ⟨A6, c6, rfl, hI6, _⟩ := hO6.form; clear hO6; have h56 : Later w5 w6 := Later.trans (by repeat (first | exact Later.refl _ | refine Later.alloc ?_ _ | refine Later.more ?_ _)) hL6)
    | (go_at_call 9; have hq := hL4; refine (reach_bad (ns := [[]]) (fr := [1]) (.inr (by decide)) rfl rfl (by decide) (by decide) (by decide) ((needs_3 _ (by simp)).later ((Later.refl _).alloc _)) (ints_lit (Later.refl _) (by simp) rfl)).mono ?_; rintro e w5 ⟨A5, c5, rfl, hI5, hL5⟩; have h45 : Later w4 w5 := Later.trans (by repeat (first | exact Later.refl _ | refine Later.alloc ?_ _ | refine Later.more ?_ _)) hL5)
    | (go_at_call 9; have hq := hL3; refine (reach_bad (ns := [[1]]) (fr := []) (.inl (by decide)) rfl rfl (by decide) (by decide) (by decide) (needs_1 _ (by simp) (by simp)) (ints_nil _ _)).mono ?_; rintro e w4 ⟨A4, c4, rfl, hI4, hL4⟩; have h34 : Later w3 w4 := Later.trans (by repeat (first | exact Later.refl _ | refine Later.alloc ?_ _ | refine Later.more ?_ _)) hL4)
    | (go_at_call 18; have hq := hL2; refine (round_is kn3 rfl (by decide) (by decide) (needs_1 _ (by simp) (by simp))).mono ?_; rintro e w3 ⟨A3, c3, rfl, hI3, hL3⟩; have h23 : Later w2 w3 := Later.trans (by repeat (first | exact Later.refl _ | refine Later.alloc ?_ _ | refine Later.more ?_ _)) hL3)
    | (go_at_call 16; have hq := hL1; refine (depth_is kn2 rfl (by decide) (by decide) (needs_2 _ (by simp) (by simp))).mono ?_; rintro e w2 ⟨v2, rfl, hO2, hL2⟩; obtain ⟨A2, c2, rfl, hI2, _⟩ := hO2.form; clear hO2; have h12 : Later w1 w2 := Later.trans (by repeat (first | exact Later.refl _ | refine Later.alloc ?_ _ | refine Later.more ?_ _)) hL2)
    | (go_at_call 14; refine (order_is kn1 rfl (by decide) (by decide) (needs_1 _ (by simp) (by simp))).mono ?_; rintro e w1 ⟨v1, rfl, hO1, hL1⟩; obtain ⟨A1, c1, rfl, hI1, _⟩ := hO1.form; clear hO1; have h01 : Later w w1 := Later.trans (by repeat (first | exact Later.refl _ | refine Later.alloc ?_ _ | refine Later.more ?_ _)) hL1))
  go_ret
  exact Ret.mk ((((((((h01.trans h12).trans h23).trans h34).trans h45).trans h56).trans h67).trans h78).trans (((((((h89.trans h910).trans h1011).trans h1112).trans h1213).trans h1314).trans h1415).trans h1516))
end Go.Proofs.Ytbdhjoanjlkggaa
