/-
  No statement of the seat is proved here. The walk of the law LanesKnown.
-/
import Derived.Test.YtmhmnjeimjjipaaWakes
namespace Go.Proofs.Ytmhmnjeimjjipaa
open Go Go.RowKit
set_option linter.unusedVariables false
theorem own_made {w' : World} {b n : Nat} (h : w'.ownsRow 0 22 1 (.slice (some ⟨b, 0, none⟩) n n) n (madeCells (Value.int .u64 0).cells (n * 1)).toList) : Own w' b n (fun _ => 0) := by
  obtain ⟨b', c, hbc, _, hO⟩ := Own.of_row (f := fun _ => 0) h (made_at n) (by simp)
  have hb : b = b' := by injection hbc with hb; injection hb with hb; injection hb
  rw [hb]; exact hO
theorem Mine.get {base : Nat} {w : World} {A : Option Addr} {n : Nat} {f : Nat → Int} (H : Mine base w A n f) (hn : 1 ≤ n) : ∃ b, A = some ⟨b, 0, none⟩ ∧ base ≤ b ∧ Own w b n f := by
  rcases H with H | H
  · omega
  · exact H
theorem z_bd (k : Nat) : 0 ≤ (fun _ : Nat => (0 : Int)) k ∧ (fun _ : Nat => (0 : Int)) k < 18446744073709551616 := by simp
theorem trn_none : ∀ k, k < 3 → Ln.trn (over 0 (fun _ => 0) fun _ => 0) k = (fun _ => 0) k := by decide +kernel
theorem fill63 : Ln.fillV 18446744073709551615 63 = 18446744073709551615 := by decide +kernel
set_option maxRecDepth 100000 in
set_option maxHeartbeats 4000000 in
theorem known_walk (w : World) : Calls Try.prog 8 #[] w (Ret w (.bool true)) := by
  obtain ⟨i0, hi, hz0, hz1, hz2⟩ := info_parts (P := Try.prog) (e := 22) (z := .int .u64 0) (size := 1) (bytes := 8) (by kernel_rfl)
  go_enter Try.func8, Try.ntmps8
  have HL : Later w w := Later.refl w
  go_wp2_with (first
    | (go_at_call_of 13 (Value.int IntKind.i64 3); go_at_call_of 13 (Value.slice none 0 0); refine (pack_ok 3 none 0 0 (fun _ => 0) _ (by omega) (Nums.none _ _ _) (fun a h => by cases h) z_bd (by decide +kernel)).mono ?_; rintro e wn ⟨A23, c23, rfl, hLn, hM23⟩; have HL : Later w wn := (by first | exact HL.trans hLn | exact (HL.alloc _).trans hLn | exact ((HL.alloc _).alloc _).trans hLn); clear hLn)
    | (go_at_call_of 13 (Value.int IntKind.i64 3); refine (pack_no 3 _ 1 _ (fun _ => 8) _ (by omega) (nums_one _ _ _) (fun _ => by omega) (Or.inl (by decide +kernel))).mono ?_; rintro e wn ⟨rfl, hLn⟩; have HL : Later w wn := (by first | exact HL.trans hLn | exact (HL.alloc _).trans hLn | exact ((HL.alloc _).alloc _).trans hLn); clear hLn)
    | (go_at_call_of 13 (Value.int IntKind.i64 0); refine (pack_no 0 none 0 0 (fun _ => 0) _ (by omega) (Nums.none _ _ _) z_bd (Or.inl (by decide +kernel))).mono ?_; rintro e wn ⟨rfl, hLn⟩; have HL : Later w wn := (by first | exact HL.trans hLn | exact (HL.alloc _).trans hLn | exact ((HL.alloc _).alloc _).trans hLn); clear hLn)
    | (go_at_call_of 13 (Value.int IntKind.i64 65); refine (pack_no 65 none 0 0 (fun _ => 0) _ (by omega) (Nums.none _ _ _) z_bd (Or.inl (by decide +kernel))).mono ?_; rintro e wn ⟨rfl, hLn⟩; have HL : Later w wn := (by first | exact HL.trans hLn | exact (HL.alloc _).trans hLn | exact ((HL.alloc _).alloc _).trans hLn); clear hLn)
    | (go_at_call_of 13 (Value.int IntKind.i64 1); refine (pack_no 1 _ 65 _ (fun _ => 0) _ (by omega) hO.out.nums z_bd (Or.inr (by omega))).mono ?_; rintro e wn ⟨rfl, hLn⟩; have HL : Later w wn := (by first | exact HL.trans hLn | exact (HL.alloc _).trans hLn | exact ((HL.alloc _).alloc _).trans hLn); clear hLn)
    | (go_at_call_of 14 (Value.slice none 0 0); refine (unpack_no none 0 0 _ (by decide +kernel)).mono ?_; rintro e wn ⟨rfl, hLn⟩; have HL : Later w wn := (by first | exact HL.trans hLn | exact (HL.alloc _).trans hLn | exact ((HL.alloc _).alloc _).trans hLn); clear hLn)
    | (go_at_call 14; refine (unpack_no _ 65 _ _ (by decide +kernel)).mono ?_; rintro e wn ⟨rfl, hLn⟩; have HL : Later w wn := (by first | exact HL.trans hLn | exact (HL.alloc _).trans hLn | exact ((HL.alloc _).alloc _).trans hLn); clear hLn)
    | (go_at_call_of 17 (Value.int IntKind.i64 64); refine (lane_no _ 1 _ 64 _ (by omega) (by decide +kernel)).mono ?_; rintro e wn ⟨rfl, hLn⟩; have HL : Later w wn := (by first | exact HL.trans hLn | exact (HL.alloc _).trans hLn | exact ((HL.alloc _).alloc _).trans hLn); clear hLn)
    | (go_at_call 17; refine (lane_no _ 1 _ (-1) _ (by omega) (by decide +kernel)).mono ?_; rintro e wn ⟨rfl, hLn⟩; have HL : Later w wn := (by first | exact HL.trans hLn | exact (HL.alloc _).trans hLn | exact ((HL.alloc _).alloc _).trans hLn); clear hLn)
    | (go_at_call 19; refine (set_no _ 1 _ 0 2 _ (by omega) (by omega) (by omega) (Or.inr (by decide +kernel))).mono ?_; rintro e wn ⟨rfl, hLn⟩; have HL : Later w wn := (by first | exact HL.trans hLn | exact (HL.alloc _).trans hLn | exact ((HL.alloc _).alloc _).trans hLn); clear hLn)
    | (go_at_call_of 21 (Value.int IntKind.i64 0); refine (fill_no 0 0 _ (by omega) (by omega) (by decide +kernel)).mono ?_; rintro e wn ⟨rfl, hLn⟩; have HL : Later w wn := (by first | exact HL.trans hLn | exact (HL.alloc _).trans hLn | exact ((HL.alloc _).alloc _).trans hLn); clear hLn)
    | (go_at_call_of 21 (Value.int IntKind.i64 4); refine (fill_no 4 16 _ (by omega) (by omega) (by decide +kernel)).mono ?_; rintro e wn ⟨rfl, hLn⟩; have HL : Later w wn := (by first | exact HL.trans hLn | exact (HL.alloc _).trans hLn | exact ((HL.alloc _).alloc _).trans hLn); clear hLn)
    | (go_at_call_of 21 (Value.int IntKind.i64 64); refine (fill_ok 64 18446744073709551615 _ (by omega) (by omega) (by decide +kernel)).mono ?_; rintro e wn ⟨A25, c25, rfl, hLn, hM25⟩; have HL : Later w wn := (by first | exact HL.trans hLn | exact (HL.alloc _).trans hLn | exact ((HL.alloc _).alloc _).trans hLn); have hM23' := hM23.later hLn; obtain ⟨b25, rfl, _, hO25⟩ := hM25.get (by omega); clear hLn hM25)
    | (at_make; refine wpList_make_full _ rfl _ _ 29 rfl 0 22 i0 (.int .u64 0) 1 Try.underlying29 hi hz0 hz1 .i64 .i64 _ _ 65 rfl rfl rfl rfl (by rw [hz2]; omega) (by unfold maxLen; omega) (Nat.zero_le _) ?_; intro wn hown hgrow; have hO := Lib.hid (own_made hown); have hLn := Later.of_grown hgrow; have HL : Later w wn := (by first | exact HL.trans hLn | exact (HL.alloc _).trans hLn | exact ((HL.alloc _).alloc _).trans hLn); clear hown hgrow; clear hLn))
  obtain ⟨wn, hrun, hown, hgrow⟩ := run_make_full (P := Try.prog) _ 0 29 22 i0 (.int .u64 0) 1 Try.underlying29 hi hz0 hz1 .i64 .i64 3 (by rw [hz2]; omega) (by unfold maxLen; omega) (Nat.zero_le _)
  rw [show ((3 : Nat) : Int) = 3 from rfl] at hrun
  rw [hrun]
  have hO := Lib.hid (own_made hown)
  have hLn := Later.of_grown hgrow
  have HL : Later w wn := HL.trans hLn
  have hM23'' := hM23'.later hLn
  have hO25' := hO25.later hLn
  clear hown hgrow hLn hrun
  go_wp2_with (first
    | (go_at_call 23; refine (equal_yes A23 _ 3 c23 3 _ _ _ (by omega) hM23''.nums hO.out.nums trn_none).mono ?_; rintro e wn ⟨rfl, hLn⟩; have HL : Later w wn := (by first | exact HL.trans hLn | exact (HL.alloc _).trans hLn | exact ((HL.alloc _).alloc _).trans hLn); have hc63 := ((hO25'.later hLn).2 63 (by omega)).1; rw [fill63] at hc63; clear hLn)
    | (go_at_call_of 24 (Value.int IntKind.u64 0); refine (count_0 _).mono ?_; rintro e wn ⟨rfl, hLn⟩; have HL : Later w wn := (by first | exact HL.trans hLn | exact (HL.alloc _).trans hLn | exact ((HL.alloc _).alloc _).trans hLn); clear hLn)
    | (go_at_call 24; refine (count_64 _).mono ?_; rintro e wn ⟨rfl, hLn⟩; have HL : Later w wn := (by first | exact HL.trans hLn | exact (HL.alloc _).trans hLn | exact ((HL.alloc _).alloc _).trans hLn); clear hLn)
    | (go_at_call 11; refine (wakes_ok _).mono ?_; rintro e wn ⟨rfl, hLn⟩; have HL : Later w wn := (by first | exact HL.trans hLn | exact (HL.alloc _).trans hLn | exact ((HL.alloc _).alloc _).trans hLn); clear hLn))
  go_ret
  exact ⟨rfl, HL⟩
end Go.Proofs.Ytmhmnjeimjjipaa
