/-
  No statement of the seat is proved here. The contract of the law's own wakes.
-/
import Derived.Test.YtmhmnjeimjjipaaSet
import Derived.Test.YtmhmnjeimjjipaaCount
namespace Go.Proofs.Ytmhmnjeimjjipaa
open Go Go.RowKit
set_option linter.unusedVariables false
def f123 (k : Nat) : Int := if k = 0 then 1 else if k = 1 then 2 else 3
def f56 (k : Nat) : Int := if k = 0 then 5 else 6
def fm0 (k : Nat) : Int := if k = 0 then 18446744073709551615 else 0
theorem f123_bd (k : Nat) : 0 ≤ f123 k ∧ f123 k < 18446744073709551616 := by unfold f123; split <;> (try split) <;> omega
theorem fm0_bd (k : Nat) : 0 ≤ fm0 k ∧ fm0 k < 18446744073709551616 := by unfold fm0; split <;> omega
theorem fits123 : Wd.fitsV 2 3 f123 = true := by decide +kernel
theorem nums123 (w : World) (t : TypeId) : Nums (w.alloc (.cells #[.int .u64 1, .int .u64 2, .int .u64 3] t)) (some ⟨w.heap.size, 0, none⟩) 3 f123 := by
  intro k hk
  refine ⟨_, _, rfl, by simp, ?_⟩
  rw [Nat.zero_add, World.cell?_alloc_new]
  rcases k with _ | _ | _ | k <;> first | rfl | omega
theorem nums_two (w : World) (x y : Int) (t : TypeId) : Nums (w.alloc (.cells #[.int .u64 x, .int .u64 y] t)) (some ⟨w.heap.size, 0, none⟩) 2 (fun k => if k = 0 then x else y) := by
  intro k hk
  refine ⟨_, _, rfl, by simp, ?_⟩
  rw [Nat.zero_add, World.cell?_alloc_new]
  rcases k with _ | _ | k <;> first | rfl | omega
theorem nums_two' (w : World) (b : Nat) (x y : Int) (t : TypeId) (hb : b = w.heap.size) : Nums (w.alloc (.cells #[.int .u64 x, .int .u64 y] t)) (some ⟨b, 0, none⟩) 2 (fun k => if k = 0 then x else y) := hb ▸ nums_two w x y t
theorem cell_later {w w' : World} {C : Array Value} {t : TypeId} (h : Later (w.alloc (.cells C t)) w') (i : Nat) (v : Value) (hv : C[i]? = some v) : w'.cell? ⟨w.heap.size, i, none⟩ = some v := by
  obtain ⟨g, rfl⟩ := h
  exact new_cell w C t g i v hv
theorem lane_is {A : Option Addr} {m c : Nat} {f : Nat → Int} {l : Nat} {v : Int} (he : Ln.trn (over m f fun _ => 0) l = v) (w : World) (hN : Nums w A m f) (hb : ∀ k, 0 ≤ f k ∧ f k < 18446744073709551616) (hv : Wd.okLane m l = true) :
    Calls Try.prog 17 #[.slice A m c, .int .i64 l] w (Ret w (.tuple #[.int .u64 v, .int .i64 0])) := he ▸ lane_ok A m c f l w hN hb hv
theorem turn_is {f T : Nat → Int} (hT : Ln.trn f = T) (hf : ∀ i, i < 64 → 0 ≤ f i ∧ f i < 18446744073709551616) (w : World) : Calls Try.prog 9 #[.agg (arr f)] w (Ret w (.agg (arr T))) := hT ▸ turn_any f hf w
theorem lane2 : Ln.trn (over 2 (Ln.trn (over 3 f123 fun _ => 0)) fun _ => 0) 1 = 2 := by decide +kernel
theorem pack56 : ∀ k, k < 2 → Ln.trn (over 3 f123 fun _ => 0) k = if k = 0 then 5 else 6 := by decide +kernel
theorem fill10 : ∀ k, k < 2 → Ln.fillV 1 k = if k = 0 then 18446744073709551615 else 0 := by decide +kernel
theorem trnm0 : Ln.trn fm0 0 = 1 ∧ Ln.trn fm0 63 = 1 := by decide +kernel
theorem fm0_eq : (fun k => if k = 0 then 18446744073709551615 else 0 : Nat → Int) = fm0 := rfl
set_option maxHeartbeats 4000000 in
theorem wakes_ok (w : World) : Calls Try.prog 11 #[] w (Ret w (.bool true)) := by
  obtain ⟨T, hT⟩ : ∃ T, Ln.trn fm0 = T := ⟨_, rfl⟩
  obtain ⟨hT0, hT63⟩ := trnm0
  rw [hT] at hT0 hT63
  have HT := Lib.hid hT
  clear hT
  go_enter Try.func11, Try.ntmps11
  set_option maxRecDepth 8000 in
  go_wp2_with (first
    | (go_at_call 13; refine (pack_ok 2 _ 3 _ f123 _ (by omega) (nums123 _ _) (spot_head _ _) f123_bd fits123).mono ?_; rintro e w1 ⟨A1, c1, rfl, hL1, hM1⟩)
    | (go_at_call 17; refine (lane_is (A := A1) (m := 2) (c := c1) (l := 1) lane2 _ hM1.nums (fun k => trn_bd' _ k) (by decide +kernel)).mono ?_; rintro e w2 ⟨rfl, hL2⟩)
    | (go_at_call 21; refine (fill_ok 2 1 _ (by omega) (by omega) (by decide +kernel)).mono ?_; rintro e w3 ⟨A3, c3, rfl, hL3, hM3⟩)
    | (go_at_call 9; refine (turn_is (f := fun k => if k = 0 then 18446744073709551615 else 0) HT.out (fun i _ => fm0_bd i) _).mono ?_; rintro e w4 ⟨rfl, hL4⟩)
    | (go_at_call_of 23 (Value.slice A1 2 c1); refine (equal_yes A1 _ 2 c1 2 _ _ _ (by omega) (hM1.nums.later ((((hL2.trans hL3).trans (((Later.refl _).alloc _).trans hL4)).alloc _).alloc _)) (nums_two' _ _ _ _ _ (by simp)) pack56).mono ?_; rintro e w5 ⟨rfl, g5, rfl⟩)
    | (go_at_call_of 23 (Value.slice A3 2 c3); refine (equal_yes A3 _ 2 c3 2 _ _ _ (by omega) (hM3.nums.later ((((((((Later.refl _).alloc _).trans hL4).alloc _).alloc _).more _).alloc _))) (nums_two' _ _ _ _ _ (by simp)) fill10).mono ?_; rintro e w6 ⟨rfl, hL6⟩; have hT6 := ((((Later.refl _).alloc _).more _).alloc _).trans hL6; have hc0 := cell_later hT6 0 _ ((arr_get T 0 (by omega)).trans (by rw [hT0])); have hc63 := cell_later hT6 63 _ ((arr_get T 63 (by omega)).trans (by rw [hT63])))
    | (go_at_call 24; refine (count_3 _).mono ?_; rintro e w7 ⟨rfl, g7, rfl⟩))
  go_ret
  have hA : Later w w3 := (((Later.refl w).alloc _).trans hL1).trans (hL2.trans hL3)
  have hB : Later w3 w4 := ((Later.refl _).alloc _).trans hL4
  have hC : Later w4 w6 := (((((Later.refl w4).alloc _).alloc _).more g5).alloc _).trans hL6
  exact Ret.mk ((hA.trans (hB.trans hC)).more _)
end Go.Proofs.Ytmhmnjeimjjipaa
