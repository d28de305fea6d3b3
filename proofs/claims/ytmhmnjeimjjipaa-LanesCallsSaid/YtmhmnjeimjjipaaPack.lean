/-
  No statement of the seat is proved here. Contracts of lanes.Pack, for every width and row of words.
-/
import Derived.Test.YtmhmnjeimjjipaaSlices
import Derived.Test.YtmhmnjeimjjipaaTurn
namespace Go.Proofs.Ytmhmnjeimjjipaa
open Go Go.RowKit
set_option linter.unusedVariables false

/-- Two results: a row of numbers of the call's own, and a number. -/
def RetSE (w : World) (n : Nat) (f : Nat → Int) (er : Int) (e : Ending) (w' : World) : Prop := ∃ A c, e = .returned (.tuple #[.slice A n c, .int .i64 er]) ∧ Later w w' ∧ Mine w.heap.size w' A n f
theorem over_bd {n : Nat} {f h : Nat → Int} (hf : ∀ k, 0 ≤ f k ∧ f k < 18446744073709551616) (hh : ∀ k, 0 ≤ h k ∧ h k < 18446744073709551616) (k : Nat) : 0 ≤ over n f h k ∧ over n f h k < 18446744073709551616 := by
  unfold over
  split
  · exact hf k
  · exact hh k
theorem fits_may {n : Int} {m : Nat} {f : Nat → Int} (h : Wd.fitsV n m f = true) : 1 ≤ n ∧ n ≤ 64 ∧ ∀ k, k < m → f k < Wd.pw n := by
  simp only [Wd.fitsV, Bool.and_eq_true, decide_eq_true_eq] at h
  have hb := Wd.may_bd h.1
  exact ⟨hb.1, hb.2, fun k hk => Wd.isw_lt (h.2 k hk)⟩

theorem nums_arr (w : World) (f : Nat → Int) (t : TypeId) (g : Grow) (n : Nat) (hn : n ≤ 64) : Nums (more (w.alloc (.cells (arr f) t)) g) (some ⟨w.heap.size, 0, none⟩) n f := by
  intro k hk
  exact ⟨w.heap.size, 0, rfl, by simp; omega, by rw [Nat.zero_add]; exact new_cell w _ t g k _ (arr_get f k (by omega))⟩
theorem nums_arr0 (w : World) (f : Nat → Int) (t : TypeId) (n : Nat) (hn : n ≤ 64) : Nums (w.alloc (.cells (arr f) t)) (some ⟨w.heap.size, 0, none⟩) n f := by
  have h := nums_arr w f t ⟨#[], (w.alloc (.cells (arr f) t)).drawn⟩ n hn
  rwa [show more (w.alloc (.cells (arr f) t)) ⟨#[], (w.alloc (.cells (arr f) t)).drawn⟩ = w.alloc (.cells (arr f) t) by simp [more]; rfl] at h
theorem spot_head (b o : Nat) : ∀ a, (some ⟨b, o, none⟩ : Option Addr) = some a → a.spot = none := fun a h => by injection h with h; rw [← h]
theorem trn_bd' (f : Nat → Int) (k : Nat) : 0 ≤ Ln.trn f k ∧ Ln.trn f k < 18446744073709551616 := Ln.trn_bd f k

set_option maxHeartbeats 1000000 in
theorem pack_ok (n : Nat) (A : Option Addr) (m c : Nat) (f : Nat → Int) (w : World) (hm : m ≤ 64) (hN : Nums w A m f) (hz : ∀ a, A = some a → a.spot = none) (hb : ∀ k, 0 ≤ f k ∧ f k < 18446744073709551616) (hv : Wd.fitsV n m f = true) :
    Calls Try.prog 13 #[.int .i64 n, .slice A m c] w (RetSE w n (Ln.trn (over m f fun _ => 0)) 0) := by
  obtain ⟨n1, n2, _⟩ := fits_may hv
  have n1' : 1 ≤ n := by omega
  have n2' : n ≤ 64 := by omega
  have HN := Lib.hid hN
  have HB := Lib.hid hb
  have HZ := Lib.hid hz
  have HV := Lib.hid hv
  clear hN hb hv hz
  go_enter Try.func13, Try.ntmps13
  go_wp2_with (first
    | (go_at_call 28; refine (fits_is HV.out HB.out (by omega) _ HN.out).mono ?_; rintro e w1 ⟨rfl, hL1⟩)
    | (refine wpList_copy_sq rfl _ _ rfl _ _ _ _ _ rfl rfl HZ.out (fun _ => 0) (heap_alloc_new _ _) f (HN.out.later (hL1.alloc _)) hm ?_)
    | (go_at_call 9; refine (turn_any _ (fun i _ => over_bd HB.out (fun _ => by omega) i) _).mono ?_; rintro e w2 ⟨rfl, g, rfl⟩)
    | (go_at_call 12; refine (clone_any _ n 64 _ _ (nums_arr _ _ _ _ n n2') (by omega) (spot_head _ _)).mono ?_; rintro e w3 ⟨A3, c3, rfl, hL3, hM3⟩))
  go_ret2
  exact ⟨A3, c3, rfl, ((hL1.alloc _).more _).trans hL3, hM3.base (by have := hL1.below.size; simp; omega)⟩
theorem pack_no (n : Int) (A : Option Addr) (m c : Nat) (f : Nat → Int) (w : World) (hm : m ≤ 9223372036854775807) (hN : Nums w A m f) (hb : ∀ k, 0 ≤ f k ∧ f k < 18446744073709551616) (hv : Wd.fitsV n m f = false ∨ 64 < m) :
    Calls Try.prog 13 #[.int .i64 n, .slice A m c] w (Ret w (.tuple #[.slice none 0 0, .int .i64 1])) := by
  have HN := Lib.hid hN
  have HB := Lib.hid hb
  clear hN hb
  cases hv' : Wd.fitsV n m f
  · clear hv
    go_enter Try.func13, Try.ntmps13
    go_wp2_with (first | (go_at_call 28; refine (fits_is hv' HB.out (by omega) _ HN.out).mono ?_; rintro e w1 ⟨rfl, hL1⟩))
    go_ret2
    exact ⟨rfl, hL1⟩
  · have hm' : 64 < m := by rcases hv with h | h; · rw [h] at hv'; cases hv'
                            · exact h
    clear hv
    go_enter Try.func13, Try.ntmps13
    go_wp2_with (first | (go_at_call 28; refine (fits_is hv' HB.out (by omega) _ HN.out).mono ?_; rintro e w1 ⟨rfl, hL1⟩))
    go_ret2
    exact ⟨rfl, hL1⟩
end Go.Proofs.Ytmhmnjeimjjipaa
