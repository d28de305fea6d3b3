/-
  No statement of the seat is proved here. Contracts of lanes.fits and is, for every width and row of words.
-/
import Derived.Test.YtmhmnjeimjjipaaWalkW
import Derived.Test.YtmhmnjeimjjipaaArr
namespace Go.Proofs.Ytmhmnjeimjjipaa
open Go Go.RowKit
set_option linter.unusedVariables false

/-- A row of numbers in memory below the heap's end. -/
def Nums (w : World) (A : Option Addr) (n : Nat) (f : Nat → Int) : Prop :=
  ∀ k, k < n → ∃ b off, A = some ⟨b, off, none⟩ ∧ b < w.heap.size ∧ w.cell? ⟨b, off + k, none⟩ = some (.int .u64 (f k))
theorem Nums.later {w w' : World} {A : Option Addr} {n : Nat} {f : Nat → Int} (h : Nums w A n f) (hl : Later w w') : Nums w' A n f := by
  obtain ⟨g, rfl⟩ := hl
  intro k hk
  obtain ⟨b, off, hA, hb, hc⟩ := h k hk
  exact ⟨b, off, hA, by rw [more_size]; omega, by rw [more_cell _ _ _ _ hb]; exact hc⟩
theorem Nums.none (w : World) (A : Option Addr) (f : Nat → Int) : Nums w A 0 f := fun k hk => by omega
theorem Nums.congr {w : World} {A : Option Addr} {n : Nat} {f h : Nat → Int} (H : Nums w A n f) (e : ∀ k, k < n → f k = h k) : Nums w A n h := by
  intro k hk
  rw [← e k hk]
  exact H k hk

theorem closure_is {n x : Int} {v : Bool} (h0 : 0 ≤ x) (hx : x < 18446744073709551616) (h : Wd.isw false false n x = v) (b : Nat) (w : World)
    (c0 : w.cell? ⟨b, 0, none⟩ = some (.bool false)) (c1 : w.cell? ⟨b, 1, none⟩ = some (.bool false)) (c2 : w.cell? ⟨b, 2, none⟩ = some (.int .i64 n)) :
    Calls Try.prog 34 #[.int .u64 x, .pointer (some ⟨b, 0, none⟩)] w (Ret w (.bool (!v))) := by
  go_enter Try.func34, Try.ntmps34
  go_wp2_with (go_at_call 35; refine (is_is h0 hx h _).mono ?_; rintro e w' ⟨rfl, g, rfl⟩)
  go_ret
  exact Ret.mk ((Later.refl _).more _)

namespace Wd
/-- The first number that is too wide. -/
def firstBad (n : Int) (f : Nat → Int) : Nat → Nat → Int
  | _, 0 => -1
  | k, m + 1 => bif isw false false n (f k) then firstBad n f (k + 1) m else k
def allIn (n : Int) (m : Nat) (f : Nat → Int) : Bool := decide (∀ k ∈ List.range m, isw false false n (f k) = true)
theorem firstBad_neg (n : Int) (f : Nat → Int) (m k : Nat) : decide (0 ≤ firstBad n f k m) = !decide (∀ j, j < m → isw false false n (f (k + j)) = true) := by
  induction m generalizing k with
  | zero => simp [firstBad]
  | succ m ih =>
    unfold firstBad
    cases h : isw false false n (f k)
    · have : ¬ (∀ j, j < m + 1 → isw false false n (f (k + j)) = true) := fun hh => by have := hh 0 (by omega); simp [h] at this
      simp [this]
    · rw [cond_true, ih (k + 1)]
      congr 1
      apply decide_eq_decide.2
      constructor
      · intro hh j hj
        rcases j with _ | j
        · exact h
        · have := hh j (by omega); rwa [show k + (j + 1) = k + 1 + j by omega]
      · intro hh j hj
        have := hh (j + 1) (by omega); rwa [show k + 1 + j = k + (j + 1) by omega]
def fitsV (n : Int) (m : Nat) (f : Nat → Int) : Bool := may false false n && decide (∀ j, j < m → isw false false n (f j) = true)
end Wd

set_option maxHeartbeats 1000000 in
theorem index_any (n : Int) (A : Option Addr) (m : Nat) (cap : Nat) (f : Nat → Int) (hb : ∀ k, 0 ≤ f k ∧ f k < 18446744073709551616) (hm : m ≤ 9223372036854775807) (b : Nat) (w : World) (hN : Nums w A m f) (hbw : b < w.heap.size)
    (c0 : w.cell? ⟨b, 0, none⟩ = some (.bool false)) (c1 : w.cell? ⟨b, 1, none⟩ = some (.bool false)) (c2 : w.cell? ⟨b, 2, none⟩ = some (.int .i64 n)) :
    Calls Try.prog 36 #[.slice A m cap, .func (.func 34) #[] #[.pointer (some ⟨b, 0, none⟩)]] w (Ret w (.int .i64 (Wd.firstBad n f 0 m))) := by
  have HB := Lib.hid hb
  have HN := Lib.hid hN
  clear hb hN
  obtain ⟨V, hV⟩ : ∃ V, Wd.firstBad n f 0 m = V := ⟨_, rfl⟩
  rw [hV]
  have HF : Hid (Wd.firstBad n f 0 m = V) := Lib.hid hV
  clear hV
  go_enter Try.func36, Try.ntmps36
  go_wp2_with fail
  go_loopw [8] (fun i wr => ∃ (k : Nat) (g : Grow), k ≤ m ∧ i = .int .i64 k ∧ Hid (Wd.firstBad n f k (m - k) = V) ∧ wr = more w g) (fun i _ => m - (intOf i).toNat)
  case atStart => exact ⟨0, ⟨#[], w.drawn⟩, Nat.zero_le _, rfl, HF, by simp [more]⟩
  case round =>
    obtain ⟨k, g, hk, rfl, hF, rfl⟩ := hrel
    by_cases hlt : k < m
    · obtain ⟨bl, off, rfl, hbl, hcell⟩ := HN.out k hlt
      have hbx := HB.out k
      have d0 : (more w g).cell? ⟨b, 0, none⟩ = some (.bool false) := by rw [more_cell _ _ _ _ hbw]; exact c0
      have d1 : (more w g).cell? ⟨b, 1, none⟩ = some (.bool false) := by rw [more_cell _ _ _ _ hbw]; exact c1
      have d2 : (more w g).cell? ⟨b, 2, none⟩ = some (.int .i64 n) := by rw [more_cell _ _ _ _ hbw]; exact c2
      have HS : Hid (Wd.firstBad n f k (m - k) = bif Wd.isw false false n (f k) then Wd.firstBad n f (k + 1) (m - (k + 1)) else k) := Lib.hid (by rw [show m - k = (m - (k + 1)) + 1 by omega, Wd.firstBad])
      generalize f k = x at *
      cases hw : Wd.isw false false n x
      · go_wp2_with (go_at_call 34; refine (closure_is hbx.1 hbx.2 hw b _ d0 d1 d2).mono ?_; rintro e w' ⟨rfl, g2, rfl⟩)
        go_ret
        exact Ret.mk' (by rw [← hF.out, HS.out, hw]; rfl) ((Later.refl _).more _)
      · go_wp2_with (go_at_call 34; refine (closure_is hbx.1 hbx.2 hw b _ d0 d1 d2).mono ?_; rintro e w' ⟨rfl, g2, rfl⟩)
        go_roundw
        case rel => exact ⟨k + 1, _, by omega, by go_num, Lib.hid (by rw [← hF.out, HS.out, hw]; rfl), rfl⟩
        case measure => simp [intOf]; omega
    · have hkm : k = m := by omega
      have HE : Hid (Wd.firstBad n f k (m - k) = -1) := Lib.hid (by rw [show m - k = 0 by omega, Wd.firstBad])
      go_wp2_with fail
      go_ret
      exact Ret.mk' (by rw [← hF.out, HE.out]; rfl) ((Later.refl _).more _)

theorem contains_any (n : Int) (A : Option Addr) (m : Nat) (cap : Nat) (f : Nat → Int) (hb : ∀ k, 0 ≤ f k ∧ f k < 18446744073709551616) (hm : m ≤ 9223372036854775807) (b : Nat) (w : World) (hN : Nums w A m f) (hbw : b < w.heap.size)
    (c0 : w.cell? ⟨b, 0, none⟩ = some (.bool false)) (c1 : w.cell? ⟨b, 1, none⟩ = some (.bool false)) (c2 : w.cell? ⟨b, 2, none⟩ = some (.int .i64 n)) :
    Calls Try.prog 33 #[.slice A m cap, .func (.func 34) #[] #[.pointer (some ⟨b, 0, none⟩)]] w (Ret w (.bool (!decide (∀ j, j < m → Wd.isw false false n (f j) = true)))) := by
  have hI := index_any n A m cap f hb hm b w hN hbw c0 c1 c2
  have HD := Lib.hid (Wd.firstBad_neg n f m 0)
  generalize Wd.firstBad n f 0 m = V at *
  clear hb hN
  go_enter Try.func33, Try.ntmps33
  go_wp2_with (go_at_call 36; (with_reducible refine hI.mono ?_); rintro e w' ⟨rfl, g, rfl⟩)
  go_ret
  exact Ret.mk' (by have h := HD.out; simp only [Nat.zero_add] at h; rw [h]; rfl) ((Later.refl _).more _)

theorem new_cell (w : World) (cs : Array Value) (t : TypeId) (g : Grow) (i : Nat) (v : Value) (h : cs[i]? = some v) : (more (w.alloc (.cells cs t)) g).cell? ⟨w.heap.size, i, none⟩ = some v := by
  rw [more_cell _ _ _ _ (by simp)]
  unfold World.cell?
  rw [heap_alloc_last]
  exact h
theorem fits_any (n : Int) (A : Option Addr) (m : Nat) (cap : Nat) (f : Nat → Int) (hb : ∀ k, 0 ≤ f k ∧ f k < 18446744073709551616) (hm : m ≤ 9223372036854775807) (w : World) (hN : Nums w A m f) :
    Calls Try.prog 28 #[.int .i64 n, .slice A m cap] w (Ret w (.bool (Wd.fitsV n m f))) := by
  have HN := Lib.hid hN
  have HB := Lib.hid hb
  clear hN hb
  cases hmay : Wd.may false false n
  · go_enter Try.func28, Try.ntmps28
    go_wp2_with (go_at_call 32; refine (may_is hmay _).mono ?_; rintro e w' ⟨rfl, g, rfl⟩)
    go_ret
    exact Ret.mk' (by simp [Wd.fitsV, hmay]) (((Later.refl _).alloc _).more _)
  · have HD := Lib.hid (show Wd.fitsV n m f = decide (∀ j, j < m → Wd.isw false false n (f j) = true) by rw [Wd.fitsV, hmay]; rfl)
    generalize Wd.fitsV n m f = V at *
    go_enter Try.func28, Try.ntmps28
    go_wp2_with (first | (go_at_call 32; refine (may_is hmay _).mono ?_; rintro e w' ⟨rfl, g, rfl⟩) | (go_at_call 33; refine (contains_any n A m cap f HB.out hm w.heap.size _ (HN.out.later (((Later.refl _).alloc _).more _)) (by simp; omega) (new_cell _ _ _ _ _ _ rfl) (new_cell _ _ _ _ _ _ rfl) (new_cell _ _ _ _ _ _ rfl)).mono ?_; rintro e w' ⟨rfl, g, rfl⟩))
    go_ret
    exact Ret.mk' (by rw [HD.out]; simp) (((Later.refl _).alloc _).more _)
theorem fits_is {n : Int} {A : Option Addr} {m : Nat} {cap : Nat} {f : Nat → Int} {v : Bool} (hv : Wd.fitsV n m f = v) (hb : ∀ k, 0 ≤ f k ∧ f k < 18446744073709551616) (hm : m ≤ 9223372036854775807) (w : World) (hN : Nums w A m f) :
    Calls Try.prog 28 #[.int .i64 n, .slice A m cap] w (Ret w (.bool v)) := hv ▸ fits_any n A m cap f hb hm w hN
theorem fits_nil {n : Int} {v : Bool} (hv : Wd.may false false n = v) (w : World) : Calls Try.prog 28 #[.int .i64 n, .slice none 0 0] w (Ret w (.bool v)) :=
  fits_is (f := fun _ => 0) (by rw [← hv, Wd.fitsV]; simp) (fun k => by omega) (by omega) w (Nums.none w none _)

namespace Wd
def okLane (m : Nat) (l : Int) : Bool := may false false m && (decide (0 ≤ l) && decide (l < 64))
end Wd
theorem is_lane_any (A : Option Addr) (m : Nat) (cap : Nat) (l : Int) (w : World) (hm : m ≤ 9223372036854775807) :
    Calls Try.prog 30 #[.slice A m cap, .int .i64 l] w (Ret w (.bool (Wd.okLane m l))) := by
  cases hmay : Wd.may false false (m : Int)
  · rw [show Wd.okLane m l = false by rw [Wd.okLane, hmay]; rfl]
    go_enter Try.func30, Try.ntmps30
    go_wp2_with (go_at_call 28; refine (fits_nil hmay _).mono ?_; rintro e w' ⟨rfl, g, rfl⟩)
    go_ret
    exact Ret.mk ((Later.refl _).more _)
  · by_cases h1 : 0 ≤ l
    · by_cases h2 : l < 64
      · rw [show Wd.okLane m l = true by rw [Wd.okLane, hmay]; simp [h1, h2]]
        go_enter Try.func30, Try.ntmps30
        go_wp2_with (go_at_call 28; refine (fits_nil hmay _).mono ?_; rintro e w' ⟨rfl, g, rfl⟩)
        go_ret
        exact Ret.mk ((Later.refl _).more _)
      · rw [show Wd.okLane m l = false by rw [Wd.okLane, hmay]; simp [h2]]
        go_enter Try.func30, Try.ntmps30
        go_wp2_with (go_at_call 28; refine (fits_nil hmay _).mono ?_; rintro e w' ⟨rfl, g, rfl⟩)
        go_ret
        exact Ret.mk' (congrArg Value.bool (by simpa using h2)) ((Later.refl _).more _)
    · rw [show Wd.okLane m l = false by rw [Wd.okLane, hmay]; simp [h1]]
      go_enter Try.func30, Try.ntmps30
      go_wp2_with (go_at_call 28; refine (fits_nil hmay _).mono ?_; rintro e w' ⟨rfl, g, rfl⟩)
      go_ret
      exact Ret.mk ((Later.refl _).more _)
theorem is_lane_is {A : Option Addr} {m : Nat} {cap : Nat} {l : Int} {v : Bool} (hv : Wd.okLane m l = v) (w : World) (hm : m ≤ 9223372036854775807) :
    Calls Try.prog 30 #[.slice A m cap, .int .i64 l] w (Ret w (.bool v)) := hv ▸ is_lane_any A m cap l w hm
end Go.Proofs.Ytmhmnjeimjjipaa
