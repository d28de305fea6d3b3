/-
  No statement of the seat is proved here. Contracts of the reference's Bit, one, Turn, for every number and square.
-/
import Derived.Test.YtmhmnjeimjjipaaArr
import Derived.Test.YtmhmnjeimjjipaaPlain
import Derived.Deep.RegionWith
import Derived.Deep.DeepCutAuto
namespace Go.Proofs.Ytmhmnjeimjjipaa
open Go Go.RowKit
set_option linter.unusedVariables false

namespace Ln
def b01 (x : Int) (k : Nat) : Int := if tb x k then 1 else 0
theorem b01_div {x : Int} (h0 : 0 ≤ x) (k : Nat) : x / 2 ^ k % 2 = b01 x k := by
  obtain ⟨X, rfl⟩ := Int.eq_ofNat_of_zero_le h0
  have e : ((X : Int) / 2 ^ k % 2) = ((X / 2 ^ k % 2 : Nat) : Int) := by push_cast; rfl
  rw [e, b01, tb, Int.toNat_natCast, Nat.testBit_eq_decide_div_mod_eq]
  rcases Nat.mod_two_eq_zero_or_one (X / 2 ^ k) with h | h <;> simp [h]
theorem div_next (x : Int) (k : Nat) : x / 2 ^ k / 2 = x / 2 ^ (k + 1) := by
  rw [Int.ediv_ediv_of_nonneg (by exact Int.le_of_lt (Int.pow_pos (by omega))), Int.pow_succ]
theorem div_bd {x : Int} (h0 : 0 ≤ x) (hx : x < 18446744073709551616) (k : Nat) : 0 ≤ x / 2 ^ k ∧ x / 2 ^ k < 18446744073709551616 := by
  have hp : (0 : Int) < 2 ^ k := Int.pow_pos (by omega)
  refine ⟨Int.ediv_nonneg h0 (by omega), ?_⟩
  exact Int.lt_of_le_of_lt (Int.ediv_le_self _ h0) hx
theorem b01_bd (x : Int) (k : Nat) : 0 ≤ b01 x k ∧ b01 x k ≤ 1 := by unfold b01; split <;> omega
theorem two_bd {k : Nat} (h : k ≤ 63) : 1 ≤ (2 : Int) ^ k ∧ (2 : Int) ^ k ≤ 9223372036854775808 := by
  have e : ((2 : Int) ^ k) = ((2 ^ k : Nat) : Int) := by push_cast; rfl
  have h1 : 2 ^ k ≤ 2 ^ 63 := Nat.pow_le_pow_right (by omega) h
  have h2 : 0 < 2 ^ k := Nat.two_pow_pos k
  rw [e]; omega
/-- A row of sums, i bits of it. -/
def psum (f : Nat → Int) (i m : Nat) : Int := ((bsum (fun c => tb (f c) m) i : Nat) : Int)
theorem psum_zero (f : Nat → Int) (m : Nat) : psum f 0 m = 0 := rfl
theorem psum_all (f : Nat → Int) (m : Nat) : psum f 64 m = trn f m := rfl
theorem psum_next (f : Nat → Int) (i m : Nat) : psum f i m + b01 (f i) m * 2 ^ i = psum f (i + 1) m := by
  unfold psum b01
  rw [show bsum (fun c => tb (f c) m) (i + 1) = bsum (fun c => tb (f c) m) i + if tb (f i) m then 2 ^ i else 0 from rfl]
  split <;> simp
theorem psum_bd (f : Nat → Int) {i : Nat} (h : i ≤ 64) (m : Nat) : 0 ≤ psum f i m ∧ psum f i m < 18446744073709551616 := by
  have h1 := bsum_lt (fun c => tb (f c) m) i
  have h2 : 2 ^ i ≤ 2 ^ 64 := Nat.pow_le_pow_right (by omega) h
  unfold psum
  omega
def rpart (f : Nat → Int) (i j m : Nat) : Int := if m < j then psum f (i + 1) m else psum f i m
theorem rpart_do {f h' : Nat → Int} {k m : Nat} (hk : k < 64) (hm : m < 64) (hQ : ∀ c, c < 64 → h' c = rpart f k m c) (c : Nat) (hc : c < 64) :
    (if c = m then IntKind.u64.wrap (h' m + IntKind.u64.wrap (b01 (f k) m * 2 ^ k)) else h' c) = rpart f k (m + 1) c := by
  have h1 := psum_bd f (i := k + 1) (by omega) m
  have h2 := psum_next f k m
  have h0 := psum_bd f (i := k) (by omega) m
  have h3 := hQ m hm
  rw [rpart, if_neg (by omega)] at h3
  by_cases e : c = m
  · subst e
    rw [if_pos rfl, rpart, if_pos (by omega), wrap_u64, wrap_u64, h3, ← h2]
    rw [← h2] at h1
    have hb : 0 ≤ b01 (f k) c * 2 ^ k := Int.mul_nonneg (b01_bd _ _).1 (Int.le_of_lt (Int.pow_pos (by omega)))
    rw [Int.emod_eq_of_lt hb (by omega), Int.emod_eq_of_lt h1.1 h1.2]
  · rw [if_neg e, hQ c hc]
    unfold rpart
    by_cases hlt : c < m
    · rw [if_pos hlt, if_pos (by omega)]
    · rw [if_neg hlt, if_neg (by omega)]
theorem two_next (k : Nat) : (2 : Int) ^ k * 2 = 2 ^ (k + 1) := by rw [Int.pow_succ]
end Ln

set_option maxHeartbeats 1000000 in
theorem bit_any (x : Int) (k : Nat) (h0 : 0 ≤ x) (hx : x < 18446744073709551616) (hk : k ≤ 64) (w : World) : Calls Try.prog 26 #[.int .u64 x, .int .i64 k] w (Ret w (.int .u64 (Ln.b01 x k))) := by
  have HD := Lib.hid (Ln.div_bd h0 hx)
  have HE := Lib.hid (Ln.b01_div h0 k)
  clear h0 hx
  go_enter Try.func26, Try.ntmps26
  go_wp2_with fail
  go_loopw [0, 5] (fun z i wr => ∃ (m : Nat), m ≤ k ∧ z = .int .u64 (x / 2 ^ m) ∧ i = .int .i64 m ∧ wr = w) (fun _ i _ => k - (intOf i).toNat)
  case atStart => exact ⟨0, by omega, by simp, rfl, rfl⟩
  case round =>
    obtain ⟨m, hm, rfl, rfl, rfl⟩ := hrel
    have hd := HD.out m
    have HN := Lib.hid (Ln.div_next x m)
    by_cases hlt : m < k
    · generalize x / 2 ^ m = y at *
      go_wp2_with fail
      go_roundw
      case rel => exact ⟨m + 1, by omega, by rw [← HN.out], by go_num, trivial⟩
      case measure => simp [intOf]; omega
    · obtain rfl : m = k := by omega
      generalize x / 2 ^ m = y at *
      go_wp2_with fail
      go_ret
      exact Ret.mk' (congrArg (Value.int .u64) HE.out) (Later.refl _)
theorem one_any (k : Nat) (hk : k ≤ 63) (w : World) : Calls Try.prog 27 #[.int .i64 k] w (Ret w (.int .u64 (2 ^ k))) := by
  go_enter Try.func27, Try.ntmps27
  go_wp2_with fail
  go_loopw [3, 4] (fun z i wr => ∃ (m : Nat), m ≤ k ∧ z = .int .u64 (2 ^ m) ∧ i = .int .i64 m ∧ wr = w) (fun _ i _ => k - (intOf i).toNat)
  case atStart => exact ⟨0, by omega, rfl, rfl, rfl⟩
  case round =>
    obtain ⟨m, hm, rfl, rfl, rfl⟩ := hrel
    by_cases hlt : m < k
    · have hd := Ln.two_bd (k := m + 1) (by omega)
      have HN := Lib.hid (Ln.two_next m)
      rw [← Ln.two_next m] at hd
      generalize (2 : Int) ^ m = y at *
      go_wp2_with fail
      go_roundw
      case rel => exact ⟨m + 1, by omega, by rw [← HN.out], by go_num, trivial⟩
      case measure => simp [intOf]; omega
    · obtain rfl : m = k := by omega
      generalize (2 : Int) ^ m = y at *
      go_wp2_with fail
      go_ret
      exact Ret.mk (Later.refl _)

set_option maxHeartbeats 4000000 in
theorem rturn_any (f : Nat → Int) (hf : ∀ i, i < 64 → 0 ≤ f i ∧ f i < 18446744073709551616) (w : World) : Calls Try.prog 10 #[.agg (arr f)] w (Ret w (.agg (arr (Ln.trn f)))) := by
  have HF := Lib.hid hf
  clear hf
  go_enter Try.func10, Try.ntmps10
  go_wp2_with fail
  go_loopw [4] (fun i wr => ∃ (k : Nat) (h : Nat → Int) (g : Grow), k ≤ 64 ∧ i = .int .i64 k ∧ Hid (∀ m, m < 64 → h m = Ln.psum f k m) ∧ wr = more (((w.alloc (.cells (arr f) 23)).alloc (.cells (arr fun _ => 0) 23)).alloc (.cells (arr h) 23)) g) (fun i _ => 64 - (intOf i).toNat)
  case atStart => exact ⟨0, fun _ => 0, ⟨#[], _⟩, by omega, rfl, Lib.hid (fun m _ => rfl), by simp [more]; rfl⟩
  case round =>
    obtain ⟨k, h, g, hk, rfl, hP, rfl⟩ := hrel
    by_cases hlt : k < 64
    · go_wp2_with fail
      have e7 : decide ((k : Int) < 64) = true := by simp; omega
      simp only [e7]
      clear e7
      go_loopw [5] (fun j wr => ∃ (m : Nat) (h' : Nat → Int) (g : Grow), m ≤ 64 ∧ j = .int .i64 m ∧ Hid (∀ c, c < 64 → h' c = Ln.rpart f k m c) ∧ wr = more (((w.alloc (.cells (arr f) 23)).alloc (.cells (arr fun _ => 0) 23)).alloc (.cells (arr h') 23)) g) (fun j _ => 64 - (intOf j).toNat)
      case atStart => exact ⟨0, h, g, by omega, rfl, Lib.hid (fun c hc => by rw [hP.out c hc]; rfl), rfl⟩
      case round =>
        obtain ⟨m, h', g, hm, rfl, hQ, rfl⟩ := hrel
        by_cases hm64 : m < 64
        · have hfk := HF.out k hlt
          have hb := Ln.b01_bd (f k) m
          have h2 := Ln.two_bd (k := k) (by omega)
          go_upto_region 8 with fail
          go_region_with (first
            | (go_at_call 26; refine (bit_any _ m hfk.1 hfk.2 hm _).mono ?_; rintro e w' ⟨rfl, g2, rfl⟩)
            | (go_at_call 27; refine (one_any k (by omega) _).mono ?_; rintro e w' ⟨rfl, g3, rfl⟩))
          all_goals
            clear hb h2 hfk
            go_wp2_with fail
            go_roundw
            case rel => exact ⟨m + 1, _, _, by omega, by go_num, Lib.hid (fun c hc => Ln.rpart_do hlt hm64 hQ.out c hc), rfl⟩
            case measure => simp [intOf]; omega
        · obtain rfl : m = 64 := by omega
          go_wp2_with fail
          go_roundw
          case rel => exact ⟨k + 1, h', _, by omega, by go_num, Lib.hid (fun c hc => by rw [hQ.out c hc, Ln.rpart, if_pos hc]), rfl⟩
          case measure => simp [intOf]; omega
    · obtain rfl : k = 64 := by omega
      have HR := Lib.hid (arr_congr (fun m hm => (hP.out m hm).trans (Ln.psum_all f m)))
      set_option maxRecDepth 8000 in
      go_wp2_with fail
      refine bodyPost_ret (results_cell_row rfl _ _ (w.heap.size + 1) 23 (arr h) (0, 0) _ rfl ?_ row23 rfl (by rw [size23, arr_size])) rfl (Ret.mk' (congrArg Value.agg HR.out) (((((Later.refl _).alloc _).alloc _).alloc _).more _))
      rw [more_heap_lt _ _ _ (by simp), Below.heap_alloc _ _ _ (by simp)]
      exact heap_alloc2_new _ _ _
end Go.Proofs.Ytmhmnjeimjjipaa
