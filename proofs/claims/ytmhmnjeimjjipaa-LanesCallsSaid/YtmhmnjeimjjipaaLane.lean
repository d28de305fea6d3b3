/-
  No statement of the seat is proved here. Contracts of lanes.Lane, Fill, Set, Unpack, for every row of words.
-/
import Derived.Test.YtmhmnjeimjjipaaPack
import Derived.Test.YtmhmnjeimjjipaaRefT
import Derived.Laws.OwnMore
namespace Go.Proofs.Ytmhmnjeimjjipaa
open Go Go.RowKit
set_option linter.unusedVariables false


namespace Ln
theorem bsum_stop (p : Nat → Bool) (m : Nat) (h : ∀ c, m ≤ c → p c = false) (n : Nat) (hn : m ≤ n) : bsum p n = bsum p m := by
  induction n with
  | zero => rw [show m = 0 by omega]
  | succ n ih =>
    by_cases e : m = n + 1
    · rw [e]
    · rw [bsum, h n (by omega), ih (by omega)]; simp
theorem psum_pad (f : Nat → Int) (m l : Nat) (hm : m ≤ 64) : psum (over m f fun _ => 0) m l = trn (over m f fun _ => 0) l := by
  unfold psum trn
  rw [bsum_stop _ m (fun c hc => by simp [over, show ¬ c < m by omega, tb]) 64 hm]
theorem tb_psum (f : Nat → Int) (k l c : Nat) : tb (psum f k l) c = (decide (c < k) && tb (f c) l) := by
  unfold psum
  rw [tb, Int.toNat_natCast, bsum_bit]
theorem tb_one (c : Nat) : tb 1 c = decide (c = 0) := by
  unfold tb
  rw [show (1 : Int).toNat = 2 ^ 0 from rfl, Nat.testBit_two_pow]
  exact decide_eq_decide.2 eq_comm
theorem and_one {y : Int} (h0 : 0 ≤ y) (h1 : y < 18446744073709551616) : bits BinOp.and IntKind.u64 y 1 = b01 y 0 := by
  obtain ⟨a0, a1, ab⟩ := and_bd h0 h1 (show (0 : Int) ≤ 1 by omega) (by omega)
  have hb := b01_bd y 0
  refine eq_of_bits a0 a1 hb.1 (by omega) fun c hc => ?_
  rw [ab c, tb_one]
  unfold b01
  by_cases e : c = 0
  · subst e; cases h : tb y 0 <;> simp [tb_one] <;> rfl
  · simp only [e, decide_false, Bool.and_false]
    split
    · rw [tb_one]; simp [e]
    · simp [tb]
theorem tb_shr {x : Int} (h0 : 0 ≤ x) (hx : x < 18446744073709551616) (l c : Nat) : tb (x / 2 ^ l) c = tb x (c + l) := by
  have h := (shr_bd (s := (l : Int)) h0 hx).2.2 c
  rwa [Int.toNat_natCast] at h
theorem shr_one {x : Int} (h0 : 0 ≤ x) (hx : x < 18446744073709551616) (l : Nat) : bits BinOp.and IntKind.u64 (x / 2 ^ l) 1 = b01 x l := by
  have hd := div_bd h0 hx l
  rw [and_one hd.1 hd.2, b01, b01, tb_shr h0 hx, Nat.zero_add]
theorem b01_shl (b : Bool) (k c : Nat) (hk : k < 64) (hc : c < 64) : tb (IntKind.u64.wrap ((if b then 1 else 0 : Int) * 2 ^ k)) c = (decide (c = k) && b) := by
  obtain ⟨_, _, h⟩ := shl_bd (x := if b then 1 else 0) (s := (k : Int)) (by split <;> omega)
  have h := h c hc
  rw [Int.toNat_natCast] at h
  rw [h]
  cases b
  · simp [tb]
  · rw [if_pos rfl, tb_one]
    by_cases e : c = k
    · subst e; simp
    · by_cases e2 : k ≤ c
      · simp [e, show ¬ c - k = 0 by omega]
      · simp [e, e2]
theorem wrap_bd (x : Int) : 0 ≤ IntKind.u64.wrap x ∧ IntKind.u64.wrap x < 18446744073709551616 := by
  rw [wrap_u64]; omega
theorem lane_step (F : Nat → Int) (k l : Nat) (hk : k < 64) (h0 : 0 ≤ F k) (h1 : F k < 18446744073709551616) :
    bits BinOp.or IntKind.u64 (psum F k l) (IntKind.u64.wrap (bits BinOp.and IntKind.u64 (F k / 2 ^ l) 1 * 2 ^ k)) = psum F (k + 1) l := by
  rw [shr_one h0 h1]
  have p1 := psum_bd F (i := k) (by omega) l
  have p2 := psum_bd F (i := k + 1) (by omega) l
  have p3 := wrap_bd (b01 (F k) l * 2 ^ k)
  obtain ⟨o0, o1, ob⟩ := or_bd p1.1 p1.2 p3.1 p3.2
  refine eq_of_bits o0 o1 p2.1 p2.2 fun c hc => ?_
  rw [ob c, tb_psum, tb_psum, b01, b01_shl _ _ _ hk hc]
  by_cases e : c = k
  · subst e; simp
  · by_cases e2 : c < k
    · simp [e2, show c < k + 1 by omega, e]
    · simp [e2, show ¬ c < k + 1 by omega, e]
/-- All ones, or none. -/
def fillV (x : Int) (i : Nat) : Int := if tb x i then 18446744073709551615 else 0
theorem fill_step {x : Int} (h0 : 0 ≤ x) (h1 : x < 18446744073709551616) (i : Nat) : IntKind.u64.wrap (-bits BinOp.and IntKind.u64 (x / 2 ^ i) 1) = fillV x i := by
  rw [shr_one h0 h1, b01, fillV, wrap_u64]
  split <;> rfl
/-- A number with one bit set anew. -/
def setB (x : Int) (b : Bool) (l : Nat) : Int := ((bsum (fun c => if c = l then b else tb x c) 64 : Nat) : Int)
theorem setB_bd (x : Int) (b : Bool) (l : Nat) : 0 ≤ setB x b l ∧ setB x b l < 18446744073709551616 := by
  have := bsum_lt (fun c => if c = l then b else tb x c) 64
  unfold setB; omega
theorem tb_setB (x : Int) (b : Bool) (l c : Nat) (hc : c < 64) : tb (setB x b l) c = if c = l then b else tb x c := by
  unfold setB
  rw [tb, Int.toNat_natCast, bsum_bit]
  simp [hc]
theorem set_step {x v : Int} (h0 : 0 ≤ x) (h1 : x < 18446744073709551616) (k0 : 0 ≤ v) (k1 : v < 18446744073709551616) (i l : Nat) (hl : l < 64) :
    bits BinOp.or IntKind.u64 (bits BinOp.andNot IntKind.u64 x (IntKind.u64.wrap (1 * 2 ^ l))) (IntKind.u64.wrap (bits BinOp.and IntKind.u64 (v / 2 ^ i) 1 * 2 ^ l)) = setB x (tb v i) l := by
  rw [shr_one k0 k1, b01]
  have w1 := wrap_bd (1 * 2 ^ l)
  have w2 := wrap_bd ((if tb v i then 1 else 0 : Int) * 2 ^ l)
  obtain ⟨n0, n1, nb⟩ := andNot_bd h0 h1 w1.1 w1.2
  obtain ⟨o0, o1, ob⟩ := or_bd n0 n1 w2.1 w2.2
  have s := setB_bd x (tb v i) l
  refine eq_of_bits o0 o1 s.1 s.2 fun c hc => ?_
  have hs := b01_shl true l c hl hc
  rw [if_pos rfl] at hs
  rw [ob c, nb c hc, hs, b01_shl _ _ _ hl hc, tb_setB _ _ _ _ hc]
  by_cases e : c = l
  · subst e; simp
  · simp [e]
end Ln

set_option maxHeartbeats 1000000 in
theorem lane_ok (A : Option Addr) (m c : Nat) (f : Nat → Int) (l : Nat) (w : World) (hN : Nums w A m f) (hb : ∀ k, 0 ≤ f k ∧ f k < 18446744073709551616) (hv : Wd.okLane m l = true) :
    Calls Try.prog 17 #[.slice A m c, .int .i64 l] w (Ret w (.tuple #[.int .u64 (Ln.trn (over m f fun _ => 0) l), .int .i64 0])) := by
  have hm : 1 ≤ (m : Int) ∧ (m : Int) ≤ 64 := by simp only [Wd.okLane, Bool.and_eq_true, decide_eq_true_eq] at hv; exact Wd.may_bd hv.1
  have hl : l < 64 := by simp only [Wd.okLane, Bool.and_eq_true, decide_eq_true_eq] at hv; omega
  have m1 : 1 ≤ m := by omega
  have m2 : m ≤ 64 := by omega
  have HN := Lib.hid hN
  have HB := Lib.hid hb
  have HV := Lib.hid hv
  clear hN hb hv hm
  go_enter Try.func17, Try.ntmps17
  go_wp2_with (first
    | (go_at_call 30; refine (is_lane_is HV.out _ (by omega)).mono ?_; rintro e w1 ⟨rfl, g1, rfl⟩))
  go_loopw [6, 15] (fun x i wr => ∃ (k : Nat), k ≤ m ∧ i = .int .i64 k ∧ x = .int .u64 (Ln.psum (over m f fun _ => 0) k l) ∧ wr = more w g1) (fun _ i _ => m - (intOf i).toNat)
  case atStart => exact ⟨0, Nat.zero_le _, rfl, rfl, rfl⟩
  case round =>
    obtain ⟨k, hk, rfl, rfl, rfl⟩ := hrel
    by_cases hlt : k < m
    · obtain ⟨b1, o1, rfl, hb1, hc1⟩ := HN.out k hlt
      have hbx := HB.out k
      have hps := Ln.psum_bd (over m f fun _ => 0) (i := k) (by omega) l
      have hov : over m f (fun _ => 0) k = f k := by simp [over, hlt]
      have HS := Lib.hid (Ln.lane_step (over m f fun _ => 0) k l (by omega) (by rw [hov]; exact hbx.1) (by rw [hov]; exact hbx.2))
      rw [hov] at HS
      clear hov
      generalize Ln.psum (over m f fun _ => 0) k l = y at *
      generalize f k = x at *
      go_wp2_with fail
      go_roundw
      case rel => exact ⟨k + 1, by omega, by go_num, by rw [HS.out], trivial⟩
      case measure => simp [intOf]; omega
    · obtain rfl : k = m := by omega
      go_wp2_with fail
      go_ret2
      exact Ret.mk' (by rw [← Ln.psum_pad f k l m2]; rfl) ((Later.refl _).more _)
theorem lane_no (A : Option Addr) (m c : Nat) (l : Int) (w : World) (hm : m ≤ 9223372036854775807) (hv : Wd.okLane m l = false) :
    Calls Try.prog 17 #[.slice A m c, .int .i64 l] w (Ret w (.tuple #[.int .u64 0, .int .i64 1])) := by
  have HV := Lib.hid hv
  clear hv
  go_enter Try.func17, Try.ntmps17
  go_wp2_with (first
    | (go_at_call 30; refine (is_lane_is HV.out _ (by omega)).mono ?_; rintro e w1 ⟨rfl, g1, rfl⟩))
  go_ret2
  exact Ret.mk ((Later.refl _).more _)
theorem nums_one (w : World) (x : Int) (t : TypeId) : Nums (w.alloc (.cells #[.int .u64 x] t)) (some ⟨w.heap.size, 0, none⟩) 1 fun _ => x := by
  intro k hk
  obtain rfl : k = 0 := by omega
  exact ⟨_, _, rfl, by simp, by rw [World.cell?_alloc_new]; rfl⟩
theorem made_at (n : Nat) : ∀ k, k < n → (madeCells (Value.int .u64 0).cells (n * 1)).toList[k]? = some (.int .u64 0) := by
  intro k hk
  rw [Nat.mul_one, show (Value.int .u64 0).cells = #[.int .u64 0] from rfl, toList_madeCells_one]
  simp [hk]
set_option maxHeartbeats 1000000 in
theorem fill_ok (n : Nat) (x : Int) (w : World) (h0 : 0 ≤ x) (h1 : x < 18446744073709551616) (hv : Wd.fitsV n 1 (fun _ => x) = true) :
    Calls Try.prog 21 #[.int .i64 n, .int .u64 x] w (RetSE w n (Ln.fillV x) 0) := by
  obtain ⟨n1, n2, _⟩ := fits_may hv
  have HV := Lib.hid hv
  obtain ⟨i0, hi, hz0, hz1, hz2⟩ := info_parts (P := Try.prog) (e := 22) (z := .int .u64 0) (size := 1) (bytes := 8) (by kernel_rfl)
  have HF := Lib.hid (Ln.fill_step h0 h1)
  clear hv
  go_enter Try.func21, Try.ntmps21
  go_wp2_with (first
    | (go_at_call 28; refine (fits_is HV.out (fun _ => ⟨h0, h1⟩) (by omega) _ (nums_one _ _ _)).mono ?_; rintro e w1 ⟨rfl, hL1⟩)
    | (at_make; refine wpList_make_full _ rfl _ _ 29 rfl 0 22 i0 (.int .u64 0) 1 Try.underlying29 hi hz0 hz1 .i64 .i64 _ _ n rfl rfl rfl rfl (by rw [hz2]; omega) (by unfold maxLen; omega) (Nat.zero_le _) ?_; intro w2 hown hgrow))
  obtain ⟨b, c, hbc, _, hO⟩ := Own.of_row (f := fun _ => 0) hown (made_at n) (by simp)
  have hb : w1.heap.size = b := by injection hbc with hb; injection hb with hb; injection hb
  clear hbc
  subst hb
  have hL2 : Later w w2 := ((Later.refl w).alloc _).trans (hL1.trans (Later.of_grown hgrow))
  have hge : w.heap.size ≤ w1.heap.size := by have := hL1.below.size; simp at this; omega
  generalize w1.heap.size = b at *
  have HL := Lib.hid hL2
  clear hown hgrow hL1 hL2
  have HO := Lib.hid hO
  clear hO
  go_loopw [7, 17] (fun _ i wr => ∃ (k : Nat) (h : Nat → Int), k ≤ n ∧ i = .int .i64 k ∧ Hid (∀ c, c < n → h c = if c < k then Ln.fillV x c else 0) ∧ Hid (Own wr b n h) ∧ Hid (Later w wr)) (fun _ i _ => n - (intOf i).toNat)
  case atStart => exact ⟨0, _, Nat.zero_le _, rfl, Lib.hid (fun c hc => by simp), HO, HL⟩
  case round =>
    obtain ⟨k, h, hk, rfl, hP, hO, hL⟩ := hrel
    by_cases hlt : k < n
    · have hcell := (hO.out.2 k hlt).1
      have hfro := (hO.out.2 k hlt).2
      have HS := Lib.hid (HF.out k)
      go_wp2_with fail
      go_roundw
      case rel => 
        refine ⟨k + 1, _, by omega, by go_num, ?_, Lib.hid (hO.out.set hlt _), Lib.hid (hL.out.setCell hge _)⟩
        refine Lib.hid fun c hc => ?_
        by_cases e : c = k
        · subst e; rw [if_pos rfl, if_pos (by omega)]; exact HS.out
        · rw [if_neg e, hP.out c hc]
          by_cases e2 : c < k
          · rw [if_pos e2, if_pos (by omega)]
          · rw [if_neg e2, if_neg (by omega)]
      case measure => simp [intOf]; omega
    · obtain rfl : k = n := by omega
      go_wp2_with fail
      go_ret2
      exact ⟨_, _, rfl, hL.out, .inr ⟨b, rfl, hge, hO.out.congr fun c hc => by rw [hP.out c hc, if_pos hc]⟩⟩
theorem fill_no (n : Int) (x : Int) (w : World) (h0 : 0 ≤ x) (h1 : x < 18446744073709551616) (hv : Wd.fitsV n 1 (fun _ => x) = false) :
    Calls Try.prog 21 #[.int .i64 n, .int .u64 x] w (Ret w (.tuple #[.slice none 0 0, .int .i64 1])) := by
  have HV := Lib.hid hv
  clear hv
  go_enter Try.func21, Try.ntmps21
  go_wp2_with (first
    | (go_at_call 28; refine (fits_is HV.out (fun _ => ⟨h0, h1⟩) (by omega) _ (nums_one _ _ _)).mono ?_; rintro e w1 ⟨rfl, hL1⟩))
  go_ret2
  exact ⟨rfl, ((Later.refl w).alloc _).trans hL1⟩
end Go.Proofs.Ytmhmnjeimjjipaa
