/-
  No statement of the seat is proved here. The contract of word.All, for every op, type and row of words that reads as a list.
-/
import Derived.Test.YtihnemlnnjdagaaTools
namespace Go.Proofs.Ytihnemlnnjdagaa
open Go Go.RowKit
set_option linter.unusedVariables false

namespace Wd
/-- All, from the left: the answer and the error. -/
def allF (b s : Bool) (n op : Int) : Int → List Int → Int × Int
  | acc, [] => (acc, 0)
  | acc, x :: l => bif isw b s n x then allF b s n op (twoV s n op acc x) l else (0, 1)
theorem allF_step {b s : Bool} {n op acc x : Int} {k : Nat} {l : List Int} (hk : k < l.length) (hx : l.getD k 0 = x) :
    allF b s n op acc (l.drop k) = bif isw b s n x then allF b s n op (twoV s n op acc x) (l.drop (k + 1)) else (0, 1) := by
  rw [List.drop_eq_getElem_cons hk, allF]
  have : l[k] = x := by rw [← hx, List.getD_eq_getElem?_getD, List.getElem?_eq_getElem hk]; rfl
  rw [this]
theorem allF_end {b s : Bool} {n op acc : Int} {k : Nat} {l : List Int} (hk : l.length ≤ k) : allF b s n op acc (l.drop k) = (acc, 0) := by
  rw [List.drop_eq_nil_of_le hk]; rfl
end Wd

/-- A row of numbers in memory below the heap's end. -/
def Nums (w : World) (A : Option Addr) (l : List Int) : Prop :=
  ∀ k, k < l.length → ∃ b off, A = some ⟨b, off, none⟩ ∧ b < w.heap.size ∧ w.cell? ⟨b, off + k, none⟩ = some (.int .u64 (l.getD k 0))

theorem two_bad {b s : Bool} {n op x y : Int} (h0 : 0 ≤ x) (hx : Wd.isw b s n x = true) (k0 : 0 ≤ y) (k1 : y < 18446744073709551616) (hy : Wd.isw b s n y = false) (w : World) :
    Calls Try.prog 13 #[.int .i64 op, .agg #[.bool b, .bool s, .int .i64 n], .int .u64 x, .int .u64 y] w (Ret w (.tuple #[.int .u64 0, .int .i64 1])) := by
  have hm := Wd.isw_may hx
  obtain ⟨h1, h2⟩ := Wd.may_bd hm
  have hp2 := Wd.pw_le h2
  have hx' := Wd.isw_lt hx
  have hx64 : x < 18446744073709551616 := by omega
  go_enter Try.func13, Try.ntmps13
  go_wp2_with (go_at_call 17; refine (is_is (by assumption) (by assumption) (by assumption) _).mono ?_; rintro e w' ⟨rfl, g, rfl⟩)
  go_ret2
  exact Ret.mk (((Later.refl _).alloc _).more _)
theorem two_word {b s : Bool} {n op x y : Int} (h0 : 0 ≤ x) (hx : Wd.isw b s n x = true) (k0 : 0 ≤ y) (hy : Wd.isw b s n y = true) (h : op = 1 ∨ op = 2 ∨ op = 3 ∨ op = 4 ∨ op = 6) : 0 ≤ Wd.twoV s n op x y ∧ Wd.isw b s n (Wd.twoV s n op x y) = true := by
  have hm := Wd.isw_may hx
  obtain ⟨h1, h2⟩ := Wd.may_bd hm
  have hx' := Wd.isw_lt hx
  have hy' := Wd.isw_lt hy
  have hn := Wd.pw_nat n
  obtain ⟨X, rfl⟩ := Int.eq_ofNat_of_zero_le h0
  obtain ⟨Y, rfl⟩ := Int.eq_ofNat_of_zero_le k0
  have hX : X < 2 ^ n.toNat := by omega
  have hY : Y < 2 ^ n.toNat := by omega
  have key : ∀ z, 0 ≤ z ∧ z < Wd.pw n → 0 ≤ z ∧ Wd.isw b s n z = true := fun z hz => ⟨hz.1, by simp [Wd.isw, hm, hz.2]⟩
  rcases h with rfl | rfl | rfl | rfl | rfl <;> apply key
  · have : X &&& Y < 2 ^ n.toNat := Nat.and_lt_two_pow X hY
    simp only [Wd.twoV, Wd.andI, Int.toNat_natCast, show ((1 : Int) == 1) = true by rfl, cond_true]
    omega
  · have : X ||| Y < 2 ^ n.toNat := Nat.or_lt_two_pow hX hY
    simp only [Wd.twoV, Wd.orI, Int.toNat_natCast, show ((2 : Int) == 1) = false by rfl, show ((2 : Int) == 2) = true by rfl, cond_true, cond_false]
    omega
  · have : X ^^^ Y < 2 ^ n.toNat := Nat.xor_lt_two_pow hX hY
    simp only [Wd.twoV, Wd.xorI, Int.toNat_natCast, show ((3 : Int) == 1) = false by rfl, show ((3 : Int) == 2) = false by rfl, show ((3 : Int) == 3) = true by rfl, cond_true, cond_false]
    omega
  · exact Wd.cut_bd _
  · exact Wd.cut_bd _

set_option maxHeartbeats 2000000 in
theorem all_1 (b s : Bool) (n : Int) (hm : Wd.may b s n = true) (A : Option Addr) (l : List Int) (cap : Nat) (w : World) (hl : l.length ≤ 9223372036854775807) (hn : Nums w A l) (hb : ∀ k, 0 ≤ l.getD k 0 ∧ l.getD k 0 < 18446744073709551616) :
    Calls Try.prog 19 #[.int .i64 1, .agg #[.bool b, .bool s, .int .i64 n], .slice A l.length cap] w (Ret w (.tuple #[.int .u64 (Wd.allF b s n 1 (Wd.cut n (-1)) l).1, .int .i64 (Wd.allF b s n 1 (Wd.cut n (-1)) l).2])) := by
  obtain ⟨h1, h2⟩ := Wd.may_bd hm
  have h00 : Wd.isw b s n (Wd.cut n (-1)) = true := by simp [Wd.isw, hm, (Wd.cut_bd (n := n) (-1)).2]
  have hi0 : 0 ≤ (Wd.cut n (-1)) := (Wd.cut_bd (n := n) (-1)).1
  have e0 : Wd.cut n (bits BinOp.xor IntKind.u64 IntKind.u64.max 0) = (Wd.cut n (-1)) := by rw [Wd.not_wrap (by omega) (by omega), Wd.cut_wrap h1 h2]; rfl
  have nb := Wd.not_bd (x := 0) (by omega) (by omega)
  have hsg : IntKind.u64.signed = false := rfl
  have HB := Lib.hid hb
  have HF : Hid (Wd.allF b s n 1 (Wd.cut n (-1)) (l.drop 0) = Wd.allF b s n 1 (Wd.cut n (-1)) l) := Lib.hid rfl
  clear hb
  generalize hV : Wd.allF b s n 1 (Wd.cut n (-1)) l = V at *
  clear hV
  go_enter Try.func19, Try.ntmps19
  go_wp2_with (first | (go_at_call 10; refine (cut_is hm nb.1 nb.2 e0 _).mono ?_; rintro e w' ⟨rfl, g, rfl⟩) | (go_at_call 13; refine (two_ok _ _ _ _ _ _ hi0 h00 hi0 h00 rfl _).mono ?_; rintro e w' ⟨rfl, g, rfl⟩))
  go_loopw [8, 41] (fun a i wr => ∃ (k : Nat) (acc : Int) (g : Grow), k ≤ l.length ∧ i = .int .i64 k ∧ a = .int .u64 acc ∧ 0 ≤ acc ∧ Wd.isw b s n acc = true ∧ Hid (Wd.allF b s n 1 acc (l.drop k) = V) ∧ wr = more (w.alloc (.cells #[.bool b, .bool s, .int .i64 n] 23)) g) (fun _ i _ => l.length - (intOf i).toNat)
  case atStart => exact ⟨0, _, _, Nat.zero_le _, rfl, rfl, hi0, h00, HF, rfl⟩
  case round =>
    obtain ⟨k, acc, g, hk, rfl, rfl, ha0, haw, hF, rfl⟩ := hrel
    by_cases hlt : k < l.length
    · obtain ⟨bl, off, rfl, hbl, hcell⟩ := hn k hlt
      have hbx := HB.out k
      have HS := Lib.hid (Wd.allF_step (b := b) (s := s) (n := n) (op := 1) (acc := acc) hlt rfl)
      generalize l.getD k 0 = x at *
      have hbl1 : bl < w.heap.size + 1 := by omega
      cases hw : Wd.isw b s n x
      · go_wp2_with (go_at_call 13; refine (two_bad ha0 haw hbx.1 hbx.2 hw _).mono ?_; rintro e w' ⟨rfl, g, rfl⟩)
        go_ret2
        exact Ret.mk' (by have h := HS.out; rw [hw] at h; rw [← hF.out, h]; rfl) (((Later.refl _).alloc _).more _)
      · have ht := two_word ha0 haw hbx.1 hw (op := 1) (by omega)
        go_wp2_with (go_at_call 13; refine (two_ok _ _ _ _ _ _ ha0 haw hbx.1 hw rfl _).mono ?_; rintro e w' ⟨rfl, g, rfl⟩)
        go_roundw
        case rel => exact ⟨k + 1, _, _, by omega, by go_num, rfl, ht.1, ht.2, Lib.hid (by have h := HS.out; rw [hw] at h; rw [← hF.out, h]; rfl), rfl⟩
        case measure => simp [intOf]; omega
    · have HE := Lib.hid (Wd.allF_end (b := b) (s := s) (n := n) (op := 1) (acc := acc) (l := l) (k := k) (by omega))
      go_wp2_with fail
      go_ret2
      exact Ret.mk' (by rw [← hF.out, HE.out]; rfl) (((Later.refl _).alloc _).more _)
set_option maxHeartbeats 2000000 in
theorem all_2 (b s : Bool) (n : Int) (hm : Wd.may b s n = true) (A : Option Addr) (l : List Int) (cap : Nat) (w : World) (hl : l.length ≤ 9223372036854775807) (hn : Nums w A l) (hb : ∀ k, 0 ≤ l.getD k 0 ∧ l.getD k 0 < 18446744073709551616) :
    Calls Try.prog 19 #[.int .i64 2, .agg #[.bool b, .bool s, .int .i64 n], .slice A l.length cap] w (Ret w (.tuple #[.int .u64 (Wd.allF b s n 2 0 l).1, .int .i64 (Wd.allF b s n 2 0 l).2])) := by
  obtain ⟨h1, h2⟩ := Wd.may_bd hm
  have h00 : Wd.isw b s n 0 = true := by have hp := Wd.pw_pos n; simp [Wd.isw, hm]; omega
  have hi0 : (0 : Int) ≤ 0 := by omega
  have HB := Lib.hid hb
  have HF : Hid (Wd.allF b s n 2 0 (l.drop 0) = Wd.allF b s n 2 0 l) := Lib.hid rfl
  clear hb
  generalize hV : Wd.allF b s n 2 0 l = V at *
  clear hV
  go_enter Try.func19, Try.ntmps19
  go_wp2_with (first | (go_at_call 13; refine (two_ok _ _ _ _ _ _ hi0 h00 hi0 h00 rfl _).mono ?_; rintro e w' ⟨rfl, g, rfl⟩))
  go_loopw [8, 41] (fun a i wr => ∃ (k : Nat) (acc : Int) (g : Grow), k ≤ l.length ∧ i = .int .i64 k ∧ a = .int .u64 acc ∧ 0 ≤ acc ∧ Wd.isw b s n acc = true ∧ Hid (Wd.allF b s n 2 acc (l.drop k) = V) ∧ wr = more (w.alloc (.cells #[.bool b, .bool s, .int .i64 n] 23)) g) (fun _ i _ => l.length - (intOf i).toNat)
  case atStart => exact ⟨0, _, _, Nat.zero_le _, rfl, rfl, hi0, h00, HF, rfl⟩
  case round =>
    obtain ⟨k, acc, g, hk, rfl, rfl, ha0, haw, hF, rfl⟩ := hrel
    by_cases hlt : k < l.length
    · obtain ⟨bl, off, rfl, hbl, hcell⟩ := hn k hlt
      have hbx := HB.out k
      have HS := Lib.hid (Wd.allF_step (b := b) (s := s) (n := n) (op := 2) (acc := acc) hlt rfl)
      generalize l.getD k 0 = x at *
      have hbl1 : bl < w.heap.size + 1 := by omega
      cases hw : Wd.isw b s n x
      · go_wp2_with (go_at_call 13; refine (two_bad ha0 haw hbx.1 hbx.2 hw _).mono ?_; rintro e w' ⟨rfl, g, rfl⟩)
        go_ret2
        exact Ret.mk' (by have h := HS.out; rw [hw] at h; rw [← hF.out, h]; rfl) (((Later.refl _).alloc _).more _)
      · have ht := two_word ha0 haw hbx.1 hw (op := 2) (by omega)
        go_wp2_with (go_at_call 13; refine (two_ok _ _ _ _ _ _ ha0 haw hbx.1 hw rfl _).mono ?_; rintro e w' ⟨rfl, g, rfl⟩)
        go_roundw
        case rel => exact ⟨k + 1, _, _, by omega, by go_num, rfl, ht.1, ht.2, Lib.hid (by have h := HS.out; rw [hw] at h; rw [← hF.out, h]; rfl), rfl⟩
        case measure => simp [intOf]; omega
    · have HE := Lib.hid (Wd.allF_end (b := b) (s := s) (n := n) (op := 2) (acc := acc) (l := l) (k := k) (by omega))
      go_wp2_with fail
      go_ret2
      exact Ret.mk' (by rw [← hF.out, HE.out]; rfl) (((Later.refl _).alloc _).more _)
set_option maxHeartbeats 2000000 in
theorem all_3 (b s : Bool) (n : Int) (hm : Wd.may b s n = true) (A : Option Addr) (l : List Int) (cap : Nat) (w : World) (hl : l.length ≤ 9223372036854775807) (hn : Nums w A l) (hb : ∀ k, 0 ≤ l.getD k 0 ∧ l.getD k 0 < 18446744073709551616) :
    Calls Try.prog 19 #[.int .i64 3, .agg #[.bool b, .bool s, .int .i64 n], .slice A l.length cap] w (Ret w (.tuple #[.int .u64 (Wd.allF b s n 3 0 l).1, .int .i64 (Wd.allF b s n 3 0 l).2])) := by
  obtain ⟨h1, h2⟩ := Wd.may_bd hm
  have h00 : Wd.isw b s n 0 = true := by have hp := Wd.pw_pos n; simp [Wd.isw, hm]; omega
  have hi0 : (0 : Int) ≤ 0 := by omega
  have HB := Lib.hid hb
  have HF : Hid (Wd.allF b s n 3 0 (l.drop 0) = Wd.allF b s n 3 0 l) := Lib.hid rfl
  clear hb
  generalize hV : Wd.allF b s n 3 0 l = V at *
  clear hV
  go_enter Try.func19, Try.ntmps19
  go_wp2_with (first | (go_at_call 13; refine (two_ok _ _ _ _ _ _ hi0 h00 hi0 h00 rfl _).mono ?_; rintro e w' ⟨rfl, g, rfl⟩))
  go_loopw [8, 41] (fun a i wr => ∃ (k : Nat) (acc : Int) (g : Grow), k ≤ l.length ∧ i = .int .i64 k ∧ a = .int .u64 acc ∧ 0 ≤ acc ∧ Wd.isw b s n acc = true ∧ Hid (Wd.allF b s n 3 acc (l.drop k) = V) ∧ wr = more (w.alloc (.cells #[.bool b, .bool s, .int .i64 n] 23)) g) (fun _ i _ => l.length - (intOf i).toNat)
  case atStart => exact ⟨0, _, _, Nat.zero_le _, rfl, rfl, hi0, h00, HF, rfl⟩
  case round =>
    obtain ⟨k, acc, g, hk, rfl, rfl, ha0, haw, hF, rfl⟩ := hrel
    by_cases hlt : k < l.length
    · obtain ⟨bl, off, rfl, hbl, hcell⟩ := hn k hlt
      have hbx := HB.out k
      have HS := Lib.hid (Wd.allF_step (b := b) (s := s) (n := n) (op := 3) (acc := acc) hlt rfl)
      generalize l.getD k 0 = x at *
      have hbl1 : bl < w.heap.size + 1 := by omega
      cases hw : Wd.isw b s n x
      · go_wp2_with (go_at_call 13; refine (two_bad ha0 haw hbx.1 hbx.2 hw _).mono ?_; rintro e w' ⟨rfl, g, rfl⟩)
        go_ret2
        exact Ret.mk' (by have h := HS.out; rw [hw] at h; rw [← hF.out, h]; rfl) (((Later.refl _).alloc _).more _)
      · have ht := two_word ha0 haw hbx.1 hw (op := 3) (by omega)
        go_wp2_with (go_at_call 13; refine (two_ok _ _ _ _ _ _ ha0 haw hbx.1 hw rfl _).mono ?_; rintro e w' ⟨rfl, g, rfl⟩)
        go_roundw
        case rel => exact ⟨k + 1, _, _, by omega, by go_num, rfl, ht.1, ht.2, Lib.hid (by have h := HS.out; rw [hw] at h; rw [← hF.out, h]; rfl), rfl⟩
        case measure => simp [intOf]; omega
    · have HE := Lib.hid (Wd.allF_end (b := b) (s := s) (n := n) (op := 3) (acc := acc) (l := l) (k := k) (by omega))
      go_wp2_with fail
      go_ret2
      exact Ret.mk' (by rw [← hF.out, HE.out]; rfl) (((Later.refl _).alloc _).more _)
set_option maxHeartbeats 2000000 in
theorem all_4 (s : Bool) (n : Int) (hm : Wd.may false s n = true) (A : Option Addr) (l : List Int) (cap : Nat) (w : World) (hl : l.length ≤ 9223372036854775807) (hn : Nums w A l) (hb : ∀ k, 0 ≤ l.getD k 0 ∧ l.getD k 0 < 18446744073709551616) :
    Calls Try.prog 19 #[.int .i64 4, .agg #[.bool false, .bool s, .int .i64 n], .slice A l.length cap] w (Ret w (.tuple #[.int .u64 (Wd.allF false s n 4 0 l).1, .int .i64 (Wd.allF false s n 4 0 l).2])) := by
  obtain ⟨h1, h2⟩ := Wd.may_bd hm
  have h00 : Wd.isw false s n 0 = true := by have hp := Wd.pw_pos n; simp [Wd.isw, hm]; omega
  have hi0 : (0 : Int) ≤ 0 := by omega
  have HB := Lib.hid hb
  have HF : Hid (Wd.allF false s n 4 0 (l.drop 0) = Wd.allF false s n 4 0 l) := Lib.hid rfl
  clear hb
  generalize hV : Wd.allF false s n 4 0 l = V at *
  clear hV
  go_enter Try.func19, Try.ntmps19
  go_wp2_with (first | (go_at_call 13; refine (two_ok _ _ _ _ _ _ hi0 h00 hi0 h00 rfl _).mono ?_; rintro e w' ⟨rfl, g, rfl⟩))
  go_loopw [8, 41] (fun a i wr => ∃ (k : Nat) (acc : Int) (g : Grow), k ≤ l.length ∧ i = .int .i64 k ∧ a = .int .u64 acc ∧ 0 ≤ acc ∧ Wd.isw false s n acc = true ∧ Hid (Wd.allF false s n 4 acc (l.drop k) = V) ∧ wr = more (w.alloc (.cells #[.bool false, .bool s, .int .i64 n] 23)) g) (fun _ i _ => l.length - (intOf i).toNat)
  case atStart => exact ⟨0, _, _, Nat.zero_le _, rfl, rfl, hi0, h00, HF, rfl⟩
  case round =>
    obtain ⟨k, acc, g, hk, rfl, rfl, ha0, haw, hF, rfl⟩ := hrel
    by_cases hlt : k < l.length
    · obtain ⟨bl, off, rfl, hbl, hcell⟩ := hn k hlt
      have hbx := HB.out k
      have HS := Lib.hid (Wd.allF_step (b := false) (s := s) (n := n) (op := 4) (acc := acc) hlt rfl)
      generalize l.getD k 0 = x at *
      have hbl1 : bl < w.heap.size + 1 := by omega
      cases hw : Wd.isw false s n x
      · go_wp2_with (go_at_call 13; refine (two_bad ha0 haw hbx.1 hbx.2 hw _).mono ?_; rintro e w' ⟨rfl, g, rfl⟩)
        go_ret2
        exact Ret.mk' (by have h := HS.out; rw [hw] at h; rw [← hF.out, h]; rfl) (((Later.refl _).alloc _).more _)
      · have ht := two_word ha0 haw hbx.1 hw (op := 4) (by omega)
        go_wp2_with (go_at_call 13; refine (two_ok _ _ _ _ _ _ ha0 haw hbx.1 hw rfl _).mono ?_; rintro e w' ⟨rfl, g, rfl⟩)
        go_roundw
        case rel => exact ⟨k + 1, _, _, by omega, by go_num, rfl, ht.1, ht.2, Lib.hid (by have h := HS.out; rw [hw] at h; rw [← hF.out, h]; rfl), rfl⟩
        case measure => simp [intOf]; omega
    · have HE := Lib.hid (Wd.allF_end (b := false) (s := s) (n := n) (op := 4) (acc := acc) (l := l) (k := k) (by omega))
      go_wp2_with fail
      go_ret2
      exact Ret.mk' (by rw [← hF.out, HE.out]; rfl) (((Later.refl _).alloc _).more _)
set_option maxHeartbeats 2000000 in
theorem all_6 (s : Bool) (n : Int) (hm : Wd.may false s n = true) (A : Option Addr) (l : List Int) (cap : Nat) (w : World) (hl : l.length ≤ 9223372036854775807) (hn : Nums w A l) (hb : ∀ k, 0 ≤ l.getD k 0 ∧ l.getD k 0 < 18446744073709551616) :
    Calls Try.prog 19 #[.int .i64 6, .agg #[.bool false, .bool s, .int .i64 n], .slice A l.length cap] w (Ret w (.tuple #[.int .u64 (Wd.allF false s n 6 1 l).1, .int .i64 (Wd.allF false s n 6 1 l).2])) := by
  obtain ⟨h1, h2⟩ := Wd.may_bd hm
  have h00 : Wd.isw false s n 1 = true := by have hp := Wd.pw_half h1; have hq := Wd.pw_pos (n - 1); simp [Wd.isw, hm]; omega
  have hi0 : (0 : Int) ≤ 1 := by omega
  have HB := Lib.hid hb
  have HF : Hid (Wd.allF false s n 6 1 (l.drop 0) = Wd.allF false s n 6 1 l) := Lib.hid rfl
  clear hb
  generalize hV : Wd.allF false s n 6 1 l = V at *
  clear hV
  go_enter Try.func19, Try.ntmps19
  go_wp2_with (first | (go_at_call 13; refine (two_ok _ _ _ _ _ _ hi0 h00 hi0 h00 rfl _).mono ?_; rintro e w' ⟨rfl, g, rfl⟩))
  go_loopw [8, 41] (fun a i wr => ∃ (k : Nat) (acc : Int) (g : Grow), k ≤ l.length ∧ i = .int .i64 k ∧ a = .int .u64 acc ∧ 0 ≤ acc ∧ Wd.isw false s n acc = true ∧ Hid (Wd.allF false s n 6 acc (l.drop k) = V) ∧ wr = more (w.alloc (.cells #[.bool false, .bool s, .int .i64 n] 23)) g) (fun _ i _ => l.length - (intOf i).toNat)
  case atStart => exact ⟨0, _, _, Nat.zero_le _, rfl, rfl, hi0, h00, HF, rfl⟩
  case round =>
    obtain ⟨k, acc, g, hk, rfl, rfl, ha0, haw, hF, rfl⟩ := hrel
    by_cases hlt : k < l.length
    · obtain ⟨bl, off, rfl, hbl, hcell⟩ := hn k hlt
      have hbx := HB.out k
      have HS := Lib.hid (Wd.allF_step (b := false) (s := s) (n := n) (op := 6) (acc := acc) hlt rfl)
      generalize l.getD k 0 = x at *
      have hbl1 : bl < w.heap.size + 1 := by omega
      cases hw : Wd.isw false s n x
      · go_wp2_with (go_at_call 13; refine (two_bad ha0 haw hbx.1 hbx.2 hw _).mono ?_; rintro e w' ⟨rfl, g, rfl⟩)
        go_ret2
        exact Ret.mk' (by have h := HS.out; rw [hw] at h; rw [← hF.out, h]; rfl) (((Later.refl _).alloc _).more _)
      · have ht := two_word ha0 haw hbx.1 hw (op := 6) (by omega)
        go_wp2_with (go_at_call 13; refine (two_ok _ _ _ _ _ _ ha0 haw hbx.1 hw rfl _).mono ?_; rintro e w' ⟨rfl, g, rfl⟩)
        go_roundw
        case rel => exact ⟨k + 1, _, _, by omega, by go_num, rfl, ht.1, ht.2, Lib.hid (by have h := HS.out; rw [hw] at h; rw [← hF.out, h]; rfl), rfl⟩
        case measure => simp [intOf]; omega
    · have HE := Lib.hid (Wd.allF_end (b := false) (s := s) (n := n) (op := 6) (acc := acc) (l := l) (k := k) (by omega))
      go_wp2_with fail
      go_ret2
      exact Ret.mk' (by rw [← hF.out, HE.out]; rfl) (((Later.refl _).alloc _).more _)
end Go.Proofs.Ytihnemlnnjdagaa
