/-
  No statement of the seat is proved here. Rows of bits in memory, and the document's Bits, Number, turned and add over them, for every number and width.
-/
import Derived.Test.YtihnemlnnjdagaaTools
import Derived.Maps.AppendAt
import Derived.Laws.OwnMore
import Derived.Deep.CutBlock
namespace Go.Proofs.Ytihnemlnnjdagaa
open Go Go.RowKit
set_option linter.unusedVariables false

namespace Bt
/-- A bit. -/
def bt (X k : Nat) : Nat := X / 2 ^ k % 2
theorem bt_le (X k : Nat) : bt X k ≤ 1 := by unfold bt; omega
theorem bt_next (X k : Nat) : X / 2 ^ k / 2 = X / 2 ^ (k + 1) := by rw [Nat.div_div_eq_div_mul, Nat.pow_succ]
theorem hi_next (X k : Nat) : 2 * (X / 2 ^ (k + 1)) + bt X k = X / 2 ^ k := by rw [← bt_next, bt]; omega
theorem mod_next (X k : Nat) : X % 2 ^ (k + 1) = X % 2 ^ k + bt X k * 2 ^ k := by
  rw [Nat.pow_succ, Nat.mod_mul, bt, Nat.mul_comm]
/-- The carry. -/
def cy (X Y c k : Nat) : Nat := (X % 2 ^ k + Y % 2 ^ k + c) / 2 ^ k
theorem cy_zero (X Y c : Nat) : cy X Y c 0 = c := by simp [cy, Nat.mod_one]
theorem cy_le {X Y c k : Nat} (hc : c ≤ 1) : cy X Y c k ≤ 1 := by
  have h1 := Nat.mod_lt X (Nat.two_pow_pos k)
  have h2 := Nat.mod_lt Y (Nat.two_pow_pos k)
  unfold cy
  rw [← Nat.lt_succ_iff, Nat.div_lt_iff_lt_mul (Nat.two_pow_pos k)]
  omega
theorem cy_next (X Y c k : Nat) : (bt X k + bt Y k + cy X Y c k) / 2 = cy X Y c (k + 1) := by
  have hp := Nat.two_pow_pos k
  have e : X % 2 ^ (k + 1) + Y % 2 ^ (k + 1) + c = (X % 2 ^ k + Y % 2 ^ k + c) + (bt X k + bt Y k) * 2 ^ k := by
    rw [mod_next, mod_next, Nat.add_mul]; omega
  rw [cy, cy, e, Nat.pow_succ, ← Nat.div_div_eq_div_mul, Nat.add_mul_div_right _ _ hp]
  congr 1
  omega
theorem cy_bit (X Y c k : Nat) : (bt X k + bt Y k + cy X Y c k) % 2 = bt (X + Y + c) k := by
  have hp := Nat.two_pow_pos k
  have hx := Nat.div_add_mod X (2 ^ k)
  have hy := Nat.div_add_mod Y (2 ^ k)
  have e : X + Y + c = (X % 2 ^ k + Y % 2 ^ k + c) + (X / 2 ^ k + Y / 2 ^ k) * 2 ^ k := by
    rw [Nat.add_mul, Nat.mul_comm (X / 2 ^ k), Nat.mul_comm (Y / 2 ^ k)]; omega
  have h : (X + Y + c) / 2 ^ k = cy X Y c k + (X / 2 ^ k + Y / 2 ^ k) := by
    rw [e, Nat.add_mul_div_right _ _ hp, ← cy]
  unfold bt
  rw [h]
  omega
theorem bt_mod {X n k : Nat} (h : k < n) : bt (X % 2 ^ n) k = bt X k := by
  unfold bt
  have h1 : (X % 2 ^ n).testBit k = X.testBit k := by rw [Nat.testBit_mod_two_pow]; simp [h]
  simp only [Nat.testBit_eq_decide_div_mod_eq, decide_eq_decide] at h1
  omega
theorem bt_turn {X n k : Nat} (hX : X < 2 ^ n) (h : k < n) : bt (2 ^ n - 1 - X) k = 1 - bt X k := by
  have h1 := Nat.testBit_two_pow_sub_succ hX k
  rw [show 2 ^ n - (X + 1) = 2 ^ n - 1 - X by omega] at h1
  simp only [Nat.testBit_eq_decide_div_mod_eq, h, decide_true, Bool.true_and] at h1
  unfold bt
  by_cases e : X / 2 ^ k % 2 = 1
  · simp [e] at h1; omega
  · simp [e] at h1; omega
end Bt
open Bt
theorem info3 : (Try.prog.info? 3).map (fun i => (i.zero, i.size, i.bytes)) = some (some (.int .i64 0), 1, 8) := by kernel_rfl

/-- A row of a number's bits, that is read. -/
def Row (w : World) (A : Option Addr) (n X : Nat) : Prop := ∀ k, k < n → ∃ b off, A = some ⟨b, off, none⟩ ∧ b < w.heap.size ∧ w.cell? ⟨b, off + k, none⟩ = some (.int .i64 (bt X k : Nat))
theorem Row.later {w w' : World} {A : Option Addr} {n X : Nat} (h : Row w A n X) (hl : Later w w') : Row w' A n X := by
  obtain ⟨g, rfl⟩ := hl
  intro k hk
  obtain ⟨b, off, hA, hb, hc⟩ := h k hk
  exact ⟨b, off, hA, by rw [more_size]; omega, by rw [more_cell _ _ _ _ hb]; exact hc⟩
/-- A row of numbers at the head of a block, that may be written. -/
def IOwn (w : World) (b n : Nat) (f : Nat → Int) : Prop :=
  b < w.heap.size ∧ ∀ k, k < n → w.cell? ⟨b, k, none⟩ = some (.int .i64 (f k)) ∧ w.frozen? ⟨b, k, none⟩ = false
theorem IOwn.later {w w' : World} {b n : Nat} {f : Nat → Int} (h : IOwn w b n f) (hl : Later w w') : IOwn w' b n f := by
  obtain ⟨g, rfl⟩ := hl
  exact ⟨by rw [more_size]; have := h.1; omega, fun k hk => ⟨by rw [more_cell _ _ _ _ h.1]; exact (h.2 k hk).1, by rw [more_frozen _ _ _ _ h.1]; exact (h.2 k hk).2⟩⟩
theorem IOwn.set {w : World} {b n : Nat} {f : Nat → Int} (h : IOwn w b n f) {i : Nat} (hi : i < n) (x : Int) : IOwn (w.setCell ⟨b, i, none⟩ (.int .i64 x)) b n (fun k => if k = i then x else f k) := by
  refine ⟨by rw [World.size_setCell]; exact h.1, fun k hk => ⟨?_, by rw [World.frozen?_setCell]; exact (h.2 k hk).2⟩⟩
  by_cases e : k = i
  · subst e
    rw [World.cell?_setCell_same _ _ _ (h.2 k hk).1]
    simp
  · rw [World.cell?_setCell_other _ _ _ _ (fun he => e (by injection he with h1 h2; exact h2.symm)), (h.2 k hk).1]
    simp [e]
theorem IOwn.congr {w : World} {b n : Nat} {f h : Nat → Int} (H : IOwn w b n f) (e : ∀ k, k < n → f k = h k) : IOwn w b n h :=
  ⟨H.1, fun k hk => by rw [← e k hk]; exact H.2 k hk⟩
theorem IOwn.row {w : World} {b n X : Nat} (h : IOwn w b n fun k => (bt X k : Nat)) : Row w (some ⟨b, 0, none⟩) n X := fun k hk => ⟨b, 0, rfl, h.1, by rw [Nat.zero_add]; exact (h.2 k hk).1⟩
theorem IOwn.of_row {w : World} {base n : Nat} {e : TypeId} {v : Value} {f : Nat → Int} {xs : List Value} (h : w.ownsRow base e 1 v n xs) (hx : ∀ k, k < n → xs[k]? = some (.int .i64 (f k))) (hv : v ≠ .slice none 0 0) :
    ∃ b c, v = .slice (some ⟨b, 0, none⟩) n c ∧ base ≤ b ∧ IOwn w b n f := by
  obtain ⟨hl, h | ⟨g, cap, cur, rfl, hb, hg, hn, hm, hs, ht⟩⟩ := h
  · exact absurd h.1 hv
  · refine ⟨g, cap, rfl, hb, (Array.getElem?_eq_some_iff.1 hg).1, fun k hk => ⟨?_, ?_⟩⟩
    · have h1 := hx k hk
      rw [← ht, List.getElem?_take] at h1
      rw [if_pos (by omega)] at h1
      unfold World.cell?
      simp only [hg]
      simpa using h1
    · unfold World.frozen?
      simp only [hg]
      simp
theorem Later.of_grown {w w' : World} (h : w.grownBy w' none) : Later w w' := Later.of_below ⟨h.os, h.tape, h.output, h.size, fun k hk => h.block k hk (by simp)⟩
theorem ownBlock_ge {w : World} {base : Nat} {e : TypeId} {size : Nat} {v : Value} {n : Nat} {xs : List Value} (h : w.ownsRow base e size v n xs) : ∀ k, v.ownBlock = some k → base ≤ k := by
  intro k hk
  rcases h.2 with ⟨rfl, _⟩ | ⟨g, cap, cur, rfl, hg, _⟩
  · cases hk
  · injection hk with hk; rw [← hk]; exact hg
theorem ne_nil_of {w : World} {base : Nat} {e : TypeId} {v : Value} {n : Nat} {xs : List Value} (h : w.ownsRow base e 1 v n xs) (hn : 1 ≤ n) : v ≠ .slice none 0 0 := by
  intro he
  rcases h.2 with ⟨_, h⟩ | ⟨_, _, _, h, _⟩
  · omega
  · rw [he] at h; cases h
theorem made_at (n : Nat) : ∀ k, k < n → (madeCells (Value.int .i64 0).cells (n * 1)).toList[k]? = some (.int .i64 0) := by
  intro k hk
  rw [Nat.mul_one, show (Value.int .i64 0).cells = #[.int .i64 0] from rfl, toList_madeCells_one]
  simp [hk]
theorem owns_later {w w' : World} {base : Nat} {e : TypeId} {size : Nat} {v : Value} {n : Nat} {xs : List Value} (h : w.ownsRow base e size v n xs) (hl : Later w w') : w'.ownsRow base e size v n xs := by
  obtain ⟨g, rfl⟩ := hl
  refine ⟨h.1, ?_⟩
  rcases h.2 with h2 | ⟨b, cap, cur, hv, hb, hg, h3⟩
  · exact .inl h2
  · exact .inr ⟨b, cap, cur, hv, hb, by rw [more_heap_lt _ _ _ (Array.getElem?_eq_some_iff.1 hg).1]; exact hg, h3⟩
/-- What a call leaves that makes a row of a number's bits. -/
def RetB (w : World) (n X : Nat) (e : Ending) (w' : World) : Prop := ∃ b c, e = .returned (.slice (some ⟨b, 0, none⟩) n c) ∧ Later w w' ∧ w.heap.size ≤ b ∧ IOwn w' b n fun k => (bt X k : Nat)

set_option maxHeartbeats 1000000 in
theorem rbits_any (X n : Nat) (n1 : 1 ≤ n) (n2 : n ≤ 64) (hX : X < 18446744073709551616) (w : World) : Calls Try.prog 32 #[.int .u64 X, .int .i64 n] w (RetB w n X) := by
  obtain ⟨i0, hi, hz0, hz1, hz2⟩ := info_parts (P := Try.prog) (e := 3) (z := .int .i64 0) (size := 1) (bytes := 8) info3
  have HX := Lib.hid hX
  go_enter Try.func32, Try.ntmps32
  go_wp2_with (first
    | (at_make; refine wpList_make_full _ rfl _ _ 57 rfl 0 3 i0 (.int .i64 0) 1 Try.underlying57 hi hz0 hz1 .i64 .i64 _ _ n rfl rfl rfl rfl (by rw [hz2]; omega) (by unfold maxLen; omega) (Nat.zero_le _) ?_; intro w2 hown hgrow))
  obtain ⟨b, c', hbc, _, hO⟩ := IOwn.of_row (f := fun _ => 0) hown (made_at n) (by simp)
  have hb : w.heap.size = b := by injection hbc with hb; injection hb with hb; injection hb
  clear hbc
  subst hb
  have HL := Lib.hid (Later.of_grown hgrow)
  obtain ⟨b, hb⟩ : ∃ b, w.heap.size = b := ⟨_, rfl⟩
  have hge : w.heap.size ≤ b := by omega
  rw [hb] at hO ⊢
  clear hown hgrow hb
  have HO := Lib.hid hO
  clear hO hz0 hz1 hz2 hi
  go_loopw [0, 6] (fun x i wr => ∃ (k : Nat) (h : Nat → Int), k ≤ n ∧ i = .int .i64 k ∧ x = .int .u64 ((X / 2 ^ k : Nat) : Int) ∧ Hid (∀ c, c < n → h c = if c < k then (bt X c : Nat) else 0) ∧ Hid (IOwn wr b n h) ∧ Hid (Later w wr)) (fun _ i _ => n - (intOf i).toNat)
  case atStart => exact ⟨0, _, Nat.zero_le _, rfl, by simp, Lib.hid (fun c hc => by simp), HO, HL⟩
  case round =>
    obtain ⟨k, h, hk, rfl, rfl, hP, hO, hL⟩ := hrel
    by_cases hlt : k < n
    · have x5 := (hO.out.2 k hlt).1
      have f5 := (hO.out.2 k hlt).2
      have l5 := hO.out.1
      have hle := Nat.div_le_self X (2 ^ k)
      have hN := Lib.hid (bt_next X k)
      have hB : Hid ((X / 2 ^ k % 2 : Nat) = bt X k) := Lib.hid rfl
      have hXX := HX.out
      have hd : X / 2 ^ k < 18446744073709551616 := by omega
      clear hle
      generalize X / 2 ^ k = y at *
      go_wp2_with fail
      go_roundw
      case rel =>
        refine ⟨k + 1, _, by omega, by go_num, by rw [← hN.out]; go_num, ?_, Lib.hid (hO.out.set hlt _), Lib.hid (hL.out.setCell hge _)⟩
        refine Lib.hid fun c hc => ?_
        by_cases e : c = k
        · subst e; rw [if_pos rfl, if_pos (by omega), ← hB.out]; omega
        · rw [if_neg e, hP.out c hc]
          by_cases e2 : c < k
          · rw [if_pos e2, if_pos (by omega)]
          · rw [if_neg e2, if_neg (by omega)]
      case measure => simp [intOf]; omega
    · obtain rfl : n = k := by omega
      go_wp2_with fail
      go_ret
      exact ⟨b, _, rfl, hL.out, hge, hO.out.congr fun c hc => by rw [hP.out c hc, if_pos hc]⟩
theorem rnumber_any (A : Option Addr) (n c X : Nat) (n2 : n ≤ 64) (hX : X < 2 ^ n) (w : World) (hR : Row w A n X) : Calls Try.prog 31 #[.slice A n c] w (Ret w (.int .u64 X)) := by
  have HR := Lib.hid hR
  have hX64 : X < 18446744073709551616 := by
    have : 2 ^ n ≤ 2 ^ 64 := Nat.pow_le_pow_right (by omega) n2
    omega
  have hz : X / 2 ^ n = 0 := Nat.div_eq_of_lt hX
  have Hz := Lib.hid hz
  clear hR hX hz
  go_enter Try.func31, Try.ntmps31
  go_wp2_with fail
  go_loopw [3, 4] (fun x i wr => ∃ (k : Nat), k ≤ n ∧ i = .int .i64 ((k : Int) - 1) ∧ x = .int .u64 ((X / 2 ^ k : Nat) : Int) ∧ wr = w) (fun _ i _ => ((intOf i) + 1).toNat)
  case atStart => exact ⟨n, Nat.le_refl _, rfl, by rw [Hz.out]; rfl, rfl⟩
  case round =>
    obtain ⟨k, hk, rfl, rfl, rfl⟩ := hrel
    by_cases hlt : 1 ≤ k
    · obtain ⟨j, rfl⟩ : ∃ j, k = j + 1 := ⟨k - 1, by omega⟩
      obtain ⟨b1, o1, rfl, hb1, hc1⟩ := HR.out j (by omega)
      have hn := Lib.hid (hi_next X j)
      have hle := bt_le X j
      have hd := Nat.div_le_self X (2 ^ j)
      have hb2 : 2 * (X / 2 ^ (j + 1)) + bt X j < 18446744073709551616 := by rw [hn.out]; omega
      clear hd
      generalize X / 2 ^ (j + 1) = y at *
      generalize bt X j = z at *
      go_wp2_with fail
      go_roundw
      case rel => exact ⟨j, by omega, by go_num, by rw [← hn.out]; go_num, trivial⟩
      case measure => simp [intOf]
    · obtain rfl : k = 0 := by omega
      go_wp2_with fail
      go_ret
      exact Ret.mk' (by simp) (Later.refl _)
/-- The bits of a number, a list. -/
def bl (X n : Nat) : List Value := (List.range n).map fun k => Value.int .i64 (bt X k : Nat)
theorem bl_succ (X n : Nat) : bl X (n + 1) = bl X n ++ [Value.int .i64 (bt X n : Nat)] := by simp [bl, List.range_succ]
theorem bl_at (X n : Nat) : ∀ k, k < n → (bl X n)[k]? = some (.int .i64 ((fun k => (bt X k : Nat)) k : Nat)) := by
  intro k hk
  simp [bl, List.getElem?_range hk]
set_option maxHeartbeats 1000000 in
theorem turned_any (A : Option Addr) (n c X : Nat) (n1 : 1 ≤ n) (n2 : n ≤ 64) (hX : X < 2 ^ n) (w : World) (hR : Row w A n X) : Calls Try.prog 36 #[.slice A n c] w (RetB w n (2 ^ n - 1 - X)) := by
  obtain ⟨i0, hi, hz0, hz1, hz2⟩ := info_parts (P := Try.prog) (e := 3) (z := .int .i64 0) (size := 1) (bytes := 8) info3
  have HR := Lib.hid hR
  have HT := Lib.hid (fun k => bt_turn (X := X) (n := n) (k := k) hX)
  generalize 2 ^ n - 1 - X = T at *
  clear hR hX
  go_enter Try.func36, Try.ntmps36
  go_wp2_with fail
  go_loopw [3, 4] (fun v i wr => ∃ (k : Nat), k ≤ n ∧ i = .int .i64 k ∧ Hid (wr.ownsRow w.heap.size 3 1 v k (bl T k)) ∧ Hid (Below w.heap.size w wr)) (fun _ i _ => n - (intOf i).toNat)
  case atStart => exact ⟨0, by omega, rfl, Lib.hid (World.ownsRow_nil _ _ _ _), Lib.hid (Below.refl _ _)⟩
  case round =>
    obtain ⟨k, hk, rfl, hO, hB⟩ := hrel
    by_cases hlt : k < n
    · have hsz := hB.out.size
      obtain ⟨b1, o1, rfl, hb1, hc1⟩ := (HR.out.later (Later.of_below hB.out)) k hlt
      have hle := bt_le X k
      have ht := Lib.hid (HT.out k hlt)
      have hs := Lib.hid (bl_succ T k)
      generalize bt X k = z at *
      have hz : (1 : Int) - z = ((1 - z : Nat) : Int) := by omega
      go_wp2_with (first
        | (at_builtin; refine wpList_append_own _ rfl _ _ 57 rfl w.heap.size 3 i0 (.int .i64 0) 1 8 Try.underlying57 hi hz0 hz1 hz2 rfl (by decide) _ _ _ rfl (hO.out.alloc _) ⟨wr.heap.size, 0, none⟩ 1 1 [.int .i64 ((1 - z : Nat) : Int)] rfl rfl (cell_one_new _ _ _) (fun x hx => by simp at hx; subst hx; rfl) (by unfold maxLen; omega) (by omega) (by simp; omega) ?_; intro v' w3 hown' hgrow3 hnil3))
      have hB3 : Below w.heap.size w w3 := (hB.out.alloc hsz _).grown hgrow3 (by simp; omega) (fun g hg => ownBlock_ge hO.out g hg)
      go_roundw
      case rel => exact ⟨k + 1, by omega, by go_num, Lib.hid (by rw [hs.out, ht.out]; exact hown'), Lib.hid hB3⟩
      case measure => simp [intOf]; omega
    · obtain rfl : n = k := by omega
      obtain ⟨b, c, rfl, hbb, hown⟩ := IOwn.of_row (f := fun k => (bt T k : Nat)) hO.out (bl_at T n) (ne_nil_of hO.out n1)
      have HOw := Lib.hid hown
      clear hown
      go_wp2_with fail
      go_ret
      exact ⟨b, _, rfl, Later.of_below hB.out, hbb, HOw.out⟩
set_option maxHeartbeats 2000000 in
theorem add_any (A B : Option Addr) (n c d X Y q : Nat) (n1 : 1 ≤ n) (n2 : n ≤ 64) (hq : q ≤ 1) (w : World) (hR : Row w A n X) (hS : Row w B n Y) : Calls Try.prog 37 #[.slice A n c, .slice B n d, .int .i64 q] w (RetB w n ((X + Y + q) % 2 ^ n)) := by
  obtain ⟨i0, hi, hz0, hz1, hz2⟩ := info_parts (P := Try.prog) (e := 3) (z := .int .i64 0) (size := 1) (bytes := 8) info3
  have HR := Lib.hid hR
  have HS := Lib.hid hS
  have HC := Lib.hid (fun k => cy_le (X := X) (Y := Y) (k := k) hq)
  have HN := Lib.hid (cy_next X Y q)
  have HB := Lib.hid (fun k (hk : k < n) => (cy_bit X Y q k).trans (bt_mod (X := X + Y + q) hk).symm)
  have hcz : ((cy X Y q 0 : Nat) : Int) = (q : Int) := by rw [cy_zero]
  have Hcz := Lib.hid hcz
  clear hR hS hcz hq
  generalize (X + Y + q) % 2 ^ n = T at *
  go_enter Try.func37, Try.ntmps37
  go_wp2_with fail
  go_loopw [2, 7, 8, 9] (fun cc v i _ wr => ∃ (k : Nat), k ≤ n ∧ i = .int .i64 k ∧ cc = .int .i64 (cy X Y q k : Nat) ∧ Hid (wr.ownsRow w.heap.size 3 1 v k (bl T k)) ∧ Hid (Below w.heap.size w wr)) (fun _ _ i _ _ => n - (intOf i).toNat)
  case atStart => exact ⟨0, by omega, rfl, by rw [Hcz.out], Lib.hid (World.ownsRow_nil _ _ _ _), Lib.hid (Below.refl _ _)⟩
  case round =>
    obtain ⟨k, hk, rfl, rfl, hO, hB⟩ := hrel
    by_cases hlt : k < n
    · have hsz := hB.out.size
      obtain ⟨b1, o1, rfl, hb1, hc1⟩ := (HR.out.later (Later.of_below hB.out)) k hlt
      obtain ⟨b2, o2, rfl, hb2, hc2⟩ := (HS.out.later (Later.of_below hB.out)) k hlt
      have hx := bt_le X k
      have hy := bt_le Y k
      have hc := HC.out k
      have hn := Lib.hid (HN.out k)
      have ht := Lib.hid (HB.out k hlt)
      have hs := Lib.hid (bl_succ T k)
      generalize bt X k = x at *
      generalize bt Y k = y at *
      generalize cy X Y q k = z at *
      go_upto_region 5 with fail
      refine wp_region_later (by kernel_rfl) (by kernel_rfl) ?_
      repeat (go_big_quiet_step (fail))
      refine wpQuiet_nil ?_
      rintro _ ⟨g, rfl⟩
      have hB1 := Lib.hid (hB.out.trans (((Later.refl wr).more g).below.mono hsz))
      have hO1 := Lib.hid (owns_later hO.out ((Later.refl wr).more g))
      have hsz1 := hB1.out.size
      clear hB hO hb1 hb2 hc1 hc2 hsz
      generalize more wr g = wq at *
      obtain ⟨r, hr⟩ : ∃ r : Nat, (x + y + z) % 2 = r := ⟨_, rfl⟩
      obtain ⟨q2, hq2⟩ : ∃ r : Nat, (x + y + z) / 2 = r := ⟨_, rfl⟩
      have hz' : ((x : Int) + y + z) % 2 = (r : Int) := by omega
      have hd' : ((x : Int) + y + z) / 2 = (q2 : Int) := by omega
      rw [hq2] at hn
      rw [hr] at ht
      clear hr hq2
      go_wp2_with (first
        | (at_builtin; refine wpList_append_own _ rfl _ _ 57 rfl w.heap.size 3 i0 (.int .i64 0) 1 8 Try.underlying57 hi hz0 hz1 hz2 rfl (by decide) _ _ _ rfl (hO1.out.alloc _) ⟨wq.heap.size, 0, none⟩ 1 1 [.int .i64 (r : Int)] rfl rfl (cell_one_new _ _ _) (fun x hx => by simp at hx; subst hx; rfl) (by unfold maxLen; omega) (by omega) (by simp; omega) ?_; intro v' w3 hown' hgrow3 hnil3))
      have hB3 : Below w.heap.size w w3 := (hB1.out.alloc hsz1 _).grown hgrow3 (by simp; omega) (fun g hg => ownBlock_ge hO1.out g hg)
      go_roundw
      case rel => exact ⟨k + 1, by omega, by go_num, by rw [hd', hn.out], Lib.hid (by rw [hs.out, ← ht.out]; exact hown'), Lib.hid hB3⟩
      case measure => simp [intOf]; omega
    · obtain rfl : n = k := by omega
      obtain ⟨b, c, rfl, hbb, hown⟩ := IOwn.of_row (f := fun k => (bt T k : Nat)) hO.out (bl_at T n) (ne_nil_of hO.out n1)
      have HOw := Lib.hid hown
      clear hown
      go_wp2_with fail
      go_ret
      exact ⟨b, _, rfl, Later.of_below hB.out, hbb, HOw.out⟩
end Go.Proofs.Ytihnemlnnjdagaa
