/-
  No statement of the seat is proved here. Plain laws on squares turned over: bit by bit, twice, one bit of it. No condition.
-/
import Derived.Test.YtmhmnjeimjjipaaPlain
namespace Go.Proofs.Ytmhmnjeimjjipaa.Ln
set_option linter.unusedVariables false
/-- All bits the other way. -/
def notI (x : Int) : Int := bits BinOp.xor IntKind.u64 (if IntKind.u64.signed = true then -1 else IntKind.u64.max) x
theorem not_bd {x : Int} (h0 : 0 ≤ x) (hx : x < 18446744073709551616) : 0 ≤ notI x ∧ notI x < 18446744073709551616 ∧ ∀ c, c < 64 → tb (notI x) c = !tb x c := by
  have e : notI x = bits BinOp.xor IntKind.u64 18446744073709551615 x := by unfold notI; simp [IntKind.signed, IntKind.max, IntKind.bits]
  rw [e, u64_xor _ _ (by omega) (by omega) h0 hx]
  have hl : (18446744073709551615 : Int).toNat ^^^ x.toNat < 2 ^ 64 := Nat.xor_lt_two_pow (by decide) (by omega)
  refine ⟨by omega, by omega, fun c hc => ?_⟩
  have e2 : (18446744073709551615 : Int).toNat = 2 ^ 64 - 1 := by decide
  simp only [tb, Int.toNat_natCast, Nat.testBit_xor, e2, Nat.testBit_two_pow_sub_one]
  simp [hc]
theorem trn_and {s u h : Nat → Int} (hs : ∀ i, i < 64 → 0 ≤ s i ∧ s i < 18446744073709551616) (hu : ∀ i, i < 64 → 0 ≤ u i ∧ u i < 18446744073709551616)
    (hh : ∀ c, c < 64 → h c = bits BinOp.and IntKind.u64 (s c) (u c)) (m : Nat) : trn h m = bits BinOp.and IntKind.u64 (trn s m) (trn u m) := by
  have a := trn_bd s m
  have b := trn_bd u m
  have o := trn_bd h m
  have q := and_bd a.1 a.2 b.1 b.2
  refine eq_of_bits o.1 o.2 q.1 q.2.1 fun c hc => ?_
  rw [q.2.2, tb_trn h m c hc, tb_trn s m c hc, tb_trn u m c hc, hh c hc, (and_bd (hs c hc).1 (hs c hc).2 (hu c hc).1 (hu c hc).2).2.2]
theorem trn_not {s h : Nat → Int} (hs : ∀ i, i < 64 → 0 ≤ s i ∧ s i < 18446744073709551616)
    (hh : ∀ c, c < 64 → h c = notI (s c)) (m : Nat) (hm : m < 64) : trn h m = notI (trn s m) := by
  have a := trn_bd s m
  have o := trn_bd h m
  have q := not_bd a.1 a.2
  refine eq_of_bits o.1 o.2 q.1 q.2.1 fun c hc => ?_
  rw [q.2.2 c hc, tb_trn h m c hc, tb_trn s m c hc, hh c hc, (not_bd (hs c hc).1 (hs c hc).2).2.2 m hm]
theorem trn_trn {s : Nat → Int} (hs : ∀ i, i < 64 → 0 ≤ s i ∧ s i < 18446744073709551616) (m : Nat) (hm : m < 64) : trn (trn s) m = s m := by
  have o := trn_bd (trn s) m
  refine eq_of_bits o.1 o.2 (hs m hm).1 (hs m hm).2 fun c hc => ?_
  rw [tb_trn _ m c hc, tb_trn s c m hm]
/-- A bit, as the code reads it. -/
def bitI (x : Int) (c : Nat) : Int := bits BinOp.and IntKind.u64 (x / 2 ^ c) 1
theorem bitI_eq {x : Int} (h0 : 0 ≤ x) (hx : x < 18446744073709551616) (c : Nat) : bitI x c = if tb x c then 1 else 0 := by
  have s := shr_bd (s := (c : Int)) h0 hx
  simp only [Int.toNat_natCast] at s
  have q := and_bd s.1 s.2.1 (show (0 : Int) ≤ 1 by omega) (by omega)
  unfold bitI
  refine eq_of_bits q.1 q.2.1 (by split <;> omega) (by split <;> omega) fun d hd => ?_
  rw [q.2.2, s.2.2]
  have t1 : ∀ d, tb 1 d = decide (d = 0) := fun d => by
    unfold tb
    rw [show (1 : Int).toNat = 1 by rfl, Bool.eq_iff_iff, Nat.testBit_one_eq_true_iff_self_eq_zero]
    simp
  by_cases hd0 : d = 0
  · subst hd0
    rw [Nat.zero_add, t1]
    cases h : tb x c
    · simp [tb]
    · simp [t1]
  · rw [t1]
    cases h : tb x c
    · simp [hd0, tb]
    · simp [hd0, t1]
theorem bit_trn {s : Nat → Int} (hs : ∀ i, i < 64 → 0 ≤ s i ∧ s i < 18446744073709551616) (i j : Nat) (hi : i < 64) (hj : j < 64) : bitI (trn s j) i = bitI (s i) j := by
  rw [bitI_eq (trn_bd s j).1 (trn_bd s j).2, bitI_eq (hs i hi).1 (hs i hi).2, tb_trn s j i hi]
end Go.Proofs.Ytmhmnjeimjjipaa.Ln
