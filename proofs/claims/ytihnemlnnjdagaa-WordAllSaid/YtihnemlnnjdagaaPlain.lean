/-
  No statement of the seat is proved here. What the functions of package word compute, as plain functions on integers, and small laws on them. No condition.
-/
import Derived.Laws.BitsAllLaws
import Derived.IntWalk
namespace Go.Proofs.Ytihnemlnnjdagaa.Wd

/-- May a type be? -/
def may (b s : Bool) (n : Int) : Bool := bif b then (!s && n == 1) else (decide (1 ≤ n) && decide (n ≤ 64))
/-- 2 to the power of the width. -/
def pw (n : Int) : Int := 2 ^ n.toNat
theorem pw_nat (n : Int) : pw n = ((2 ^ n.toNat : Nat) : Int) := by simp [pw]
def isw (b s : Bool) (n w : Int) : Bool := may b s n && decide (w < pw n)
/-- A number, brought into a width. -/
def cut (n x : Int) : Int := x % pw n
/-- A word's value. -/
def sv (s : Bool) (n w : Int) : Int := bif s && decide (pw (n - 1) ≤ w) then w - pw n else w
def wid (s : Bool) (n w : Int) : Int := sv s n w % 18446744073709551616

theorem may_bd {b s : Bool} {n : Int} (h : may b s n = true) : 1 ≤ n ∧ n ≤ 64 := by
  cases b <;> simp [may] at h <;> omega
theorem pw_pos (n : Int) : 1 ≤ pw n := by
  have := Nat.two_pow_pos n.toNat
  rw [pw_nat]; omega
theorem pw_64 : pw 64 = 18446744073709551616 := by decide
theorem pw_add (m k : Nat) : pw ((m + k : Nat) : Int) = pw m * pw k := by
  simp only [pw_nat, Int.toNat_natCast, Nat.pow_add, Int.natCast_mul]
theorem pw_split {n : Int} (h1 : 1 ≤ n) (h2 : n ≤ 64) : pw n * pw (64 - n) = 18446744073709551616 := by
  obtain ⟨m, rfl⟩ := Int.eq_ofNat_of_zero_le (show 0 ≤ n by omega)
  rw [show (64 : Int) - (m : Int) = ((64 - m : Nat) : Int) by omega, ← pw_add, show m + (64 - m) = 64 by omega]
  exact pw_64
theorem pw_le {n : Int} (h2 : n ≤ 64) : pw n ≤ 18446744073709551616 := by
  have : n.toNat ≤ 64 := by omega
  have h := Nat.pow_le_pow_right (show 0 < 2 by omega) this
  rw [pw_nat]
  omega
theorem pw_half {n : Int} (h1 : 1 ≤ n) : pw n = 2 * pw (n - 1) := by
  obtain ⟨m, rfl⟩ := Int.eq_ofNat_of_zero_le (show 0 ≤ n by omega)
  obtain ⟨k, rfl⟩ : ∃ k, m = k + 1 := ⟨m - 1, by omega⟩
  rw [show ((k + 1 : Nat) : Int) - 1 = ((k : Nat) : Int) by omega]
  rw [pw_add, Int.mul_comm]
  rfl

/-- The mask of a width, as the code reckons it. -/
theorem ones_eq {n : Int} (h1 : 1 ≤ n) (h2 : n ≤ 64) : (18446744073709551615 : Int) / pw (64 - n) = pw n - 1 := by
  have hs := pw_split h1 h2
  have hp := pw_pos (64 - n)
  have e : (18446744073709551615 : Int) = (pw n - 1) * pw (64 - n) + (pw (64 - n) - 1) := by
    rw [Int.sub_mul, hs]; omega
  rw [e, Int.add_comm, Int.add_mul_ediv_right _ _ (by omega), Int.ediv_eq_zero_of_lt (by omega) (by omega)]
  omega

theorem cut_bd {n : Int} (x : Int) : 0 ≤ cut n x ∧ cut n x < pw n := by
  have := pw_pos n
  exact ⟨Int.emod_nonneg _ (by omega), Int.emod_lt_of_pos _ (by omega)⟩
theorem cut_id {n x : Int} (h0 : 0 ≤ x) (h : x < pw n) : cut n x = x := Int.emod_eq_of_lt h0 h

theorem and_ones {n x : Int} (h0 : 0 ≤ x) : ((x.toNat &&& (pw n - 1).toNat : Nat) : Int) = cut n x := by
  obtain ⟨X, rfl⟩ := Int.eq_ofNat_of_zero_le h0
  have e : (pw n - 1).toNat = 2 ^ n.toNat - 1 := by rw [pw_nat]; omega
  rw [Int.toNat_natCast, e, Nat.and_two_pow_sub_one_eq_mod]
  unfold cut
  rw [pw_nat, Int.natCast_emod]

theorem andNot_ones {n x : Int} (h0 : 0 ≤ x) (hx : x < 18446744073709551616) (h1 : 1 ≤ n) (h2 : n ≤ 64) :
    ((x.toNat &&& (18446744073709551615 - (pw n - 1).toNat) : Nat) : Int) = x - cut n x := by
  obtain ⟨X, rfl⟩ := Int.eq_ofNat_of_zero_le h0
  obtain ⟨m, rfl⟩ := Int.eq_ofNat_of_zero_le (show 0 ≤ n by omega)
  rw [Int.toNat_natCast]
  have hm : m ≤ 64 := by omega
  have e : (18446744073709551615 - (pw m - 1).toNat) = (2 ^ (64 - m) - 1) <<< m := by
    have hp := Nat.two_pow_pos m
    have hp2 : 2 ^ (64 - m) * 2 ^ m = 18446744073709551616 := by rw [← Nat.pow_add, show 64 - m + m = 64 by omega]
    rw [Nat.shiftLeft_eq, Nat.sub_mul, hp2]
    rw [pw_nat, Int.toNat_natCast]
    omega
  rw [e]
  have key : X &&& (2 ^ (64 - m) - 1) <<< m = (X >>> m) <<< m := by
    apply Nat.eq_of_testBit_eq
    intro i
    simp only [Nat.testBit_and, Nat.testBit_shiftLeft, Nat.testBit_two_pow_sub_one, Nat.testBit_shiftRight]
    by_cases hi : m ≤ i
    · simp only [hi, decide_true, Bool.true_and]
      rw [show m + (i - m) = i by omega]
      by_cases h64 : i - m < 64 - m
      · simp [h64]
      · have : X.testBit i = false := Nat.testBit_lt_two_pow (by
          have : 2 ^ 64 ≤ 2 ^ i := Nat.pow_le_pow_right (by omega) (by omega)
          omega)
        simp [this]
    · simp [hi]
  rw [key, Nat.shiftLeft_eq, Nat.shiftRight_eq_div_pow]
  have hd := Nat.div_add_mod X (2 ^ m)
  have : cut (m : Int) (X : Int) = ((X % 2 ^ m : Nat) : Int) := by unfold cut; rw [pw_nat, Int.toNat_natCast]; rfl
  rw [this, Nat.mul_comm]
  omega
theorem isw_test {n x : Int} (h0 : 0 ≤ x) : (x - cut n x == 0) = decide (x < pw n) := by
  have hp := pw_pos n
  have hb := cut_bd (n := n) x
  rw [Bool.eq_iff_iff, beq_iff_eq, decide_eq_true_eq]
  constructor
  · intro h; omega
  · intro h; rw [cut_id h0 h]; omega

theorem sv_bd {s : Bool} {n w : Int} (h1 : 1 ≤ n) (h2 : n ≤ 64) (h0 : 0 ≤ w) (hw : w < pw n) : -9223372036854775808 ≤ sv s n w ∧ sv s n w < 18446744073709551616 ∧ (s = true → sv s n w < 9223372036854775808) := by
  have hh := pw_half h1
  have hl := pw_le h2
  unfold sv
  cases s
  · simp; omega
  · by_cases hc : pw (n - 1) ≤ w
    · simp [hc]; omega
    · simp [hc]; omega

/-- The code's tests and masks, in the walk's spelling. -/
theorem is_test {b s : Bool} {n x : Int} (hm : may b s n = true) (h0 : 0 ≤ x) (hx : x < 18446744073709551616) : (bits BinOp.andNot IntKind.u64 x (pw n - 1) == 0) = isw b s n x := by
  obtain ⟨h1, h2⟩ := may_bd hm
  have hp := pw_pos n
  have hl := pw_le h2
  rw [u64_andNot _ _ h0 hx (by omega) (by omega), andNot_ones h0 hx h1 h2, isw_test h0, isw, hm, Bool.true_and]
theorem cut_mask {n x : Int} (h0 : 0 ≤ x) (hx : x < 18446744073709551616) (h2 : n ≤ 64) : bits BinOp.and IntKind.u64 x (pw n - 1) = cut n x := by
  have hp := pw_pos n
  have hl := pw_le h2
  rw [u64_and _ _ h0 hx (by omega) (by omega), and_ones h0]
theorem isw_may {b s : Bool} {n x : Int} (h : isw b s n x = true) : may b s n = true := by simp [isw] at h; exact h.1
theorem isw_lt {b s : Bool} {n x : Int} (h : isw b s n x = true) : x < pw n := by simp [isw] at h; exact h.2

theorem wrap_u64 (x : Int) : IntKind.u64.wrap x = x % 18446744073709551616 := by simp [IntKind.wrap, IntKind.bits, IntKind.signed]
theorem wide_calc {n x : Int} (h1 : 1 ≤ n) (h2 : n ≤ 64) (h0 : 0 ≤ x) (hx : x < pw n) :
    IntKind.u64.wrap (RowKit.wrap64 (IntKind.u64.wrap (x * pw (64 - n))) / pw (64 - n)) = wid true n x := by
  have hs := pw_split h1 h2
  have hp := pw_pos (64 - n)
  have hh := pw_half h1
  have hlt : x * pw (64 - n) < 18446744073709551616 := by
    have h : (x + 1) * pw (64 - n) ≤ pw n * pw (64 - n) := Int.mul_le_mul_of_nonneg_right (by omega) (by omega)
    rw [hs, Int.add_mul] at h
    omega
  have hge : 0 ≤ x * pw (64 - n) := Int.mul_nonneg h0 (by omega)
  have h63 : pw (n - 1) * pw (64 - n) = 9223372036854775808 := by
    rw [hh, Int.mul_assoc] at hs; omega
  rw [wrap_u64, wrap_u64, Int.emod_eq_of_lt hge hlt]
  unfold wid sv
  by_cases hc : pw (n - 1) ≤ x
  · have h3 : pw (n - 1) * pw (64 - n) ≤ x * pw (64 - n) := Int.mul_le_mul_of_nonneg_right hc (by omega)
    have h4 : RowKit.wrap64 (x * pw (64 - n)) = (x - pw n) * pw (64 - n) := by
      rw [Int.sub_mul, hs]; unfold RowKit.wrap64; omega
    rw [h4, Int.mul_ediv_cancel _ (by omega)]
    simp [hc]
  · have h3 : (x + 1) * pw (64 - n) ≤ pw (n - 1) * pw (64 - n) := Int.mul_le_mul_of_nonneg_right (by omega) (by omega)
    have h4 : RowKit.wrap64 (x * pw (64 - n)) = x * pw (64 - n) := by
      rw [Int.add_mul] at h3; unfold RowKit.wrap64; omega
    rw [h4, Int.mul_ediv_cancel _ (by omega)]
    simp [hc]
theorem wid_u {n x : Int} (h0 : 0 ≤ x) (hx : x < 18446744073709551616) : wid false n x = x := by
  unfold wid sv; simp; exact Int.emod_eq_of_lt h0 hx
theorem wid_bd (s : Bool) (n x : Int) : 0 ≤ wid s n x ∧ wid s n x < 18446744073709551616 := by unfold wid; omega
/-- A signed word's value out of its 64 bits. -/
theorem wrap_wid {n x : Int} (h1 : 1 ≤ n) (h2 : n ≤ 64) (h0 : 0 ≤ x) (hx : x < pw n) : RowKit.wrap64 (wid true n x) = sv true n x := by
  have h := sv_bd (s := true) h1 h2 h0 hx
  have := h.2.2 rfl
  unfold wid RowKit.wrap64
  omega

/-- Does an int64 hold the value; the value, if so. -/
def hld (s : Bool) (x : Int) : Bool := s || decide (x < 9223372036854775808)
def val (s : Bool) (n x : Int) : Int := bif hld s x then sv s n x else 0
def less (s : Bool) (n x y : Int) : Bool := decide (sv s n x < sv s n y)

theorem wrap_bd (x : Int) : 0 ≤ IntKind.u64.wrap x ∧ IntKind.u64.wrap x < 18446744073709551616 := by rw [wrap_u64]; omega
theorem cut_wrap {n : Int} (h1 : 1 ≤ n) (h2 : n ≤ 64) (x : Int) : cut n (IntKind.u64.wrap x) = cut n x := by
  rw [wrap_u64]
  unfold cut
  exact Int.emod_emod_of_dvd x ⟨pw (64 - n), (pw_split h1 h2).symm⟩

def andI (x y : Int) : Int := ((x.toNat &&& y.toNat : Nat) : Int)
def orI (x y : Int) : Int := ((x.toNat ||| y.toNat : Nat) : Int)
def xorI (x y : Int) : Int := ((x.toNat ^^^ y.toNat : Nat) : Int)
def b2i (b : Bool) : Int := bif b then 1 else 0
theorem bitsAnd {x y : Int} (h0 : 0 ≤ x) (hx : x < 18446744073709551616) (k0 : 0 ≤ y) (hy : y < 18446744073709551616) : bits BinOp.and IntKind.u64 x y = andI x y := u64_and x y h0 hx k0 hy
theorem bitsOr {x y : Int} (h0 : 0 ≤ x) (hx : x < 18446744073709551616) (k0 : 0 ≤ y) (hy : y < 18446744073709551616) : bits BinOp.or IntKind.u64 x y = orI x y := u64_or x y h0 hx k0 hy
theorem bitsXor {x y : Int} (h0 : 0 ≤ x) (hx : x < 18446744073709551616) (k0 : 0 ≤ y) (hy : y < 18446744073709551616) : bits BinOp.xor IntKind.u64 x y = xorI x y := u64_xor x y h0 hx k0 hy
/-- What is done to two words. -/
def twoV (s : Bool) (n op x y : Int) : Int :=
  bif op == 1 then andI x y else bif op == 2 then orI x y else bif op == 3 then xorI x y else
  bif op == 4 then cut n (x + y) else bif op == 5 then cut n (x - y) else bif op == 6 then cut n (x * y) else
  bif op == 7 then b2i (x == y) else bif op == 8 then b2i (x != y) else bif op == 9 then b2i (less s n x y) else
  bif op == 10 then b2i (!less s n y x) else bif op == 11 then b2i (less s n y x) else b2i (!less s n x y)
theorem b2i_not (v : Bool) : (bif v then (0 : Int) else 1) = b2i (!v) := by cases v <;> rfl
def okOp (b : Bool) (op : Int) : Bool := op == 1 || op == 2 || op == 3 || op == 7 || op == 8 || (!b && decide (4 ≤ op) && decide (op ≤ 12))
theorem okOp_cases {b : Bool} {op : Int} (h : okOp b op = true) : op = 1 ∨ op = 2 ∨ op = 3 ∨ op = 7 ∨ op = 8 ∨ (b = false ∧ (op = 4 ∨ op = 5 ∨ op = 6 ∨ op = 9 ∨ op = 10 ∨ op = 11 ∨ op = 12)) := by
  cases b
  · simp [okOp] at h ⊢; omega
  · simp [okOp] at h ⊢; omega

theorem cut_wid {s : Bool} {n m x : Int} (h1 : 1 ≤ m) (h2 : m ≤ 64) : cut m (wid s n x) = cut m (sv s n x) := by
  rw [show wid s n x = IntKind.u64.wrap (sv s n x) by rw [wrap_u64]; rfl, cut_wrap h1 h2]
def oneV (n op x : Int) : Int := bif op == 1 then cut n (-1 - x) else cut n (-x)
def shV (s : Bool) (n x by' : Int) : Int := bif decide (0 ≤ by') then cut n (x * pw by') else cut n (sv s n x / pw (-by'))
theorem made_calc (n : Int) : RowKit.wrap64 (1 + RowKit.wrap64 ((IntKind.u64.wrap n).tmod 64)) = 1 + n % 64 := by
  rw [Int.tmod_eq_emod_of_nonneg (wrap_bd n).1, wrap_u64]
  unfold RowKit.wrap64
  omega

theorem not_wrap {x : Int} (h0 : 0 ≤ x) (hx : x < 18446744073709551616) : bits BinOp.xor IntKind.u64 IntKind.u64.max x = IntKind.u64.wrap (-1 - x) := by
  obtain ⟨X, rfl⟩ := Int.eq_ofNat_of_zero_le h0
  show IntKind.u64.wrap ((BitVec.ofInt 64 IntKind.u64.max ^^^ BitVec.ofInt 64 (X : Int)).toNat : Int) = _
  have h1 : BitVec.ofInt 64 IntKind.u64.max = BitVec.allOnes 64 := by decide
  rw [h1, BitVec.allOnes_xor, BitVec.toNat_not, ofInt_u64 X (by omega), wrap_u64, wrap_u64]
  omega
theorem not_bd {x : Int} (h0 : 0 ≤ x) (hx : x < 18446744073709551616) : 0 ≤ bits BinOp.xor IntKind.u64 IntKind.u64.max x ∧ bits BinOp.xor IntKind.u64 IntKind.u64.max x < 18446744073709551616 := by
  rw [not_wrap h0 hx]; exact wrap_bd _
theorem sh_dn_u {n x k : Int} (h0 : 0 ≤ x) (hx : x < pw n) (hk : k < 0) : x / pw (-k) = shV false n x k := by
  have hp := pw_pos (-k)
  have h3 : x / pw (-k) ≤ x := Int.ediv_le_self _ h0
  have h4 : 0 ≤ x / pw (-k) := Int.ediv_nonneg h0 (by omega)
  unfold shV sv
  rw [show decide (0 ≤ k) = false by simp; omega]
  simp only [Bool.false_and, cond_false]
  exact (cut_id h4 (by omega)).symm

end Go.Proofs.Ytihnemlnnjdagaa.Wd
