/-
  No statement of the seat is proved here. Plain laws: words of a type are a ring. No condition.
-/
import Derived.Test.YtihnemlnnjdagaaPlain3
namespace Go.Proofs.Ytihnemlnnjdagaa.Wd

theorem tw1 (s : Bool) (n x y : Int) : twoV s n 1 x y = andI x y := rfl
theorem tw2 (s : Bool) (n x y : Int) : twoV s n 2 x y = orI x y := rfl
theorem tw3 (s : Bool) (n x y : Int) : twoV s n 3 x y = xorI x y := rfl
theorem tw4 (s : Bool) (n x y : Int) : twoV s n 4 x y = cut n (x + y) := rfl
theorem tw5 (s : Bool) (n x y : Int) : twoV s n 5 x y = cut n (x - y) := rfl
theorem tw6 (s : Bool) (n x y : Int) : twoV s n 6 x y = cut n (x * y) := rfl
theorem cut_add_l (n x y : Int) : cut n (cut n x + y) = cut n (x + y) := by unfold cut; rw [Int.emod_add_emod]
theorem cut_add_r (n x y : Int) : cut n (x + cut n y) = cut n (x + y) := by unfold cut; rw [Int.add_emod_emod]

theorem two_comm {s : Bool} {n op x y : Int} (h : op = 1 ∨ op = 2 ∨ op = 3 ∨ op = 4 ∨ op = 6) : twoV s n op x y = twoV s n op y x := by
  rcases h with rfl | rfl | rfl | rfl | rfl
  · rw [tw1, tw1, andI, andI, Nat.and_comm]
  · rw [tw2, tw2, orI, orI, Nat.or_comm]
  · rw [tw3, tw3, xorI, xorI, Nat.xor_comm]
  · rw [tw4, tw4, Int.add_comm]
  · rw [tw6, tw6, Int.mul_comm]
theorem two_assoc {s : Bool} {n op x y z : Int} (h : op = 1 ∨ op = 2 ∨ op = 3 ∨ op = 4 ∨ op = 6) : twoV s n op (twoV s n op x y) z = twoV s n op x (twoV s n op y z) := by
  rcases h with rfl | rfl | rfl | rfl | rfl
  · simp only [tw1, andI, Int.toNat_natCast, Nat.and_assoc]
  · simp only [tw2, orI, Int.toNat_natCast, Nat.or_assoc]
  · simp only [tw3, xorI, Int.toNat_natCast, Nat.xor_assoc]
  · rw [tw4, tw4, tw4, tw4, cut_add_l, cut_add_r, Int.add_assoc]
  · rw [tw6, tw6, tw6, tw6, cut_mul_l, cut_mul_r, Int.mul_assoc]
def allI (n op : Int) : Int := bif op == 1 then cut n (-1) else bif op == 6 then 1 else 0
theorem cut_m1 {n : Int} (h1 : 1 ≤ n) : cut n (-1) = pw n - 1 := by
  have hh := pw_half h1
  have hp := pw_pos (n - 1)
  unfold cut
  rw [← Int.add_emod_right]
  exact Int.emod_eq_of_lt (by omega) (by omega)
theorem two_init {s : Bool} {n op x : Int} (h1 : 1 ≤ n) (h0 : 0 ≤ x) (hx : x < pw n) (h : op = 1 ∨ op = 2 ∨ op = 3 ∨ op = 4 ∨ op = 6) : twoV s n op (allI n op) x = x := by
  have hn := pw_nat n
  rcases h with rfl | rfl | rfl | rfl | rfl
  · show andI (cut n (-1)) x = x
    have e : (cut n (-1)).toNat = 2 ^ n.toNat - 1 := by rw [cut_m1 h1]; omega
    rw [andI, e, Nat.and_comm, Nat.and_two_pow_sub_one_of_lt_two_pow (by omega)]
    omega
  · show orI 0 x = x
    simp [orI]; omega
  · show xorI 0 x = x
    simp [xorI]; omega
  · show cut n (0 + x) = x
    rw [Int.zero_add, cut_id h0 hx]
  · show cut n (1 * x) = x
    rw [Int.one_mul, cut_id h0 hx]

theorem oneV1 (n x : Int) : oneV n 1 x = cut n (-1 - x) := rfl
theorem oneV2 (n x : Int) : oneV n 2 x = cut n (-x) := rfl
theorem oneV_bd (n op x : Int) : 0 ≤ oneV n op x ∧ oneV n op x < pw n := by
  unfold oneV
  cases op == 1 <;> exact cut_bd _
theorem not_val {n x : Int} (h0 : 0 ≤ x) (hx : x < pw n) : cut n (-1 - x) = pw n - 1 - x := by
  unfold cut
  rw [← Int.add_emod_right, show -1 - x + pw n = pw n - 1 - x by omega]
  exact Int.emod_eq_of_lt (by omega) (by omega)
theorem not_or {n x y : Int} (h0 : 0 ≤ x) (hx : x < pw n) (k0 : 0 ≤ y) (hy : y < pw n) : orI (oneV n 1 x) (oneV n 1 y) = oneV n 1 (andI x y) := by
  have hn := pw_nat n
  obtain ⟨X, rfl⟩ := Int.eq_ofNat_of_zero_le h0
  obtain ⟨Y, rfl⟩ := Int.eq_ofNat_of_zero_le k0
  have hX : X < 2 ^ n.toNat := by omega
  have hY : Y < 2 ^ n.toNat := by omega
  have hXY : X &&& Y < 2 ^ n.toNat := Nat.and_lt_two_pow X hY
  have e : andI (X : Int) (Y : Int) = ((X &&& Y : Nat) : Int) := rfl
  rw [e, oneV1, oneV1, oneV1, not_val h0 hx, not_val k0 hy, not_val (by omega) (by omega), orI]
  have e1 : (pw n - 1 - (X : Int)).toNat = 2 ^ n.toNat - (X + 1) := by omega
  have e2 : (pw n - 1 - (Y : Int)).toNat = 2 ^ n.toNat - (Y + 1) := by omega
  have e3 : pw n - 1 - ((X &&& Y : Nat) : Int) = ((2 ^ n.toNat - ((X &&& Y) + 1) : Nat) : Int) := by omega
  rw [e1, e2, e3]
  congr 1
  apply Nat.eq_of_testBit_eq
  intro i
  rw [Nat.testBit_or, Nat.testBit_two_pow_sub_succ hX, Nat.testBit_two_pow_sub_succ hY, Nat.testBit_two_pow_sub_succ hXY, Nat.testBit_and]
  cases decide (i < n.toNat) <;> cases X.testBit i <;> cases Y.testBit i <;> rfl

theorem ring_sub {n x y : Int} (h0 : 0 ≤ x) (hx : x < pw n) : cut n (cut n (x - y) + y) = x := by
  rw [cut_add_l, show x - y + y = x by omega, cut_id h0 hx]
theorem ring_neg {n x : Int} : cut n (x + cut n (-x)) = 0 := by
  rw [cut_add_r, show x + -x = 0 by omega]
  unfold cut
  exact Int.zero_emod _
theorem ring_dist {n x y z : Int} : cut n (cut n (x * y) + cut n (x * z)) = cut n (x * cut n (y + z)) := by
  rw [cut_add_l, cut_add_r, cut_mul_r, Int.mul_add]
theorem ring_one {n x : Int} (h0 : 0 ≤ x) (hx : x < pw n) : cut n (x * cut n 1) = x := by
  rw [cut_mul_r, Int.mul_one, cut_id h0 hx]
theorem ring_not {n x : Int} : cut n (cut n (-1 - x) + cut n 1) = cut n (-x) := by
  rw [cut_add_l, cut_add_r, show -1 - x + 1 = -x by omega]

end Go.Proofs.Ytihnemlnnjdagaa.Wd
