/-
  No statement of the seat is proved here. Plain laws: the bits of a number, counted byte by byte. No condition.
-/
import Derived.Test.YtmhmnjeimjjipaaRefT
import Derived.Laws.Bits128
set_option linter.unusedVariables false
namespace Go.Proofs.Ytmhmnjeimjjipaa.Cn

def dmap (p : Nat → Nat) : Nat → Nat → Nat
  | 0, _ => 0
  | n + 1, x => p (x % 256) + 256 * dmap p n (x / 256)
def rep (m : Nat) : Nat → Nat
  | 0 => 0
  | n + 1 => m + 256 * rep m n
def Each (q : Nat → Prop) : Nat → Nat → Prop
  | 0, x => x = 0
  | n + 1, x => q (x % 256) ∧ Each q n (x / 256)

theorem and_split {x m M : Nat} (hm : m < 256) : x &&& (m + 256 * M) = ((x % 256) &&& m) + 256 * ((x / 256) &&& M) := by
  have h1 := Nat.div_add_mod (x &&& (m + 256 * M)) 256
  have h2 : (x &&& (m + 256 * M)) % 2 ^ 8 = (x % 2 ^ 8) &&& ((m + 256 * M) % 2 ^ 8) := Nat.and_mod_two_pow
  have h3 : (x &&& (m + 256 * M)) / 2 ^ 8 = (x / 2 ^ 8) &&& ((m + 256 * M) / 2 ^ 8) := Nat.and_div_two_pow
  rw [show (2 : Nat) ^ 8 = 256 by rfl, show (m + 256 * M) % 256 = m by omega] at h2
  rw [show (2 : Nat) ^ 8 = 256 by rfl, show (m + 256 * M) / 256 = M by omega] at h3
  omega
theorem and_small {y m j : Nat} (hm : m < 2 ^ j) : y &&& m = (y % 2 ^ j) &&& m := by
  have h1 : (y &&& m) % 2 ^ j = (y % 2 ^ j) &&& (m % 2 ^ j) := Nat.and_mod_two_pow
  rw [Nat.mod_eq_of_lt hm] at h1
  rw [← h1, Nat.mod_eq_of_lt]
  exact Nat.lt_of_le_of_lt Nat.and_le_right hm
def p1 (a : Nat) : Nat := (a / 2 &&& 85) + (a &&& 85)
def p2 (a : Nat) : Nat := (a / 4 &&& 51) + (a &&& 51)
def p3 (a : Nat) : Nat := (a / 16 + a) % 16
theorem stage1 : ∀ (n x : Nat), (x / 2 &&& rep 85 n) + (x &&& rep 85 n) = dmap p1 n x
  | 0, x => by simp [rep, dmap]
  | n + 1, x => by
    have ih := stage1 n (x / 256)
    rw [rep, and_split (by omega), and_split (by omega), dmap, ← ih, p1]
    rw [show x / 2 / 256 = x / 256 / 2 by omega]
    have e : x / 2 % 256 &&& 85 = x % 256 / 2 &&& 85 := by
      rw [and_small (j := 7) (by omega), and_small (y := x % 256 / 2) (j := 7) (by omega)]
      congr 1
      omega
    rw [e]
    omega
theorem stage2 : ∀ (n x : Nat), (x / 4 &&& rep 51 n) + (x &&& rep 51 n) = dmap p2 n x
  | 0, x => by simp [rep, dmap]
  | n + 1, x => by
    have ih := stage2 n (x / 256)
    rw [rep, and_split (by omega), and_split (by omega), dmap, ← ih, p2]
    rw [show x / 4 / 256 = x / 256 / 4 by omega]
    have e : x / 4 % 256 &&& 51 = x % 256 / 4 &&& 51 := by
      rw [and_small (j := 6) (by omega), and_small (y := x % 256 / 4) (j := 6) (by omega)]
      congr 1
      omega
    rw [e]
    omega
def nice (a : Nat) : Prop := a % 16 ≤ 4 ∧ a / 16 ≤ 4
theorem stage3 : ∀ (n x : Nat), Each nice n x → (x / 16 + x &&& rep 15 n) = dmap p3 n x
  | 0, x, _ => by simp [rep, dmap]
  | n + 1, x, ⟨h1, h2⟩ => by
    have ih := stage3 n (x / 256) h2
    have hy : x / 256 % 16 ≤ 4 := by
      cases n with
      | zero => have : x / 256 = 0 := h2; omega
      | succ n => have := h2.1.1; omega
    have ha1 := h1.1
    have ha2 := h1.2
    have hs : (x / 16 + x) / 256 = x / 256 / 16 + x / 256 := by omega
    rw [rep, and_split (by omega), dmap, hs, ih, p3]
    have e : (x / 16 + x) % 256 &&& 15 = (x % 256 / 16 + x % 256) % 16 := by
      rw [show (15 : Nat) = 2 ^ 4 - 1 by rfl, Nat.and_two_pow_sub_one_eq_mod]
      omega
    rw [e]
theorem dmap_lt {p : Nat → Nat} (hp : ∀ a, a < 256 → p a < 256) : ∀ n x, dmap p n x < 256 ^ n
  | 0, x => by simp [dmap]
  | n + 1, x => by
    have ih := dmap_lt hp n (x / 256)
    have := hp (x % 256) (Nat.mod_lt _ (by omega))
    rw [dmap, Nat.pow_succ]
    omega
theorem dmap_dmap {p q : Nat → Nat} (hp : ∀ a, a < 256 → p a < 256) : ∀ n x, dmap q n (dmap p n x) = dmap (fun a => q (p a)) n x
  | 0, x => rfl
  | n + 1, x => by
    have ih := dmap_dmap (q := q) hp n (x / 256)
    have := hp (x % 256) (Nat.mod_lt _ (by omega))
    rw [dmap, dmap, dmap]
    rw [show (p (x % 256) + 256 * dmap p n (x / 256)) % 256 = p (x % 256) by omega, show (p (x % 256) + 256 * dmap p n (x / 256)) / 256 = dmap p n (x / 256) by omega, ih]
theorem each_dmap {p : Nat → Nat} {q : Nat → Prop} (hp : ∀ a, a < 256 → p a < 256) (hq : ∀ a, a < 256 → q (p a)) : ∀ n x, Each q n (dmap p n x)
  | 0, x => rfl
  | n + 1, x => by
    have ih := each_dmap hp hq n (x / 256)
    have h1 := hp (x % 256) (Nat.mod_lt _ (by omega))
    have h2 := hq (x % 256) (Nat.mod_lt _ (by omega))
    rw [dmap]
    refine ⟨?_, ?_⟩
    · rw [show (p (x % 256) + 256 * dmap p n (x / 256)) % 256 = p (x % 256) by omega]; exact h2
    · rw [show (p (x % 256) + 256 * dmap p n (x / 256)) / 256 = dmap p n (x / 256) by omega]; exact ih
def csum (x : Nat) : Nat → Nat
  | 0 => 0
  | n + 1 => csum x n + (x.testBit n).toNat
theorem csum_low : ∀ n x, n ≤ 8 → csum x n = csum (x % 256) n
  | 0, x, _ => rfl
  | n + 1, x, h => by
    rw [csum, csum, csum_low n x (by omega), show (256 : Nat) = 2 ^ 8 by rfl, Nat.testBit_mod_two_pow]
    simp [show n < 8 by omega]
theorem csum_byte (x : Nat) : ∀ n, csum x (n + 8) = csum (x % 256) 8 + csum (x / 256) n
  | 0 => by simpa [csum] using csum_low 8 x (by omega)
  | n + 1 => by
    have e : (x / 256).testBit n = x.testBit (n + 8) := by rw [show x / 256 = x >>> 8 by rw [Nat.shiftRight_eq_div_pow], Nat.testBit_shiftRight, Nat.add_comm 8 n]
    have ih := csum_byte x n
    have l : csum x (n + 1 + 8) = csum x (n + 8) + (x.testBit (n + 8)).toNat := by rw [show n + 1 + 8 = (n + 8) + 1 by omega]; rfl
    have r : csum (x / 256) (n + 1) = csum (x / 256) n + ((x / 256).testBit n).toNat := rfl
    rw [l, r, ih, e]
    omega
def pop (a : Nat) : Nat := p3 (p2 (p1 a))
theorem pop_all : ∀ a, a < 256 → pop a = csum a 8 := by decide +kernel
theorem p1_lt : ∀ a, a < 256 → p1 a < 256 := by decide +kernel
theorem p21_lt : ∀ a, a < 256 → p2 (p1 a) < 256 := by decide +kernel
theorem p21_nice : ∀ a, a < 256 → (p2 (p1 a) % 16 ≤ 4 ∧ p2 (p1 a) / 16 ≤ 4) := by decide +kernel
theorem pop_le : ∀ a, a < 256 → pop a ≤ 8 := by decide +kernel
def dsum (p : Nat → Nat) : Nat → Nat → Nat
  | 0, _ => 0
  | n + 1, x => p (x % 256) + dsum p n (x / 256)
theorem csum_dsum : ∀ n x, csum x (8 * n) = dsum pop n x
  | 0, x => rfl
  | n + 1, x => by
    rw [show 8 * (n + 1) = 8 * n + 8 by omega, csum_byte, csum_dsum n, dsum, pop_all _ (Nat.mod_lt _ (by omega))]
/-- The last steps. -/
theorem fold (x : Nat) : (let a := dmap pop 8 x; let b := a + a / 256; let c := b + b / 65536; let d := c + c / 4294967296; d % 128 = dsum pop 8 x ∧ d < 2305843009213693952 ∧ a ≤ 578721382704613384) := by
  simp only [dmap, dsum]
  have h0 := pop_le (x % 256) (Nat.mod_lt _ (by omega))
  have h1 := pop_le (x / 256 % 256) (Nat.mod_lt _ (by omega))
  have h2 := pop_le (x / 256 / 256 % 256) (Nat.mod_lt _ (by omega))
  have h3 := pop_le (x / 256 / 256 / 256 % 256) (Nat.mod_lt _ (by omega))
  have h4 := pop_le (x / 256 / 256 / 256 / 256 % 256) (Nat.mod_lt _ (by omega))
  have h5 := pop_le (x / 256 / 256 / 256 / 256 / 256 % 256) (Nat.mod_lt _ (by omega))
  have h6 := pop_le (x / 256 / 256 / 256 / 256 / 256 / 256 % 256) (Nat.mod_lt _ (by omega))
  have h7 := pop_le (x / 256 / 256 / 256 / 256 / 256 / 256 / 256 % 256) (Nat.mod_lt _ (by omega))
  generalize pop (x % 256) = d0 at *
  generalize pop (x / 256 % 256) = d1 at *
  generalize pop (x / 256 / 256 % 256) = d2 at *
  generalize pop (x / 256 / 256 / 256 % 256) = d3 at *
  generalize pop (x / 256 / 256 / 256 / 256 % 256) = d4 at *
  generalize pop (x / 256 / 256 / 256 / 256 / 256 % 256) = d5 at *
  generalize pop (x / 256 / 256 / 256 / 256 / 256 / 256 % 256) = d6 at *
  generalize pop (x / 256 / 256 / 256 / 256 / 256 / 256 / 256 % 256) = d7 at *
  clear x
  obtain ⟨a, ha⟩ : ∃ a, a = d0 + 256 * (d1 + 256 * (d2 + 256 * (d3 + 256 * (d4 + 256 * (d5 + 256 * (d6 + 256 * (d7 + 256 * 0))))))) := ⟨_, rfl⟩
  rw [← ha]
  have hb : a / 256 = d1 + 256 * (d2 + 256 * (d3 + 256 * (d4 + 256 * (d5 + 256 * (d6 + 256 * d7))))) := by omega
  obtain ⟨b, hb2⟩ : ∃ b, b = a + a / 256 := ⟨_, rfl⟩
  rw [← hb2]
  have hb3 : b = (d0 + d1) + 256 * ((d1 + d2) + 256 * ((d2 + d3) + 256 * ((d3 + d4) + 256 * ((d4 + d5) + 256 * ((d5 + d6) + 256 * ((d6 + d7) + 256 * d7)))))) := by omega
  have ha2 : a ≤ 578721382704613384 := by omega
  clear ha hb hb2
  have hc : b / 65536 = (d2 + d3) + 256 * ((d3 + d4) + 256 * ((d4 + d5) + 256 * ((d5 + d6) + 256 * ((d6 + d7) + 256 * d7)))) := by omega
  obtain ⟨c, hc2⟩ : ∃ c, c = b + b / 65536 := ⟨_, rfl⟩
  rw [← hc2]
  have hc3 : c = (d0 + d1 + d2 + d3) + 256 * ((d1 + d2 + d3 + d4) + 256 * ((d2 + d3 + d4 + d5) + 256 * ((d3 + d4 + d5 + d6) + 256 * ((d4 + d5 + d6 + d7) + 256 * ((d5 + d6 + d7) + 256 * ((d6 + d7) + 256 * d7)))))) := by omega
  clear hc hc2 hb3
  have hd : c / 4294967296 = (d4 + d5 + d6 + d7) + 256 * ((d5 + d6 + d7) + 256 * ((d6 + d7) + 256 * d7)) := by omega
  refine ⟨?_, ?_, ha2⟩
  · rw [hd, hc3]; omega
  · rw [hd, hc3]; omega
theorem rep85 : rep 85 8 = 6148914691236517205 := by decide +kernel
theorem rep51 : rep 51 8 = 3689348814741910323 := by decide +kernel
theorem rep15 : rep 15 8 = 1085102592571150095 := by decide +kernel
theorem pow8 : 256 ^ 8 = 18446744073709551616 := by decide +kernel
theorem wrap_id {x : Int} (h0 : 0 ≤ x) (h1 : x < 18446744073709551616) : IntKind.u64.wrap x = x := by rw [Ln.wrap_u64]; omega
theorem and_nat {a b : Nat} (ha : a < 18446744073709551616) (hb : b < 18446744073709551616) : bits .and .u64 (a : Int) (b : Int) = ((a &&& b : Nat) : Int) := u64_and_nat a b ha hb
/-- The code's steps, each by a name. -/
theorem swar {x : Int} (h0 : 0 ≤ x) (h1 : x < 18446744073709551616) : ∃ y1 y2 y3 y4 y5 y6 : Int,
    IntKind.u64.wrap (bits BinOp.and IntKind.u64 (x / 2) 6148914691236517205 + bits BinOp.and IntKind.u64 x 6148914691236517205) = y1 ∧
    IntKind.u64.wrap (bits BinOp.and IntKind.u64 (y1 / 4) 3689348814741910323 + bits BinOp.and IntKind.u64 y1 3689348814741910323) = y2 ∧
    bits BinOp.and IntKind.u64 (IntKind.u64.wrap (y2 / 16 + y2)) 1085102592571150095 = y3 ∧
    y3 + y3 / 256 = y4 ∧ y4 + y4 / 65536 = y5 ∧ y5 + y5 / 4294967296 = y6 ∧ bits BinOp.and IntKind.i64 y6 127 = (csum x.toNat 64 : Nat) ∧
    0 ≤ y1 ∧ 0 ≤ y2 ∧ 0 ≤ y3 ∧ y3 ≤ 578721382704613384 ∧ 0 ≤ y4 ∧ 0 ≤ y5 ∧ 0 ≤ y6 ∧ y6 < 2305843009213693952 := by
  obtain ⟨X, rfl⟩ := Int.eq_ofNat_of_zero_le h0
  have hX : X < 18446744073709551616 := by omega
  have l1 := dmap_lt p1_lt 8 X
  have l2 := dmap_lt p21_lt 8 X
  rw [pow8] at l1 l2
  have s1 := stage1 8 X
  have s2 := stage2 8 (dmap p1 8 X)
  rw [dmap_dmap p1_lt] at s2
  have hn := each_dmap (q := nice) p21_lt p21_nice 8 X
  have s3 := stage3 8 (dmap (fun a => p2 (p1 a)) 8 X) hn
  rw [dmap_dmap p21_lt] at s3
  rw [rep85] at s1
  rw [rep51] at s2
  rw [rep15] at s3
  have hpop : (fun a => p3 (p2 (p1 a))) = pop := rfl
  rw [hpop] at s3
  have hf := fold X
  simp only at hf
  obtain ⟨f1, f2, f3⟩ := hf
  rw [← csum_dsum 8 X] at f1
  have hy2 : dmap (fun a => p2 (p1 a)) 8 X / 16 + dmap (fun a => p2 (p1 a)) 8 X < 18446744073709551616 := by
    have h := hn.2.2.2.2.2.2.2.1
    obtain ⟨ha, hb⟩ := h
    generalize dmap (fun a => p2 (p1 a)) 8 X = z at *
    omega
  generalize dmap (fun a => p2 (p1 a)) 8 X = Z2 at *
  generalize dmap p1 8 X = Z1 at *
  generalize dmap pop 8 X = Z3 at *
  obtain ⟨Z4, h4⟩ : ∃ z, Z3 + Z3 / 256 = z := ⟨_, rfl⟩
  rw [h4] at f1 f2
  obtain ⟨Z5, h5⟩ : ∃ z, Z4 + Z4 / 65536 = z := ⟨_, rfl⟩
  rw [h5] at f1 f2
  obtain ⟨Z6, h6⟩ : ∃ z, Z5 + Z5 / 4294967296 = z := ⟨_, rfl⟩
  rw [h6] at f1 f2
  have f1' : Z6 % 128 = csum X 64 := f1
  refine ⟨(Z1 : Nat), (Z2 : Nat), (Z3 : Nat), (Z4 : Nat), (Z5 : Nat), (Z6 : Nat), ?_, ?_, ?_, ?_, ?_, ?_, ?_, ?_⟩
  · have a1 := and_nat (a := X / 2) (b := 6148914691236517205) (by omega) (by omega)
    have a2 := and_nat (a := X) (b := 6148914691236517205) (by omega) (by omega)
    rw [show ((X / 2 : Nat) : Int) = (X : Int) / 2 by omega, show ((6148914691236517205 : Nat) : Int) = 6148914691236517205 by rfl] at a1
    rw [show ((6148914691236517205 : Nat) : Int) = 6148914691236517205 by rfl] at a2
    rw [a1, a2, wrap_id (by omega) (by omega)]
    omega
  · have a1 := and_nat (a := Z1 / 4) (b := 3689348814741910323) (by omega) (by omega)
    have a2 := and_nat (a := Z1) (b := 3689348814741910323) (by omega) (by omega)
    rw [show ((Z1 / 4 : Nat) : Int) = (Z1 : Int) / 4 by omega, show ((3689348814741910323 : Nat) : Int) = 3689348814741910323 by rfl] at a1
    rw [show ((3689348814741910323 : Nat) : Int) = 3689348814741910323 by rfl] at a2
    rw [a1, a2, wrap_id (by omega) (by omega)]
    omega
  · have a1 := and_nat (a := Z2 / 16 + Z2) (b := 1085102592571150095) (by omega) (by omega)
    rw [show ((Z2 / 16 + Z2 : Nat) : Int) = (Z2 : Int) / 16 + Z2 by omega, show ((1085102592571150095 : Nat) : Int) = 1085102592571150095 by rfl] at a1
    rw [wrap_id (by omega) (by omega), a1]
    omega
  · omega
  · omega
  · omega
  · rw [Go.i64_and127, Int.toNat_natCast]
    omega
  · omega
end Go.Proofs.Ytmhmnjeimjjipaa.Cn
