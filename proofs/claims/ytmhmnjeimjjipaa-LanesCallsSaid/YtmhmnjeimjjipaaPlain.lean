/-
  No statement of the seat is proved here. Squares of 64 rows of 64 bits, turned over by halves: plain laws on numbers. No condition.
-/
import Derived.Laws.BitsAllLaws
import Derived.IntWalk
namespace Go.Proofs.Ytmhmnjeimjjipaa.Ln

/-- The bit of a number. -/
def tb (x : Int) (c : Nat) : Bool := x.toNat.testBit c
/-- The number whose bits are told. -/
def bsum (p : Nat → Bool) : Nat → Nat
  | 0 => 0
  | n + 1 => bsum p n + if p n then 2 ^ n else 0
theorem bsum_lt (p : Nat → Bool) (n : Nat) : bsum p n < 2 ^ n := by
  induction n with
  | zero => simp [bsum]
  | succ n ih =>
    have : 2 ^ (n + 1) = 2 ^ n + 2 ^ n := by rw [Nat.pow_succ]; omega
    unfold bsum
    split <;> omega
theorem bsum_bit (p : Nat → Bool) (n c : Nat) : (bsum p n).testBit c = (decide (c < n) && p c) := by
  induction n with
  | zero => simp [bsum]
  | succ n ih =>
    have hl := bsum_lt p n
    unfold bsum
    split
    · rename_i hp
      rw [Nat.add_comm]
      by_cases hc : c = n
      · subst hc
        rw [Nat.testBit_two_pow_add_eq, Nat.testBit_lt_two_pow hl]
        simp [hp]
      · by_cases hlt : c < n
        · rw [Nat.testBit_two_pow_add_gt hlt, ih]
          simp [hlt, show c < n + 1 by omega]
        · rw [Nat.testBit_lt_two_pow]
          · simp [show ¬ c < n + 1 by omega]
          · have h1 : 2 ^ (n + 1) ≤ 2 ^ c := Nat.pow_le_pow_right (by omega) (by omega)
            have h2 : 2 ^ (n + 1) = 2 ^ n + 2 ^ n := by rw [Nat.pow_succ]; omega
            omega
    · rename_i hp
      rw [Nat.add_zero, ih]
      by_cases hc : c = n
      · subst hc; simp [hp]
      · by_cases hlt : c < n
        · simp [hlt, show c < n + 1 by omega]
        · simp [hlt, show ¬ c < n + 1 by omega]
/-- A square, turned over. -/
def trn (f : Nat → Int) (m : Nat) : Int := ((bsum (fun c => tb (f c) m) 64 : Nat) : Int)
theorem trn_bd (f : Nat → Int) (m : Nat) : 0 ≤ trn f m ∧ trn f m < 18446744073709551616 := by
  have := bsum_lt (fun c => tb (f c) m) 64
  unfold trn; omega
theorem tb_trn (f : Nat → Int) (m c : Nat) (hc : c < 64) : tb (trn f m) c = tb (f c) m := by
  unfold trn
  rw [tb, Int.toNat_natCast, bsum_bit]
  simp [hc]
theorem tb_high {x : Int} (hx : x < 18446744073709551616) {c : Nat} (hc : 64 ≤ c) : tb x c = false := by
  unfold tb
  apply Nat.testBit_lt_two_pow
  have : 2 ^ 64 ≤ 2 ^ c := Nat.pow_le_pow_right (by omega) hc
  omega
theorem eq_of_bits {x y : Int} (h0 : 0 ≤ x) (hx : x < 18446744073709551616) (k0 : 0 ≤ y) (hy : y < 18446744073709551616) (h : ∀ c, c < 64 → tb x c = tb y c) : x = y := by
  have : x.toNat = y.toNat := by
    apply Nat.eq_of_testBit_eq
    intro c
    by_cases hc : c < 64
    · exact h c hc
    · have h1 := tb_high hx (show 64 ≤ c by omega)
      have h2 := tb_high hy (show 64 ≤ c by omega)
      unfold tb at h1 h2
      rw [h1, h2]
  omega

/-! ### By halves -/
def stp : Nat → Int | 0 => 32 | 1 => 16 | 2 => 8 | 3 => 4 | 4 => 2 | 5 => 1 | _ => 0
def stn : Nat → Nat | 0 => 32 | 1 => 16 | 2 => 8 | 3 => 4 | 4 => 2 | _ => 1
def msk : Nat → Int | 0 => 4294967295 | 1 => 281470681808895 | 2 => 71777214294589695 | 3 => 1085102592571150095 | 4 => 3689348814741910323 | 5 => 6148914691236517205 | _ => 0
theorem msk_next : ∀ e, e < 6 → bits BinOp.xor IntKind.u64 (msk e) (IntKind.u64.wrap (msk e * 2 ^ (stp e / 2).toNat)) = msk (e + 1) := by decide +kernel
theorem stp_next : ∀ e, e < 6 → stp e / 2 = stp (e + 1) := by decide +kernel
theorem and_step : ∀ e, e < 6 → ∀ k, k < 64 → (bits BinOp.and IntKind.i64 (k : Nat) (stp e) != 0) = decide (k / stn e % 2 = 1) := by decide +kernel
theorem or_step : ∀ e, e < 6 → ∀ k, k < 64 → k / stn e % 2 = 0 → bits BinOp.or IntKind.i64 (k : Nat) (stp e) = ((k + stn e : Nat) : Int) := by decide +kernel
theorem msk_bit : ∀ e, e < 6 → ∀ c, c < 64 → tb (msk e) c = decide (c / stn e % 2 = 0) := by decide +kernel
theorem msk_bd : ∀ e, e < 6 → 0 ≤ msk e ∧ msk e < 18446744073709551616 := by decide +kernel
theorem stp_bd : ∀ e, e < 6 → 1 ≤ stp e ∧ stp e ≤ 32 := by decide +kernel
theorem stp_stn : ∀ e, e < 6 → (stp e).toNat = stn e := by decide +kernel
theorem stn_cases : ∀ e, e < 6 → stn e = 32 ∨ stn e = 16 ∨ stn e = 8 ∨ stn e = 4 ∨ stn e = 2 ∨ stn e = 1 := by decide +kernel

def nlo (L H M s : Int) : Int := bits BinOp.or IntKind.u64 (bits BinOp.and IntKind.u64 L M) (IntKind.u64.wrap (bits BinOp.and IntKind.u64 H M * 2 ^ s.toNat))
def nhi (L H M s : Int) : Int := bits BinOp.or IntKind.u64 (bits BinOp.and IntKind.u64 (L / 2 ^ s.toNat) M) (bits BinOp.andNot IntKind.u64 H M)
/-- A row's new value in round e. -/
def newv (e : Nat) (f : Nat → Int) (m : Nat) : Int := if m / stn e % 2 = 1 then nhi (f (m - stn e)) (f m) (msk e) (stp e) else nlo (f m) (f (m + stn e)) (msk e) (stp e)
/-- The rows when the pairs below k are done. -/
def part (e : Nat) (f : Nat → Int) (k m : Nat) : Int := if m - (m / stn e % 2) * stn e < k then newv e f m else f m

theorem part_zero (e : Nat) (f : Nat → Int) (m : Nat) : part e f 0 m = f m := by simp [part]
theorem part_all {e : Nat} {f : Nat → Int} {m : Nat} (hm : m < 64) : part e f 64 m = newv e f m := by unfold part; rw [if_pos (by omega)]
theorem part_skip {e : Nat} (he : e < 6) {f : Nat → Int} {k : Nat} (hk : k / stn e % 2 = 1) (m : Nat) : part e f (k + 1) m = part e f k m := by
  have h : (m - (m / stn e % 2) * stn e < k + 1) ↔ (m - (m / stn e % 2) * stn e < k) := by
    rcases stn_cases e he with h | h | h | h | h | h <;> rw [h] at hk ⊢ <;> omega
  unfold part
  by_cases hc : m - (m / stn e % 2) * stn e < k
  · rw [if_pos hc, if_pos (h.2 hc)]
  · rw [if_neg hc, if_neg (fun x => hc (h.1 x))]
theorem part_do {e : Nat} (he : e < 6) {f f' : Nat → Int} {k : Nat} (hk : k < 64) (h0 : k / stn e % 2 = 0) (hf : ∀ m, m < 64 → f' m = part e f k m) (m : Nat) (hm : m < 64) :
    (if m = k + stn e then nhi (f' k) (f' (k + stn e)) (msk e) (stp e) else if m = k then nlo (f' k) (f' (k + stn e)) (msk e) (stp e) else f' m) = part e f (k + 1) m := by
  have hk2 : k + stn e < 64 := by rcases stn_cases e he with h | h | h | h | h | h <;> rw [h] at h0 ⊢ <;> omega
  have e1 : f' k = f k := by
    rw [hf k hk, part, if_neg]
    rw [h0]; omega
  have b2 : (k + stn e) / stn e % 2 = 1 := by rcases stn_cases e he with h | h | h | h | h | h <;> rw [h] at h0 ⊢ <;> omega
  have e2 : f' (k + stn e) = f (k + stn e) := by
    rw [hf _ hk2, part, if_neg]
    rw [b2]; omega
  rw [e1, e2]
  by_cases c1 : m = k + stn e
  · subst c1
    rw [if_pos rfl, part, if_pos (by rw [b2]; omega), newv, if_pos b2, show k + stn e - stn e = k by omega]
  · rw [if_neg c1]
    by_cases c2 : m = k
    · subst c2
      rw [if_pos rfl, part, if_pos (by rw [h0]; omega), newv, if_neg (by omega)]
    · rw [if_neg c2, hf m hm]
      have h : (m - (m / stn e % 2) * stn e < k + 1) ↔ (m - (m / stn e % 2) * stn e < k) := by
        rcases stn_cases e he with h | h | h | h | h | h <;> rw [h] at h0 c1 ⊢ <;> omega
      unfold part
      by_cases hc : m - (m / stn e % 2) * stn e < k
      · rw [if_pos hc, if_pos (h.2 hc)]
      · rw [if_neg hc, if_neg (fun x => hc (h.1 x))]

/-! ### Bit by bit -/
theorem wrap_u64 (x : Int) : IntKind.u64.wrap x = x % 18446744073709551616 := by simp [IntKind.wrap, IntKind.bits, IntKind.signed]
theorem and_bd {x y : Int} (h0 : 0 ≤ x) (hx : x < 18446744073709551616) (k0 : 0 ≤ y) (hy : y < 18446744073709551616) : 0 ≤ bits BinOp.and IntKind.u64 x y ∧ bits BinOp.and IntKind.u64 x y < 18446744073709551616 ∧ ∀ c, tb (bits BinOp.and IntKind.u64 x y) c = (tb x c && tb y c) := by
  rw [u64_and x y h0 hx k0 hy]
  have : x.toNat &&& y.toNat < 2 ^ 64 := Nat.and_lt_two_pow _ (by omega)
  exact ⟨by omega, by omega, fun c => by simp [tb, Nat.testBit_and]⟩
theorem or_bd {x y : Int} (h0 : 0 ≤ x) (hx : x < 18446744073709551616) (k0 : 0 ≤ y) (hy : y < 18446744073709551616) : 0 ≤ bits BinOp.or IntKind.u64 x y ∧ bits BinOp.or IntKind.u64 x y < 18446744073709551616 ∧ ∀ c, tb (bits BinOp.or IntKind.u64 x y) c = (tb x c || tb y c) := by
  rw [u64_or x y h0 hx k0 hy]
  have : x.toNat ||| y.toNat < 2 ^ 64 := Nat.or_lt_two_pow (by omega) (by omega)
  exact ⟨by omega, by omega, fun c => by simp [tb, Nat.testBit_or]⟩
theorem andNot_bd {x y : Int} (h0 : 0 ≤ x) (hx : x < 18446744073709551616) (k0 : 0 ≤ y) (hy : y < 18446744073709551616) : 0 ≤ bits BinOp.andNot IntKind.u64 x y ∧ bits BinOp.andNot IntKind.u64 x y < 18446744073709551616 ∧ ∀ c, c < 64 → tb (bits BinOp.andNot IntKind.u64 x y) c = (tb x c && !tb y c) := by
  rw [u64_andNot x y h0 hx k0 hy]
  have : x.toNat &&& (18446744073709551615 - y.toNat) < 2 ^ 64 := Nat.and_lt_two_pow _ (by omega)
  refine ⟨by omega, by omega, fun c hc => ?_⟩
  have e : 18446744073709551615 - y.toNat = 2 ^ 64 - (y.toNat + 1) := by omega
  simp only [tb, Int.toNat_natCast, Nat.testBit_and, e]
  rw [Nat.testBit_two_pow_sub_succ (by omega)]
  simp [hc]
theorem shl_bd {x s : Int} (h0 : 0 ≤ x) : 0 ≤ IntKind.u64.wrap (x * 2 ^ s.toNat) ∧ IntKind.u64.wrap (x * 2 ^ s.toNat) < 18446744073709551616 ∧ ∀ c, c < 64 → tb (IntKind.u64.wrap (x * 2 ^ s.toNat)) c = (decide (s.toNat ≤ c) && tb x (c - s.toNat)) := by
  obtain ⟨X, rfl⟩ := Int.eq_ofNat_of_zero_le h0
  have e : IntKind.u64.wrap ((X : Int) * 2 ^ s.toNat) = ((X * 2 ^ s.toNat % 2 ^ 64 : Nat) : Int) := by
    rw [wrap_u64]; simp
  rw [e]
  have hm := Nat.mod_lt (X * 2 ^ s.toNat) (show 0 < 2 ^ 64 by decide)
  refine ⟨by omega, by omega, fun c hc => ?_⟩
  simp only [tb, Int.toNat_natCast]
  rw [Nat.testBit_mod_two_pow, ← Nat.shiftLeft_eq, Nat.testBit_shiftLeft]
  simp [hc]
theorem shr_bd {x s : Int} (h0 : 0 ≤ x) (hx : x < 18446744073709551616) : 0 ≤ x / 2 ^ s.toNat ∧ x / 2 ^ s.toNat < 18446744073709551616 ∧ ∀ c, tb (x / 2 ^ s.toNat) c = tb x (c + s.toNat) := by
  obtain ⟨X, rfl⟩ := Int.eq_ofNat_of_zero_le h0
  have e : (X : Int) / 2 ^ s.toNat = ((X / 2 ^ s.toNat : Nat) : Int) := by simp
  rw [e]
  have hd := Nat.div_le_self X (2 ^ s.toNat)
  refine ⟨Int.natCast_nonneg _, Int.lt_of_le_of_lt (Int.ofNat_le.2 hd) hx, fun c => ?_⟩
  simp only [tb, Int.toNat_natCast]
  rw [← Nat.shiftRight_eq_div_pow, Nat.testBit_shiftRight, Nat.add_comm]

theorem newv_bd {e : Nat} (he : e < 6) {f : Nat → Int} (hf : ∀ i, i < 64 → 0 ≤ f i ∧ f i < 18446744073709551616) {m : Nat} (hm : m < 64) : 0 ≤ newv e f m ∧ newv e f m < 18446744073709551616 ∧
    ∀ c, c < 64 → tb (newv e f m) c = tb (f (m - (m / stn e % 2) * stn e + (c / stn e % 2) * stn e)) (c - (c / stn e % 2) * stn e + (m / stn e % 2) * stn e) := by
  have hM := msk_bd e he
  have hss := stp_stn e he
  have hb := msk_bit e he
  unfold newv
  split
  · rename_i h1
    have hL := hf (m - stn e) (by omega)
    have hH := hf m hm
    have s1 := shr_bd (s := stp e) hL.1 hL.2
    have a1 := and_bd s1.1 s1.2.1 hM.1 hM.2
    have a2 := andNot_bd hH.1 hH.2 hM.1 hM.2
    have o := or_bd a1.1 a1.2.1 a2.1 a2.2.1
    refine ⟨o.1, o.2.1, fun c hc => ?_⟩
    show tb (bits BinOp.or IntKind.u64 (bits BinOp.and IntKind.u64 (f (m - stn e) / 2 ^ (stp e).toNat) (msk e)) (bits BinOp.andNot IntKind.u64 (f m) (msk e))) c = _
    rw [o.2.2, a1.2.2, s1.2.2, a2.2.2 c hc, hb c hc, hss, h1]
    by_cases hc0 : c / stn e % 2 = 0
    · simp [hc0]
    · have hc1 : c / stn e % 2 = 1 := by omega
      have hle : stn e ≤ m := by rcases stn_cases e he with h | h | h | h | h | h <;> rw [h] at h1 ⊢ <;> omega
      have hle2 : stn e ≤ c := by rcases stn_cases e he with h | h | h | h | h | h <;> rw [h] at hc1 ⊢ <;> omega
      simp [hc1, show m - stn e + stn e = m by omega, show c - stn e + stn e = c by omega]
  · rename_i h1
    have h0 : m / stn e % 2 = 0 := by omega
    have hm2 : m + stn e < 64 := by rcases stn_cases e he with h | h | h | h | h | h <;> rw [h] at h0 ⊢ <;> omega
    have hL := hf m hm
    have hH := hf (m + stn e) hm2
    have a1 := and_bd hL.1 hL.2 hM.1 hM.2
    have a2 := and_bd hH.1 hH.2 hM.1 hM.2
    have s1 := shl_bd (s := stp e) a2.1
    have o := or_bd a1.1 a1.2.1 s1.1 s1.2.1
    refine ⟨o.1, o.2.1, fun c hc => ?_⟩
    show tb (bits BinOp.or IntKind.u64 (bits BinOp.and IntKind.u64 (f m) (msk e)) (IntKind.u64.wrap (bits BinOp.and IntKind.u64 (f (m + stn e)) (msk e) * 2 ^ (stp e).toNat))) c = _
    rw [o.2.2, a1.2.2, s1.2.2 c hc, a2.2.2, hb c hc, hss, h0]
    by_cases hc0 : c / stn e % 2 = 0
    · have hmb : stn e ≤ c → (c - stn e) / stn e % 2 = 1 := by intro hle; rcases stn_cases e he with h | h | h | h | h | h <;> rw [h] at hc0 hle ⊢ <;> omega
      by_cases hle : stn e ≤ c
      · simp [hc0, hle, hb (c - stn e) (by omega), hmb hle]
      · simp [hc0, hle]
    · have hc1 : c / stn e % 2 = 1 := by omega
      have hle2 : stn e ≤ c := by rcases stn_cases e he with h | h | h | h | h | h <;> rw [h] at hc1 ⊢ <;> omega
      have hmb : (c - stn e) / stn e % 2 = 0 := by rcases stn_cases e he with h | h | h | h | h | h <;> rw [h] at hc1 hle2 ⊢ <;> omega
      simp [hc1, hle2, hb (c - stn e) (by omega), hmb]

def wdt : Nat → Nat | 0 => 64 | 1 => 32 | 2 => 16 | 3 => 8 | 4 => 4 | 5 => 2 | _ => 1
/-- The rows after e rounds. -/
structure Done (f : Nat → Int) (e : Nat) (h : Nat → Int) : Prop where
  bd : ∀ m, m < 64 → 0 ≤ h m ∧ h m < 18446744073709551616
  bit : ∀ m c, m < 64 → c < 64 → tb (h m) c = tb (f (c / wdt e * wdt e + m % wdt e)) (m / wdt e * wdt e + c % wdt e)
theorem done_zero {f : Nat → Int} (hf : ∀ i, i < 64 → 0 ≤ f i ∧ f i < 18446744073709551616) : Done f 0 f :=
  ⟨hf, fun m c hm hc => by
    rw [show wdt 0 = 64 by rfl, Nat.div_eq_of_lt hc, Nat.div_eq_of_lt hm, Nat.mod_eq_of_lt hc, Nat.mod_eq_of_lt hm]
    simp⟩
theorem wdt_stn : ∀ e, e < 6 → wdt e = 2 * stn e ∧ wdt (e + 1) = stn e := by decide +kernel
theorem done_next {f h h' : Nat → Int} {e : Nat} (he : e < 6) (d : Done f e h) (hh : ∀ m, m < 64 → h' m = newv e h m) : Done f (e + 1) h' := by
  refine ⟨fun m hm => ?_, fun m c hm hc => ?_⟩
  · rw [hh m hm]
    have := newv_bd he d.bd hm
    exact ⟨this.1, this.2.1⟩
  · rw [hh m hm, (newv_bd he d.bd hm).2.2 c hc]
    obtain ⟨w1, w2⟩ := wdt_stn e he
    have q1 : m - m / stn e % 2 * stn e + c / stn e % 2 * stn e < 64 := by rcases stn_cases e he with h | h | h | h | h | h <;> rw [h] <;> omega
    have q2 : c - c / stn e % 2 * stn e + m / stn e % 2 * stn e < 64 := by rcases stn_cases e he with h | h | h | h | h | h <;> rw [h] <;> omega
    rw [d.bit _ _ q1 q2, w1, w2]
    congr 1
    · congr 1
      rcases stn_cases e he with h | h | h | h | h | h <;> rw [h] <;> omega
    · rcases stn_cases e he with h | h | h | h | h | h <;> rw [h] <;> omega
theorem done_all {f h : Nat → Int} (d : Done f 6 h) (m : Nat) (hm : m < 64) : h m = trn f m := by
  have b := d.bd m hm
  have t := trn_bd f m
  refine eq_of_bits b.1 b.2 t.1 t.2 fun c hc => ?_
  rw [d.bit m c hm hc, tb_trn f m c hc, show wdt 6 = 1 by rfl, Nat.div_one, Nat.div_one, Nat.mod_one, Nat.mod_one, Nat.mul_one, Nat.mul_one]
  rfl

end Go.Proofs.Ytmhmnjeimjjipaa.Ln
