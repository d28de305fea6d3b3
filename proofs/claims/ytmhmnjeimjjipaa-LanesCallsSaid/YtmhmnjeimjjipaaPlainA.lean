/-
  No statement of the seat is proved here. Plain laws for LanesApart and LanesBack: lanes packed, put together, unpacked. No condition.
-/
import Derived.Test.YtmhmnjeimjjipaaPlainT
import Derived.Test.YtmhmnjeimjjipaaSet
set_option linter.unusedVariables false
namespace Go.Proofs.Ytmhmnjeimjjipaa.Ln
theorem xor_bd {x y : Int} (h0 : 0 ≤ x) (hx : x < 18446744073709551616) (k0 : 0 ≤ y) (hy : y < 18446744073709551616) : 0 ≤ bits BinOp.xor IntKind.u64 x y ∧ bits BinOp.xor IntKind.u64 x y < 18446744073709551616 ∧ ∀ c, tb (bits BinOp.xor IntKind.u64 x y) c = (tb x c ^^ tb y c) := by
  rw [u64_xor x y h0 hx k0 hy]
  have : x.toNat ^^^ y.toNat < 2 ^ 64 := Nat.xor_lt_two_pow (by omega) (by omega)
  exact ⟨by omega, by omega, fun c => by simp [tb, Nat.testBit_xor]⟩
theorem tb_zero (c : Nat) : tb 0 c = false := by simp [tb]
theorem tb_past {x : Int} {n c : Nat} (h0 : 0 ≤ x) (hx : x < Wd.pw n) (hc : n ≤ c) : tb x c = false := by
  unfold tb
  apply Nat.testBit_lt_two_pow
  have h1 : 2 ^ n ≤ 2 ^ c := Nat.pow_le_pow_right (by omega) hc
  have h2 := Wd.pw_nat (n : Int)
  rw [Int.toNat_natCast] at h2
  omega
theorem lt_64 {x : Int} {n : Nat} (n2 : n ≤ 64) (hx : x < Wd.pw n) : x < 18446744073709551616 := by
  have := Wd.pw_le (n := (n : Int)) (by omega)
  omega
theorem tb_packed {k : Nat} {F : Nat → Int} {i : Nat} (hi : i < k) (k3 : k ≤ 64) (c : Nat) : tb (trn (over k F fun _ => 0) c) i = tb (F i) c := by
  rw [tb_trn _ c i (by omega), over, if_pos hi]
theorem apart_law {n k : Nat} (k3 : k ≤ 64) (n2 : n ≤ 64) {F H C : Nat → Int} (hF : ∀ c, 0 ≤ F c ∧ F c < Wd.pw n) (hH : ∀ c, 0 ≤ H c ∧ H c < Wd.pw n)
    (hC : ∀ c, c < n → C c = bits BinOp.or IntKind.u64 (bits BinOp.andNot IntKind.u64 (trn (over k F fun _ => 0) c) (trn (over k H fun _ => 0) c)) (bits BinOp.andNot IntKind.u64 (trn (over k H fun _ => 0) c) (trn (over k F fun _ => 0) c)))
    (i : Nat) (hi : i < k) : trn (over n C fun _ => 0) i = bits BinOp.xor IntKind.u64 (F i) (H i) := by
  have o := trn_bd (over n C fun _ => 0) i
  have f1 := lt_64 n2 (hF i).2
  have h1 := lt_64 n2 (hH i).2
  have x := xor_bd (hF i).1 f1 (hH i).1 h1
  refine eq_of_bits o.1 o.2 x.1 x.2.1 fun c hc => ?_
  rw [tb_trn _ i c hc, x.2.2 c]
  by_cases e : c < n
  · have p := trn_bd (over k F fun _ => 0) c
    have q := trn_bd (over k H fun _ => 0) c
    have a := andNot_bd p.1 p.2 q.1 q.2
    have b := andNot_bd q.1 q.2 p.1 p.2
    rw [over, if_pos e, hC c e, (or_bd a.1 a.2.1 b.1 b.2.1).2.2 i, a.2.2 i (by omega), b.2.2 i (by omega), tb_packed hi k3, tb_packed hi k3]
    cases tb (F i) c <;> cases tb (H i) c <;> rfl
  · rw [over, if_neg e, tb_zero, tb_past (hF i).1 (hF i).2 (by omega), tb_past (hH i).1 (hH i).2 (by omega)]
    rfl
/-- A number, cut by the mask. -/
theorem mask_bd {n : Nat} (n1 : 1 ≤ n) (n2 : n ≤ 64) {x : Int} (h0 : 0 ≤ x) (hx : x < 18446744073709551616) : 0 ≤ bits BinOp.and IntKind.u64 x (Wd.pw n - 1) ∧ bits BinOp.and IntKind.u64 x (Wd.pw n - 1) < Wd.pw n := by
  rw [Wd.cut_mask h0 hx (by omega)]
  exact Wd.cut_bd x
theorem mask_is {n : Nat} (n1 : 1 ≤ n) (n2 : n ≤ 64) : (18446744073709551615 : Int) / 2 ^ (64 - n) = Wd.pw n - 1 := by
  rw [← Wd.ones_eq (n := n) (by omega) (by omega)]
  unfold Wd.pw
  rw [show ((64 : Int) - (n : Int)).toNat = 64 - n by omega]
theorem fits_of {n m : Nat} (n1 : 1 ≤ n) (n2 : n ≤ 64) {F : Nat → Int} (hF : ∀ c, 0 ≤ F c ∧ F c < Wd.pw n) : Wd.fitsV n m F = true := by
  have hm : Wd.may false false n = true := by simp [Wd.may]; omega
  simp only [Wd.fitsV, Wd.isw, hm, Bool.true_and, decide_eq_true_eq]
  exact fun j _ => (hF j).2
end Go.Proofs.Ytmhmnjeimjjipaa.Ln
namespace Go.Proofs.Ytmhmnjeimjjipaa
open Go Go.RowKit
variable {base : Nat} {w : World} {A : Option Addr} {n : Nat} {f : Nat → Int}
theorem Own.other {b : Nat} (h : Own w b n f) {p : Addr} (hp : p.block ≠ b) (v : Value) : Own (w.setCell p v) b n f := by
  refine ⟨by rw [World.size_setCell]; exact h.1, fun k hk => ⟨?_, by rw [World.frozen?_setCell]; exact (h.2 k hk).2⟩⟩
  rw [World.cell?_setCell_other _ _ _ _ (fun he => hp (by rw [he])), (h.2 k hk).1]
theorem Own.mine {b : Nat} (h : Own w b n f) (hb : base ≤ b) : Mine base w (some ⟨b, 0, none⟩) n f := .inr ⟨b, rfl, hb, h⟩
/-- Two rows lie apart. -/
def Apart (A B : Option Addr) : Prop := ∀ b b', A = some ⟨b, 0, none⟩ → B = some ⟨b', 0, none⟩ → b ≠ b'
theorem apart_of {w' : World} {B : Option Addr} {m : Nat} {h : Nat → Int} (hA : Mine base w A n f) (hB : Mine w.heap.size w' B m h) : Apart A B := by
  intro b b' e e'
  rcases hA with ⟨ha, _⟩ | ⟨c, hc, _, ho⟩
  · rw [ha] at e; cases e
  · rcases hB with ⟨hb, _⟩ | ⟨c', hc', hge, _⟩
    · rw [hb] at e'; cases e'
    · rw [hc] at e; rw [hc'] at e'
      injection e with e; injection e with e
      injection e' with e'; injection e' with e'
      have := ho.1
      omega
end Go.Proofs.Ytmhmnjeimjjipaa
