/-
  No statement of the seat is proved here. Contracts of the document's own Lane and Pack, for every row of words.
-/
import Derived.Test.YtmhmnjeimjjipaaRefC
import Derived.Deep.CutBlock
import Derived.Deep.RegionWith
namespace Go.Proofs.Ytmhmnjeimjjipaa
open Go Go.RowKit
set_option linter.unusedVariables false
namespace Ln
theorem psum_add (f : Nat → Int) {k : Nat} (hk : k < 64) (m : Nat) : IntKind.u64.wrap (psum f k m + IntKind.u64.wrap (b01 (f k) m * 2 ^ k)) = psum f (k + 1) m := by
  have h1 := psum_bd f (i := k + 1) (by omega) m
  have h2 := psum_next f k m
  have h0 := psum_bd f (i := k) (by omega) m
  have hb : 0 ≤ b01 (f k) m * 2 ^ k := Int.mul_nonneg (b01_bd _ _).1 (Int.le_of_lt (Int.pow_pos (by omega)))
  rw [wrap_u64, wrap_u64, Int.emod_eq_of_lt hb (by omega), h2, Int.emod_eq_of_lt h1.1 h1.2]
theorem rpart_do' {n : Nat} {f h' : Nat → Int} {k m : Nat} (hk : k < 64) (hm : m < n) (hQ : ∀ c, c < n → h' c = rpart f k m c) (c : Nat) (hc : c < n) :
    (if c = m then IntKind.u64.wrap (h' m + IntKind.u64.wrap (b01 (f k) m * 2 ^ k)) else h' c) = rpart f k (m + 1) c := by
  have h3 := hQ m hm
  rw [rpart, if_neg (by omega)] at h3
  by_cases e : c = m
  · subst e
    rw [if_pos rfl, rpart, if_pos (by omega), h3, psum_add f hk]
  · rw [if_neg e, hQ c hc]
    unfold rpart
    by_cases hlt : c < m
    · rw [if_pos hlt, if_pos (by omega)]
    · rw [if_neg hlt, if_neg (by omega)]
end Ln
set_option maxHeartbeats 1000000 in
theorem rlane_ok (A : Option Addr) (m c : Nat) (f : Nat → Int) (l : Nat) (w : World) (hN : Nums w A m f) (hb : ∀ k, 0 ≤ f k ∧ f k < 18446744073709551616) (hv : Wd.okLane m l = true) :
    Calls Try.prog 18 #[.slice A m c, .int .i64 l] w (Ret w (.tuple #[.int .u64 (Ln.trn (over m f fun _ => 0) l), .int .i64 0])) := by
  have hm : 1 ≤ (m : Int) ∧ (m : Int) ≤ 64 := by simp only [Wd.okLane, Bool.and_eq_true, decide_eq_true_eq] at hv; exact Wd.may_bd hv.1
  have hl : l < 64 := by simp only [Wd.okLane, Bool.and_eq_true, decide_eq_true_eq] at hv; omega
  have m1 : 1 ≤ m := by omega
  have m2 : m ≤ 64 := by omega
  have HN := Lib.hid hN
  have HB := Lib.hid hb
  clear hN hb hv hm
  go_enter Try.func18, Try.ntmps18
  go_wp2_with fail
  go_loopw [6, 7] (fun x i wr => ∃ (k : Nat) (g : Grow), k ≤ m ∧ i = .int .i64 k ∧ x = .int .u64 (Ln.psum (over m f fun _ => 0) k l) ∧ wr = more w g) (fun _ i _ => m - (intOf i).toNat)
  case atStart => exact ⟨0, ⟨#[], w.drawn⟩, Nat.zero_le _, rfl, rfl, by simp [more]⟩
  case round =>
    obtain ⟨k, g1, hk, rfl, rfl, rfl⟩ := hrel
    by_cases hlt : k < m
    · obtain ⟨b1, o1, rfl, hb1, hc1⟩ := HN.out k hlt
      have hbx := HB.out k
      have hps := Ln.psum_bd (over m f fun _ => 0) (i := k) (by omega) l
      have hov : over m f (fun _ => 0) k = f k := by simp [over, hlt]
      have hS := Ln.psum_add (over m f fun _ => 0) (k := k) (by omega) l
      rw [hov] at hS
      clear hov
      have hbb := Ln.b01_bd (f k) l
      have h2 := Ln.two_bd (k := k) (by omega)
      have HBit := Lib.hid (bit_any (f k) l hbx.1 hbx.2 (by omega))
      have HOne := Lib.hid (one_any k (by omega))
      obtain ⟨z, hz⟩ : ∃ z, Ln.psum (over m f fun _ => 0) (k + 1) l = z := ⟨_, rfl⟩
      rw [hz] at hS
      have Hz := Lib.hid hz
      clear hz
      generalize Ln.psum (over m f fun _ => 0) k l = y at *
      generalize Ln.b01 (f k) l = bb at *
      generalize (2 : Int) ^ k = p at *
      generalize f k = x at *
      go_wp2_with (first
        | (go_at_call 26; refine (HBit.out _).mono ?_; rintro e w' ⟨rfl, g2, rfl⟩)
        | (go_at_call 27; refine (HOne.out _).mono ?_; rintro e w' ⟨rfl, g3, rfl⟩))
      go_roundw
      case rel => exact ⟨k + 1, _, by omega, by go_num, by rw [Hz.out], rfl⟩
      case measure => simp [intOf]; omega
    · obtain rfl : k = m := by omega
      go_wp2_with fail
      go_ret2
      exact Ret.mk' (by rw [← Ln.psum_pad f k l m2]; rfl) ((Later.refl _).more _)
theorem rlane_no (A : Option Addr) (m c : Nat) (l : Int) (w : World) (hm : m ≤ 9223372036854775807) (hv : Wd.okLane m l = false) :
    Calls Try.prog 18 #[.slice A m c, .int .i64 l] w (Ret w (.tuple #[.int .u64 0, .int .i64 1])) := by
  by_cases a : m < 1
  · go_enter Try.func18, Try.ntmps18
    go_wp2_with fail
    go_ret2
    exact Ret.mk (Later.refl _)
  by_cases b : 64 < m
  · go_enter Try.func18, Try.ntmps18
    go_wp2_with fail
    go_ret2
    exact Ret.mk (Later.refl _)
  by_cases d : l < 0
  · go_enter Try.func18, Try.ntmps18
    go_wp2_with fail
    go_ret2
    exact Ret.mk (Later.refl _)
  have d2 : 63 < l := by
    simp only [Wd.okLane, Wd.may, cond_false, Bool.and_eq_false_iff, decide_eq_false_iff_not] at hv
    omega
  clear hv
  go_enter Try.func18, Try.ntmps18
  go_wp2_with fail
  go_ret2
  exact Ret.mk (Later.refl _)

/-- What the document's Pack leaves. -/
def RPost (w : World) (n m : Nat) (f : Nat → Int) (e : Ending) (w' : World) : Prop :=
  (Wd.fitsV n m f = true → RetSE w n (Ln.trn (over m f fun _ => 0)) 0 e w') ∧ (Wd.fitsV n m f = false → Ret w (.tuple #[.slice none 0 0, .int .i64 1]) e w')
theorem fits_bad {n m k : Nat} {f : Nat → Int} (hk : k < m) (h : Wd.isw false false n (f k) = false) : Wd.fitsV n m f = false := by
  rw [Wd.fitsV, Bool.and_eq_false_iff]
  right
  simp only [decide_eq_false_iff_not]
  intro h2
  rw [h2 k hk] at h
  cases h
theorem fits_all {n m : Nat} {f : Nat → Int} (n1 : 1 ≤ n) (n2 : n ≤ 64) (h : ∀ j, j < m → Wd.isw false false n (f j) = true) : Wd.fitsV n m f = true := by
  have hm : Wd.may false false n = true := by simp [Wd.may]; omega
  simp only [Wd.fitsV, hm, Bool.true_and, decide_eq_true_eq]
  exact h
set_option maxHeartbeats 4000000 in
theorem rpack_in (n : Nat) (A : Option Addr) (m c : Nat) (f : Nat → Int) (w : World) (n1 : 1 ≤ n) (n2 : n ≤ 64) (hm : m ≤ 64) (hN : Nums w A m f) (hb : ∀ k, 0 ≤ f k ∧ f k < 18446744073709551616) :
    Calls Try.prog 15 #[.int .i64 n, .slice A m c] w (RPost w n m f) := by
  have HN := Lib.hid hN
  have HB := Lib.hid hb
  obtain ⟨i0, hi, hz0, hz1, hz2⟩ := info_parts (P := Try.prog) (e := 22) (z := .int .u64 0) (size := 1) (bytes := 8) (by kernel_rfl)
  clear hN hb
  go_enter Try.func15, Try.ntmps15
  go_wp2_with (first
    | (at_make; refine wpList_make_full _ rfl _ _ 29 rfl 0 22 i0 (.int .u64 0) 1 Try.underlying29 hi hz0 hz1 .i64 .i64 _ _ n rfl rfl rfl rfl (by rw [hz2]; omega) (by unfold maxLen; omega) (Nat.zero_le _) ?_; intro w2 hown hgrow))
  obtain ⟨b, c', hbc, _, hO⟩ := Own.of_row (f := fun _ => 0) hown (made_at n) (by simp)
  have hb : w.heap.size = b := by injection hbc with hb; injection hb with hb; injection hb
  clear hbc
  subst hb
  have HL := Lib.hid (Later.of_grown hgrow)
  obtain ⟨b, hb⟩ : ∃ b, w.heap.size = b := ⟨_, rfl⟩
  have hge : w.heap.size ≤ b := by omega
  rw [hb] at hO ⊢
  clear hown hgrow hb
  have HO := Lib.hid hO
  clear hO hz0 hz1 hz2 hi
  go_loopw [7, 8] (fun i _ wr => ∃ (k : Nat) (h : Nat → Int), k ≤ m ∧ i = .int .i64 k ∧ Hid (∀ j, j < k → Wd.isw false false n (f j) = true) ∧ Hid (∀ c, c < n → h c = Ln.psum (over m f fun _ => 0) k c) ∧ Hid (Own wr b n h) ∧ Hid (Later w wr)) (fun i _ _ => m - (intOf i).toNat)
  case atStart => exact ⟨0, _, Nat.zero_le _, rfl, Lib.hid (fun j hj => by omega), Lib.hid (fun c hc => rfl), HO, HL⟩
  case round =>
    obtain ⟨k, h, hk, rfl, hA, hP, hO, hL⟩ := hrel
    by_cases hlt : k < m
    · obtain ⟨b1, o1, rfl, hb1, hc1⟩ := HN.out.later hL.out k hlt
      have hbx := HB.out k
      cases hw : Wd.isw false false n (f k)
      · have HF := Lib.hid (rfits_is hw hbx.1 hbx.2)
        have Hbad := Lib.hid (fits_bad hlt hw)
        clear hw
        generalize f k = x at *
        go_wp2_with (first
          | (go_at_call 29; refine (HF.out _).mono ?_; rintro e w' ⟨rfl, g2, rfl⟩))
        go_ret2
        exact ⟨(fun h => by rw [Hbad.out] at h; cases h), fun _ => ⟨rfl, hL.out.more _⟩⟩
      · have HF := Lib.hid (rfits_is hw hbx.1 hbx.2)
        have Hw := Lib.hid hw
        clear hw
        obtain ⟨x, hx⟩ : ∃ x, f k = x := ⟨_, rfl⟩
        rw [hx] at hc1 hbx HF
        have Hx := Lib.hid hx
        clear hx
        go_wp2_with (first
          | (go_at_call 29; refine (HF.out _).mono ?_; rintro e w' ⟨rfl, g2, rfl⟩))
        have hO0 := Lib.hid (hO.out.later ((Later.refl _).more g2))
        have hL0 := Lib.hid (hL.out.more g2)
        have hov : over m f (fun _ => 0) k = x := by rw [← Hx.out]; simp [over, hlt]
        have Hov := Lib.hid hov
        have hlb := HN.out.later hL0.out k hlt
        have Hlb := Lib.hid hlb
        clear hov hlb hL hO hb1 hc1
        generalize more wr g2 = wo at *
        clear HF
        go_loopw [8] (fun j wq => ∃ (i : Nat) (h' : Nat → Int), i ≤ n ∧ j = .int .i64 i ∧ Hid (∀ c, c < n → h' c = Ln.rpart (over m f fun _ => 0) k i c) ∧ Hid (Own wq b n h') ∧ Hid (Later w wq)) (fun j _ => n - (intOf j).toNat)
        case atStart => exact ⟨0, h, Nat.zero_le _, rfl, Lib.hid (fun c hc => by rw [hP.out c hc]; rfl), hO0, hL0⟩
        case round =>
          obtain ⟨i, h', hi, rfl, hQ, hO', hL'⟩ := hrel
          by_cases hin : i < n
          · obtain ⟨b2, o2, hbb, hb1, hc1⟩ := HN.out.later hL'.out k hlt
            injection hbb with hbb
            injection hbb with hbb1 hbb2
            subst hbb1 hbb2
            rw [Hx.out] at hc1
            have x5 := (hO'.out.2 i hin).1
            have f5 := (hO'.out.2 i hin).2
            have l5 := hO'.out.1
            have hbb := Ln.b01_bd x i
            have h2 := Ln.two_bd (k := k) (by omega)
            have HBit := Lib.hid (bit_any x i hbx.1 hbx.2 (by omega))
            have HOne := Lib.hid (one_any k (by omega))
            have hdo := Lib.hid (fun c hc => Ln.rpart_do' (n := n) (f := over m f fun _ => 0) (k := k) (by omega) hin hQ.out c hc)
            rw [Hov.out] at hdo
            go_upto_region 12 with fail
            go_region_with (first
              | (go_at_call 26; refine (HBit.out _).mono ?_; rintro e w' ⟨rfl, g3, rfl⟩)
              | (go_at_call 27; refine (HOne.out _).mono ?_; rintro e w' ⟨rfl, g4, rfl⟩))
            all_goals
              clear hbb h2 hbx x5 f5 hc1
              go_wp2_with fail
              go_roundw
              case rel => exact ⟨i + 1, _, by omega, by go_num, hdo, Lib.hid ((hO'.out.set hin _).later ((Later.refl _).more _)), Lib.hid ((hL'.out.setCell hge _).more _)⟩
              case measure => simp [intOf]; omega
          · obtain rfl : n = i := by omega
            go_wp2_with fail
            go_roundw
            case rel => exact ⟨k + 1, h', by omega, by go_num, Lib.hid (fun j hj => by by_cases e : j = k; · rw [e]; exact Hw.out
                                                                                       · exact hA.out j (by omega)), Lib.hid (fun c hc => by rw [hQ.out c hc, Ln.rpart, if_pos hc]), hO', hL'⟩
            case measure => simp [intOf]; omega
    · obtain rfl : m = k := by omega
      have Hfit := Lib.hid (fits_all n1 n2 hA.out)
      go_wp2_with fail
      go_ret2
      exact ⟨fun _ => ⟨_, _, rfl, hL.out, .inr ⟨b, rfl, hge, hO.out.congr fun c hc => by rw [hP.out c hc, Ln.psum_pad f m c hm]⟩⟩, fun h => by rw [Hfit.out] at h; cases h⟩
theorem rpack_ok (n : Nat) (A : Option Addr) (m c : Nat) (f : Nat → Int) (w : World) (hm : m ≤ 64) (hN : Nums w A m f) (hb : ∀ k, 0 ≤ f k ∧ f k < 18446744073709551616) (hv : Wd.fitsV n m f = true) :
    Calls Try.prog 15 #[.int .i64 n, .slice A m c] w (RetSE w n (Ln.trn (over m f fun _ => 0)) 0) := by
  obtain ⟨n1, n2, _⟩ := fits_may hv
  exact (rpack_in n A m c f w (by omega) (by omega) hm hN hb).mono fun e w' h => h.1 hv
theorem rpack_no (n : Int) (A : Option Addr) (m c : Nat) (f : Nat → Int) (w : World) (hm : m ≤ 9223372036854775807) (hN : Nums w A m f) (hb : ∀ k, 0 ≤ f k ∧ f k < 18446744073709551616) (hv : Wd.fitsV n m f = false ∨ 64 < m) :
    Calls Try.prog 15 #[.int .i64 n, .slice A m c] w (Ret w (.tuple #[.slice none 0 0, .int .i64 1])) := by
  by_cases a : n < 1
  · go_enter Try.func15, Try.ntmps15
    go_wp2_with fail
    go_ret2
    exact Ret.mk (Later.refl _)
  by_cases b : 64 < n
  · go_enter Try.func15, Try.ntmps15
    go_wp2_with fail
    go_ret2
    exact Ret.mk (Later.refl _)
  by_cases d : 64 < m
  · go_enter Try.func15, Try.ntmps15
    go_wp2_with fail
    go_ret2
    exact Ret.mk (Later.refl _)
  obtain ⟨k, rfl⟩ := Int.eq_ofNat_of_zero_le (show 0 ≤ n by omega)
  exact (rpack_in k A m c f w (by omega) (by omega) (by omega) hN hb).mono fun e w' h => h.2 (hv.resolve_right d)
end Go.Proofs.Ytmhmnjeimjjipaa
