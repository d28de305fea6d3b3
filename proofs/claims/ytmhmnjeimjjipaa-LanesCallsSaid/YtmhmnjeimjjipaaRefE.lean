/-
  No statement of the seat is proved here. Contracts of the document's own Unpack, Set and Fill, for every row of words.
-/
import Derived.Test.YtmhmnjeimjjipaaRefD
import Derived.Test.YtmhmnjeimjjipaaPlainB
import Derived.Test.YtmhmnjeimjjipaaSq
import Derived.Handy
import Derived.Maps.AppendAt
namespace Go.Proofs.Ytmhmnjeimjjipaa
open Go Go.RowKit
set_option linter.unusedVariables false
namespace Ln
theorem trn_over_lt {m : Nat} (hm : m ≤ 64) (f : Nat → Int) (k : Nat) : trn (over m f fun _ => 0) k < Wd.pw m := by
  rw [← psum_pad f m k hm, psum, Wd.pw_nat, Int.toNat_natCast]
  have := bsum_lt (fun c => tb (over m f (fun _ => 0) c) k) m
  omega
/-- The document's way to set a lane. -/
theorem rset_law {m l : Nat} (hm : m ≤ 64) (hl : l < 64) {f : Nat → Int} (hf : ∀ k, 0 ≤ f k ∧ f k < 18446744073709551616) {x : Int} (i : Nat) (hi : i < m) :
    trn (over 64 (fun k => if k = l then x else trn (over m f fun _ => 0) k) fun _ => 0) i = setB (f i) (tb x i) l := by
  have o := trn_bd (over 64 (fun k => if k = l then x else trn (over m f fun _ => 0) k) fun _ => 0) i
  have s := setB_bd (f i) (tb x i) l
  refine eq_of_bits o.1 o.2 s.1 s.2 fun c hc => ?_
  rw [tb_trn _ i c hc, tb_setB _ _ _ _ hc, over, if_pos hc]
  by_cases e : c = l
  · rw [if_pos e, if_pos e]
  · rw [if_neg e, if_neg e, tb_trn _ c i (by omega), over, if_pos hi]
theorem rfill_law (x : Int) (i : Nat) : trn (over 64 (fun _ => x) fun _ => 0) i = fillV x i := by
  have o := trn_bd (over 64 (fun _ => x) fun _ => 0) i
  have h : 0 ≤ fillV x i ∧ fillV x i < 18446744073709551616 := by unfold fillV; split <;> omega
  refine eq_of_bits o.1 o.2 h.1 h.2 fun c hc => ?_
  rw [tb_trn _ i c hc, over, if_pos hc]
  unfold fillV
  cases tb x i
  · simp [tb]
  · simp only [if_true]
    unfold tb
    rw [show (18446744073709551615 : Int).toNat = 2 ^ 64 - 1 by decide, Nat.testBit_two_pow_sub_one]
    simp [hc]
end Ln
theorem fits_one (n : Int) (x : Int) : Wd.fitsV n 1 (fun _ => x) = Wd.isw false false n x := by
  rw [Wd.fitsV, Wd.isw]
  cases Wd.may false false n
  · rfl
  · simp
theorem ownBlock_ge {w : World} {base : Nat} {e : TypeId} {size : Nat} {v : Value} {n : Nat} {xs : List Value} (h : w.ownsRow base e size v n xs) : ∀ k, v.ownBlock = some k → base ≤ k := by
  intro k hk
  rcases h.2 with ⟨rfl, _⟩ | ⟨g, cap, cur, rfl, hg, _⟩
  · cases hk
  · injection hk with hk; rw [← hk]; exact hg
set_option maxHeartbeats 2000000 in
theorem runpack_ok (A : Option Addr) (m c : Nat) (f : Nat → Int) (w : World) (hN : Nums w A m f) (hb : ∀ k, 0 ≤ f k ∧ f k < 18446744073709551616) (hv : Wd.may false false m = true) :
    Calls Try.prog 16 #[.slice A m c] w (Ret w (.tuple #[.agg (arr (Ln.trn (over m f fun _ => 0))), .int .i64 0])) := by
  have HN := Lib.hid hN
  have HLn : Hid (∀ k w, k < 64 → Nums w A m f → Calls Try.prog 18 #[.slice A m c, .int .i64 (k : Nat)] w (Ret w (.tuple #[.int .u64 (Ln.trn (over m f fun _ => 0) k), .int .i64 0]))) := Lib.hid fun k w hk hN => rlane_ok A m c f k w hN hb (by rw [Wd.okLane, hv]; simp; omega)
  generalize Ln.trn (over m f fun _ => 0) = T at *
  clear hN hb hv
  go_enter Try.func16, Try.ntmps16
  go_wp2_with fail
  go_loopw [5, 6, 7] (fun i _ _ wr => ∃ (k : Nat) (h : Nat → Int) (g : Grow), k ≤ 64 ∧ i = .int .i64 k ∧ Hid (∀ c, c < 64 → h c = if c < k then T c else 0) ∧ wr = more ((w.alloc (.cells (arr fun _ => 0) 23)).alloc (.cells (arr h) 23)) g) (fun i _ _ _ => 64 - (intOf i).toNat)
  case atStart => exact ⟨0, fun _ => 0, ⟨#[], _⟩, by omega, rfl, Lib.hid (fun c hc => by simp), by simp [more]; rfl⟩
  case round =>
    obtain ⟨k, h, g, hk, rfl, hP, rfl⟩ := hrel
    by_cases hlt : k < 64
    · have HC := Lib.hid (HLn.out k _ hlt (HN.out.later ((((Later.refl w).alloc (.cells (arr fun _ => 0) 23)).alloc (.cells (arr h) 23)).more g)))
      obtain ⟨x, hx⟩ : ∃ x, T k = x := ⟨_, rfl⟩
      rw [hx] at HC
      have Hx := Lib.hid hx.symm
      clear hx
      go_wp2_with (first
        | (go_at_call 18; refine HC.out.mono ?_; rintro e w' ⟨rfl, g2, rfl⟩))
      go_roundw
      case rel =>
        refine ⟨k + 1, _, _, by omega, by go_num, ?_, rfl⟩
        refine Lib.hid fun c hc => ?_
        by_cases e : c = k
        · subst e; rw [if_pos rfl, if_pos (by omega)]; exact Hx.out
        · rw [if_neg e, hP.out c hc]
          by_cases e2 : c < k
          · rw [if_pos e2, if_pos (by omega)]
          · rw [if_neg e2, if_neg (by omega)]
      case measure => simp [intOf]; omega
    · obtain rfl : k = 64 := by omega
      have HR := Lib.hid (arr_congr (f := h) (h := T) (fun c hc => by rw [hP.out c hc, if_pos hc]))
      set_option maxRecDepth 8000 in
      go_wp2_with fail
      refine bodyPost_ret (results_cell_tmp rfl _ _ w.heap.size 23 (arr h) (0, 0) rfl ?_ (by rw [size23, arr_size])) rfl (Ret.mk' (by rw [HR.out]; rfl) (((((Later.refl _).alloc _).alloc _).more _)))
      rw [more_heap_lt _ _ _ (by simp; omega), Below.heap_alloc _ _ _ (by simp)]
      exact heap_alloc_new _ _
theorem runpack_no (A : Option Addr) (m c : Nat) (w : World) (hm : m ≤ 9223372036854775807) (hv : Wd.may false false m = false) :
    Calls Try.prog 16 #[.slice A m c] w (Ret w (.tuple #[.agg (arr fun _ => 0), .int .i64 1])) := by
  have HC := fun w => rlane_no A m c 0 w hm (by rw [Wd.okLane, hv]; rfl)
  have HC' := Lib.hid HC
  clear HC hv
  go_enter Try.func16, Try.ntmps16
  go_wp2_with fail
  refine wp_loop_rounds 1 ?_
  rw [rounds_succ]
  set_option maxRecDepth 8000 in
  go_wp2_with (first
    | (go_at_call 18; refine (HC'.out _).mono ?_; rintro e w' ⟨rfl, g2, rfl⟩))
  refine bodyPost_ret (results_cell_tmp rfl _ _ w.heap.size 23 (arr _) (0, 0) rfl ?_ (by rw [size23, arr_size])) rfl (Ret.mk (((((Later.refl _).alloc _).alloc _).more _)))
  rw [more_heap_lt _ _ _ (by simp; omega), Below.heap_alloc _ _ _ (by simp)]
  exact heap_alloc_new _ _
set_option maxHeartbeats 2000000 in
theorem rset_ok (A : Option Addr) (m c : Nat) (f : Nat → Int) (l : Nat) (x : Int) (w : World) (hN : Nums w A m f) (hb : ∀ k, 0 ≤ f k ∧ f k < 18446744073709551616) (h0 : 0 ≤ x) (h1 : x < 18446744073709551616)
    (hv : Wd.okLane m l = true) (hf : Wd.fitsV m 1 (fun _ => x) = true) :
    Calls Try.prog 20 #[.slice A m c, .int .i64 l, .int .u64 x] w (RetSE w m (fun i => Ln.setB (f i) (Ln.tb x i) l) 0) := by
  have hmay : Wd.may false false m = true := by simp only [Wd.okLane, Bool.and_eq_true] at hv; exact hv.1
  have hm := Wd.may_bd hmay
  have hl : l < 64 := by simp only [Wd.okLane, Bool.and_eq_true, decide_eq_true_eq] at hv; omega
  have m1 : 1 ≤ m := by omega
  have m2 : m ≤ 64 := by omega
  rw [fits_one] at hf
  have hx := Wd.isw_lt hf
  have HN := Lib.hid hN
  have H18 := Lib.hid (fun w hN => rlane_ok A m c f l w hN hb hv)
  have H16 := Lib.hid (fun w hN => runpack_ok A m c f w hN hb hmay)
  have H29 := Lib.hid (fun w => rfits_is hf h0 h1 w)
  obtain ⟨g, hg⟩ : ∃ g : Nat → Int, (fun k => if k = l then x else Ln.trn (over m f fun _ => 0) k) = g := ⟨_, rfl⟩
  have hgb : ∀ k, 0 ≤ g k ∧ g k < Wd.pw m := fun k => by
    rw [← hg]
    show 0 ≤ (if k = l then x else Ln.trn (over m f fun _ => 0) k) ∧ (if k = l then x else Ln.trn (over m f fun _ => 0) k) < Wd.pw m
    split
    · exact ⟨h0, hx⟩
    · exact ⟨(Ln.trn_bd _ k).1, Ln.trn_over_lt m2 f k⟩
  have hg64 : ∀ k, 0 ≤ g k ∧ g k < 18446744073709551616 := fun k => ⟨(hgb k).1, Ln.lt_64 m2 (hgb k).2⟩
  have hlaw : ∀ i, i < m → Ln.trn (over 64 g fun _ => 0) i = Ln.setB (f i) (Ln.tb x i) l := fun i hi => by rw [← hg]; exact Ln.rset_law m2 hl hb i hi
  have H15 := Lib.hid (fun A c w hN => rpack_ok m A 64 c g w (by omega) hN hg64 (Ln.fits_of m1 m2 hgb))
  have Hlaw := Lib.hid hlaw
  have Hg := Lib.hid hg
  clear hN hb hv hf hmay hm hgb hg64 hlaw hg hx
  generalize Ln.trn (over m f fun _ => 0) = T at *
  go_enter Try.func20, Try.ntmps20
  go_wp2_with (first
    | (go_at_call 18; refine (H18.out _ HN.out).mono ?_; rintro e w1 ⟨rfl, g1, rfl⟩)
    | (go_at_call 29; refine (H29.out _).mono ?_; rintro e w2 ⟨rfl, g2, rfl⟩)
    | (go_at_call 16; refine (H16.out _ (HN.out.later ((Later.refl _).more _))).mono ?_; rintro e w3 ⟨rfl, hL3⟩)
    | (go_at_call 15; refine (H15.out (some ⟨w3.heap.size, 0, none⟩) 64 _ (((Sq.new w3 (fun k => if k = l then x else T k)).congr (fun i _ => congrFun Hg.out i)).nums (by omega))).mono ?_; rintro e w4 ⟨A4, c4, rfl, hL4, hM4⟩))
  go_ret2
  have hL := (((Later.refl w).more _).trans hL3).trans (((Later.refl _).alloc _).trans hL4)
  have hs := (((Later.refl w).more _).trans hL3).below.size
  exact ⟨A4, c4, rfl, hL, (hM4.base (by simp; omega)).congr Hlaw.out⟩
theorem rset_no (A : Option Addr) (m c : Nat) (f : Nat → Int) (l : Int) (x : Int) (w : World) (hm : m ≤ 9223372036854775807) (hN : Nums w A m f) (hb : ∀ k, 0 ≤ f k ∧ f k < 18446744073709551616) (h0 : 0 ≤ x) (h1 : x < 18446744073709551616)
    (hv : Wd.okLane m l = false ∨ Wd.fitsV m 1 (fun _ => x) = false) :
    Calls Try.prog 20 #[.slice A m c, .int .i64 l, .int .u64 x] w (Ret w (.tuple #[.slice none 0 0, .int .i64 1])) := by
  cases hv1 : Wd.okLane m l
  · have H18 := Lib.hid (fun w => rlane_no A m c l w hm hv1)
    clear hv hv1 hN hb
    go_enter Try.func20, Try.ntmps20
    go_wp2_with (first
      | (go_at_call 18; refine (H18.out _).mono ?_; rintro e w1 ⟨rfl, g1, rfl⟩))
    go_ret2
    exact Ret.mk ((Later.refl _).more _)
  · have hv2 : Wd.isw false false m x = false := by rw [← fits_one]; exact hv.resolve_left (by rw [hv1]; simp)
    obtain ⟨k, rfl⟩ : ∃ k : Nat, l = k := Int.eq_ofNat_of_zero_le (by simp only [Wd.okLane, Bool.and_eq_true, decide_eq_true_eq] at hv1; omega)
    have HN := Lib.hid hN
    have H18 := Lib.hid (fun w hN => rlane_ok A m c f k w hN hb hv1)
    have H29 := Lib.hid (fun w => rfits_is hv2 h0 h1 w)
    clear hN hb hv hv1 hv2
    generalize Ln.trn (over m f fun _ => 0) = T at *
    go_enter Try.func20, Try.ntmps20
    go_wp2_with (first
      | (go_at_call 18; refine (H18.out _ HN.out).mono ?_; rintro e w1 ⟨rfl, g1, rfl⟩)
      | (go_at_call 29; refine (H29.out _).mono ?_; rintro e w2 ⟨rfl, g2, rfl⟩))
    go_ret2
    exact Ret.mk ((Later.refl _).more _)
set_option maxHeartbeats 1000000 in
/-- The loop of Fill: 64 times the same. -/
theorem rfill_any (n : Int) (x : Int) (w : World) (R : Ending → World → Prop)
    (HR : ∀ b c w1, Later w w1 → Own w1 b 64 (fun _ => x) → w.heap.size ≤ b → Calls Try.prog 15 #[.int .i64 n, .slice (some ⟨b, 0, none⟩) 64 c] w1 (fun e w' => ∃ v er, e = .returned (.tuple #[v, er]) ∧ R e w')) :
    Calls Try.prog 22 #[.int .i64 n, .int .u64 x] w R := by
  obtain ⟨i0, hi, hz0, hz1, hz2⟩ := info_parts (P := Try.prog) (e := 22) (z := .int .u64 0) (size := 1) (bytes := 8) (by kernel_rfl)
  have HR' := Lib.hid HR
  clear HR
  go_enter Try.func22, Try.ntmps22
  go_wp2_with fail
  go_loopw [6, 7] (fun v i wr => ∃ (k : Nat), k ≤ 64 ∧ i = .int .i64 k ∧ Hid (wr.ownsRow w.heap.size 22 1 v k (List.replicate k (.int .u64 x))) ∧ Hid (Below w.heap.size w wr)) (fun _ i _ => 64 - (intOf i).toNat)
  case atStart => exact ⟨0, by omega, rfl, Lib.hid (World.ownsRow_nil _ _ _ _), Lib.hid (Below.refl _ _)⟩
  case round =>
    obtain ⟨k, hk, rfl, hO, hB⟩ := hrel
    by_cases hlt : k < 64
    · have hsz := hB.out.size
      go_wp2_with (first
        | (at_builtin; refine wpList_append_own _ rfl _ _ 29 rfl w.heap.size 22 i0 (.int .u64 0) 1 8 Try.underlying29 hi hz0 hz1 hz2 rfl (by decide) _ _ _ rfl (hO.out.alloc _) ⟨wr.heap.size, 0, none⟩ 1 1 [.int .u64 x] rfl rfl (cell_one_new _ _ _) (fun x hx => by simp at hx; subst hx; rfl) (by unfold maxLen; omega) (by omega) (by simp; omega) ?_; intro v' w3 hown' hgrow3 hnil3))
      have hB3 : Below w.heap.size w w3 := (hB.out.alloc hsz _).grown hgrow3 (by simp; omega) (fun g hg => ownBlock_ge hO.out g hg)
      go_roundw
      case rel => exact ⟨k + 1, by omega, by go_num, Lib.hid (by rw [List.replicate_succ']; exact hown'), Lib.hid hB3⟩
      case measure => simp [intOf]; omega
    · obtain rfl : k = 64 := by omega
      have hne : u6 ≠ Value.slice none 0 0 := by
        intro he
        rcases hO.out.2 with ⟨_, h⟩ | ⟨_, _, _, h, _⟩
        · omega
        · rw [he] at h; cases h
      obtain ⟨b, c, rfl, hbb, hown⟩ := Own.of_row (f := fun _ => x) hO.out (fun k hk => by rw [List.getElem?_replicate, if_pos hk]) hne
      have HC := Lib.hid (HR'.out b c wr (Later.of_below hB.out) hown hbb)
      clear hne hown
      go_wp2_with fail
      refine HC.out.mono ?_
      rintro e w4 ⟨v4, er, rfl, hR⟩
      go_wp2_with fail
      exact hR
theorem rfill_ok (n : Nat) (x : Int) (w : World) (h0 : 0 ≤ x) (h1 : x < 18446744073709551616) (hv : Wd.fitsV n 1 (fun _ => x) = true) :
    Calls Try.prog 22 #[.int .i64 n, .int .u64 x] w (RetSE w n (Ln.fillV x) 0) := by
  obtain ⟨n1, n2, _⟩ := fits_may hv
  rw [fits_one] at hv
  refine rfill_any n x w _ fun b c w1 hL hO hb => ?_
  refine (rpack_ok n (some ⟨b, 0, none⟩) 64 c (fun _ => x) w1 (by omega) hO.nums (fun _ => ⟨h0, h1⟩) (fits_all (by omega) (by omega) fun _ _ => hv)).mono ?_
  rintro e w' ⟨A, c', rfl, hL', hM⟩
  exact ⟨_, _, rfl, A, c', rfl, hL.trans hL', (hM.base hL.below.size).congr fun i _ => Ln.rfill_law x i⟩
theorem rfill_no (n : Int) (x : Int) (w : World) (h0 : 0 ≤ x) (h1 : x < 18446744073709551616) (hv : Wd.fitsV n 1 (fun _ => x) = false) :
    Calls Try.prog 22 #[.int .i64 n, .int .u64 x] w (Ret w (.tuple #[.slice none 0 0, .int .i64 1])) := by
  refine rfill_any n x w _ fun b c w1 hL hO hb => ?_
  have hbad : Wd.fitsV n 64 (fun _ => x) = false := by
    rw [fits_one, Wd.isw] at hv
    rw [Wd.fitsV]
    cases hm : Wd.may false false n
    · rfl
    · rw [hm] at hv
      simp only [Bool.true_and, decide_eq_false_iff_not] at hv ⊢
      intro h
      have := Wd.isw_lt (h 0 (by omega))
      exact hv this
  refine (rpack_no n (some ⟨b, 0, none⟩) 64 c (fun _ => x) w1 (by omega) hO.nums (fun _ => ⟨h0, h1⟩) (.inl hbad)).mono ?_
  rintro e w' ⟨rfl, hL'⟩
  exact ⟨_, _, rfl, rfl, hL.trans hL'⟩
end Go.Proofs.Ytmhmnjeimjjipaa
