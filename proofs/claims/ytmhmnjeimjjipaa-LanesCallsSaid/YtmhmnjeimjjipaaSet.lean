/-
  No statement of the seat is proved here. Contracts of lanes.Set, Unpack, for every row of words.
-/
import Derived.Test.YtmhmnjeimjjipaaLane
namespace Go.Proofs.Ytmhmnjeimjjipaa
open Go Go.RowKit
set_option linter.unusedVariables false

set_option maxHeartbeats 2000000 in
theorem set_ok (A : Option Addr) (m c : Nat) (f : Nat → Int) (l : Nat) (x : Int) (w : World) (hN : Nums w A m f) (hz : ∀ a, A = some a → a.spot = none) (hb : ∀ k, 0 ≤ f k ∧ f k < 18446744073709551616) (h0 : 0 ≤ x) (h1 : x < 18446744073709551616)
    (hv : Wd.okLane m l = true) (hf : Wd.fitsV m 1 (fun _ => x) = true) :
    Calls Try.prog 19 #[.slice A m c, .int .i64 l, .int .u64 x] w (RetSE w m (fun i => Ln.setB (f i) (Ln.tb x i) l) 0) := by
  have hm : 1 ≤ (m : Int) ∧ (m : Int) ≤ 64 := by simp only [Wd.okLane, Bool.and_eq_true, decide_eq_true_eq] at hv; exact Wd.may_bd hv.1
  have hl : l < 64 := by simp only [Wd.okLane, Bool.and_eq_true, decide_eq_true_eq] at hv; omega
  have m1 : 1 ≤ m := by omega
  have m2 : m ≤ 64 := by omega
  have HN := Lib.hid hN
  have HB := Lib.hid hb
  have HV := Lib.hid hv
  have HZ := Lib.hid hz
  have HFit := Lib.hid hf
  clear hN hb hv hz hm hf
  go_enter Try.func19, Try.ntmps19
  go_wp2_with (first
    | (go_at_call 30; refine (is_lane_is HV.out _ (by omega)).mono ?_; rintro e w1 ⟨rfl, hL1⟩)
    | (go_at_call 28; refine (fits_is HFit.out (fun _ => ⟨h0, h1⟩) (by omega) _ (nums_one _ _ _)).mono ?_; rintro e w2 ⟨rfl, hL2⟩)
    | (go_at_call 12; refine (clone_any A m c f _ (HN.out.later (hL1.trans (((Later.refl _).alloc _).trans hL2))) (by omega) HZ.out).mono ?_; rintro e w3 ⟨A3, c3, rfl, hL3, hM3⟩))
  rcases hM3 with ⟨_, h⟩ | ⟨b, rfl, hge, hO⟩
  · omega
  have hL := hL1.trans ((((Later.refl _).alloc _).trans hL2).trans hL3)
  have hge : w.heap.size ≤ b := by have := hL1.below.size; have := hL2.below.size; simp at this; omega
  have HL := Lib.hid hL
  have HO := Lib.hid hO
  clear hL1 hL2 hL3 hL hO
  go_loopw [9, 26] (fun _ i wr => ∃ (k : Nat) (h : Nat → Int), k ≤ m ∧ i = .int .i64 k ∧ Hid (∀ c, c < m → h c = if c < k then Ln.setB (f c) (Ln.tb x c) l else f c) ∧ Hid (Own wr b m h) ∧ Hid (Later w wr)) (fun _ i _ => m - (intOf i).toNat)
  case atStart => exact ⟨0, _, Nat.zero_le _, rfl, Lib.hid (fun c hc => by simp), HO, HL⟩
  case round =>
    obtain ⟨k, h, hk, rfl, hP, hO, hL⟩ := hrel
    by_cases hlt : k < m
    · have hcell := (hO.out.2 k hlt).1
      have hfro := (hO.out.2 k hlt).2
      have hbx := HB.out k
      have hst := Ln.set_step hbx.1 hbx.2 h0 h1 k l hl
      rw [Int.one_mul] at hst
      have HS := Lib.hid hst
      clear hst
      have hhk : h k = f k := by rw [hP.out k hlt, if_neg (by omega)]
      rw [hhk] at hcell
      clear hhk
      obtain ⟨y, HY⟩ : ∃ y, Hid (f k = y) := ⟨_, Lib.hid rfl⟩
      rw [HY.out] at hcell hbx HS
      go_upto_region 7 with fail
      go_region_with (fail)
      all_goals
        go_wp2_with fail
        go_roundw
        case rel =>
          refine ⟨k + 1, _, by omega, by go_num, ?_, Lib.hid ((hO.out.set hlt _).later ((Later.refl _).drew)), Lib.hid ((hL.out.setCell hge _).drew)⟩
          refine Lib.hid fun c hc => ?_
          by_cases e : c = k
          · subst e; rw [if_pos rfl, if_pos (by omega)]; rw [HY.out]; exact HS.out
          · rw [if_neg e, hP.out c hc]
            by_cases e2 : c < k
            · rw [if_pos e2, if_pos (by omega)]
            · rw [if_neg e2, if_neg (by omega)]
        case measure => simp [intOf]; omega
    · obtain rfl : k = m := by omega
      go_wp2_with fail
      go_ret2
      exact ⟨_, _, rfl, hL.out, .inr ⟨b, rfl, hge, hO.out.congr fun c hc => by rw [hP.out c hc, if_pos hc]⟩⟩
theorem results_cell_tmp {fn : Func} {p t' : Tmp} (h : fn.results = #[.cell p 23, .tmp t']) (tmps : Array Value) (w : World) (g : Nat) (t : TypeId) (cs : Array Value) (fr : Nat × Nat)
    (hp : tmps.getD p undef = .pointer (some ⟨g, 0, none⟩)) (hg : w.heap[g]? = some (.cells cs t fr)) (hi : (Try.prog.info? 23).map (·.size) = some cs.size) :
    (results fn tmps).run Try.prog w = .ok (.tuple #[.agg cs, tmps.getD t' undef]) w := by
  have hp' : tmps[p]?.getD undef = .pointer (some ⟨g, 0, none⟩) := by simpa using hp
  have hr := run_loadVar_row (P := Try.prog) w g t 23 cs fr (.array 64 22) hg row23 rfl hi
  simp [results, h, hp', asAddr, hr]
theorem unpack_ok (A : Option Addr) (m c : Nat) (f : Nat → Int) (w : World) (hN : Nums w A m f) (hz : ∀ a, A = some a → a.spot = none) (hb : ∀ k, 0 ≤ f k ∧ f k < 18446744073709551616) (hv : Wd.may false false m = true) :
    Calls Try.prog 14 #[.slice A m c] w (Ret w (.tuple #[.agg (arr (Ln.trn (over m f fun _ => 0))), .int .i64 0])) := by
  have hm := Wd.may_bd hv
  have m1 : 1 ≤ m := by omega
  have m2 : m ≤ 64 := by omega
  have HN := Lib.hid hN
  have HB := Lib.hid hb
  have HV := Lib.hid hv
  have HZ := Lib.hid hz
  clear hN hb hv hz hm
  go_enter Try.func14, Try.ntmps14
  set_option maxRecDepth 8000 in
  go_wp2_with (first
    | (go_at_call 28; refine (fits_nil HV.out _).mono ?_; rintro e w1 ⟨rfl, g, rfl⟩)
    | (refine wpList_copy_sq rfl _ _ rfl _ _ _ _ _ rfl rfl HZ.out (fun _ => 0) ?_ f ?_ m2 ?_; exact (more_heap_lt _ _ _ (by simp)).trans (heap_alloc2_new _ _ _); exact HN.out.later ((((Later.refl _).alloc _).alloc _).more _))
    | (go_at_call 9; refine (turn_any _ (fun i _ => over_bd HB.out (fun _ => by omega) i) _).mono ?_; rintro e w2 ⟨rfl, g, rfl⟩))
  refine bodyPost_ret (results_cell_tmp rfl _ _ w.heap.size 23 (arr _) (0, 0) rfl ?_ (by rw [size23, arr_size])) rfl (Ret.mk (((((Later.refl _).alloc _).alloc _).more _)))
  rw [more_heap_lt _ _ _ (by simp; omega), Below.heap_alloc _ _ _ (by simp)]
  exact heap_alloc_new _ _
theorem unpack_no (A : Option Addr) (m c : Nat) (w : World) (hv : Wd.may false false m = false) :
    Calls Try.prog 14 #[.slice A m c] w (Ret w (.tuple #[.agg (arr fun _ => 0), .int .i64 1])) := by
  go_enter Try.func14, Try.ntmps14
  set_option maxRecDepth 8000 in
  go_wp2_with (first
    | (go_at_call 28; refine (fits_nil hv _).mono ?_; rintro e w1 ⟨rfl, g, rfl⟩))
  refine bodyPost_ret (results_cell_tmp rfl _ _ w.heap.size 23 (arr _) (0, 0) rfl ?_ (by rw [size23, arr_size])) rfl (Ret.mk (((((Later.refl _).alloc _).alloc _).more _)))
  rw [more_heap_lt _ _ _ (by simp; omega), Below.heap_alloc _ _ _ (by simp)]
  exact heap_alloc_new _ _
theorem set_no (A : Option Addr) (m c : Nat) (l : Int) (x : Int) (w : World) (hm : m ≤ 9223372036854775807) (h0 : 0 ≤ x) (h1 : x < 18446744073709551616)
    (hv : Wd.okLane m l = false ∨ Wd.fitsV m 1 (fun _ => x) = false) :
    Calls Try.prog 19 #[.slice A m c, .int .i64 l, .int .u64 x] w (Ret w (.tuple #[.slice none 0 0, .int .i64 1])) := by
  cases hv1 : Wd.okLane m l
  · clear hv
    go_enter Try.func19, Try.ntmps19
    go_wp2_with (first
      | (go_at_call 30; refine (is_lane_is hv1 _ (by omega)).mono ?_; rintro e w1 ⟨rfl, hL1⟩))
    go_ret2
    exact ⟨rfl, hL1⟩
  · have hv2 : Wd.fitsV m 1 (fun _ => x) = false := by rcases hv with h | h; · rw [h] at hv1; cases hv1
                                                       · exact h
    have HFit := Lib.hid hv2
    clear hv hv2
    go_enter Try.func19, Try.ntmps19
    go_wp2_with (first
      | (go_at_call 30; refine (is_lane_is hv1 _ (by omega)).mono ?_; rintro e w1 ⟨rfl, hL1⟩)
      | (go_at_call 28; refine (fits_is HFit.out (fun _ => ⟨h0, h1⟩) (by omega) _ (nums_one _ _ _)).mono ?_; rintro e w2 ⟨rfl, hL2⟩))
    go_ret2
    exact ⟨rfl, hL1.trans (((Later.refl _).alloc _).trans hL2)⟩
end Go.Proofs.Ytmhmnjeimjjipaa
