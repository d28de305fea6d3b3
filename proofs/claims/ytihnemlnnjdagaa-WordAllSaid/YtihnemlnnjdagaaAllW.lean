/-
  No statement of the seat is proved here. The walk of the law WordAll.
-/
import Derived.Test.YtihnemlnnjdagaaRowG
import Derived.Test.YtihnemlnnjdagaaWakes
import Derived.Laws.Cover1
namespace Go.Proofs.Ytihnemlnnjdagaa
open Go Go.RowKit Bt
set_option linter.unusedVariables false
/-- A row of numbers that came in. -/
def UNums (w : World) (A : Option Addr) (n : Nat) (f : Nat → Int) : Prop := ∀ k, k < n → ∃ b off, A = some ⟨b, off, none⟩ ∧ b < w.heap.size ∧ w.cell? ⟨b, off + k, none⟩ = some (.int .u64 (f k))
theorem UNums.later {w w' : World} {A : Option Addr} {n : Nat} {f : Nat → Int} (h : UNums w A n f) (hl : Later w w') : UNums w' A n f := by
  obtain ⟨g, rfl⟩ := hl
  intro k hk
  obtain ⟨b, off, hA, hb, hc⟩ := h k hk
  exact ⟨b, off, hA, by rw [more_size]; omega, by rw [more_cell _ _ _ _ hb]; exact hc⟩
/-- A row of numbers of the call's own. -/
def UOwn (w : World) (b n : Nat) (f : Nat → Int) : Prop :=
  b < w.heap.size ∧ ∀ k, k < n → w.cell? ⟨b, k, none⟩ = some (.int .u64 (f k)) ∧ w.frozen? ⟨b, k, none⟩ = false
theorem UOwn.set {w : World} {b n : Nat} {f : Nat → Int} (h : UOwn w b n f) {i : Nat} (hi : i < n) (x : Int) : UOwn (w.setCell ⟨b, i, none⟩ (.int .u64 x)) b n (fun k => if k = i then x else f k) := by
  refine ⟨by rw [World.size_setCell]; exact h.1, fun k hk => ⟨?_, by rw [World.frozen?_setCell]; exact (h.2 k hk).2⟩⟩
  by_cases e : k = i
  · subst e
    rw [World.cell?_setCell_same _ _ _ (h.2 k hk).1]
    simp
  · rw [World.cell?_setCell_other _ _ _ _ (fun he => e (by injection he with h1 h2; exact h2.symm)), (h.2 k hk).1]
    simp [e]
theorem UOwn.later {w w' : World} {b n : Nat} {f : Nat → Int} (h : UOwn w b n f) (hl : Later w w') : UOwn w' b n f := by
  obtain ⟨g, rfl⟩ := hl
  exact ⟨by rw [more_size]; have := h.1; omega, fun k hk => ⟨by rw [more_cell _ _ _ _ h.1]; exact (h.2 k hk).1, by rw [more_frozen _ _ _ _ h.1]; exact (h.2 k hk).2⟩⟩
theorem UOwn.congr {w : World} {b n : Nat} {f h : Nat → Int} (H : UOwn w b n f) (e : ∀ k, k < n → f k = h k) : UOwn w b n h :=
  ⟨H.1, fun k hk => by rw [← e k hk]; exact H.2 k hk⟩
theorem UOwn.of_row {w : World} {base n : Nat} {e : TypeId} {v : Value} {f : Nat → Int} {xs : List Value} (h : w.ownsRow base e 1 v n xs) (hx : ∀ k, k < n → xs[k]? = some (.int .u64 (f k))) (hv : v ≠ .slice none 0 0) :
    ∃ b c, v = .slice (some ⟨b, 0, none⟩) n c ∧ base ≤ b ∧ UOwn w b n f := by
  obtain ⟨hl, h | ⟨g, cap, cur, rfl, hb, hg, hn, hm, hs, ht⟩⟩ := h
  · exact absurd h.1 hv
  · refine ⟨g, cap, rfl, hb, (Array.getElem?_eq_some_iff.1 hg).1, fun k hk => ⟨?_, ?_⟩⟩
    · have h1 := hx k hk
      rw [← ht, List.getElem?_take] at h1
      rw [if_pos (by omega)] at h1
      unfold World.cell?
      simp only [hg]
      simpa using h1
    · unfold World.frozen?
      simp only [hg]
      simp
theorem umade_at (n : Nat) : ∀ k, k < n → (madeCells (Value.int .u64 0).cells (n * 1)).toList[k]? = some (.int .u64 0) := by
  intro k hk
  rw [Nat.mul_one, show (Value.int .u64 0).cells = #[.int .u64 0] from rfl, toList_madeCells_one]
  simp [hk]
/-- As a list. -/
theorem UOwn.list {w : World} {b n : Nat} {f : Nat → Int} (h : UOwn w b n f) : Nums w (some ⟨b, 0, none⟩) ((List.range n).map f) := by
  intro k hk
  simp only [List.length_map, List.length_range] at hk
  refine ⟨b, 0, rfl, h.1, ?_⟩
  rw [Nat.zero_add, (h.2 k hk).1, List.getD_eq_getElem?_getD, List.getElem?_map, List.getElem?_range hk]
  rfl
theorem list_bd {n : Nat} {f : Nat → Int} (hf : ∀ k, 0 ≤ f k ∧ f k < 18446744073709551616) (k : Nat) : 0 ≤ ((List.range n).map f).getD k 0 ∧ ((List.range n).map f).getD k 0 < 18446744073709551616 := by
  rw [List.getD_eq_getElem?_getD, List.getElem?_map]
  by_cases hk : k < n
  · rw [List.getElem?_range hk]; exact hf k
  · rw [List.getElem?_eq_none (by simpa using hk)]; simp
theorem run_min30 {k x : Nat} (h : k = min x 30) (ts : Array TypeId) (t : TypeId) (w : World) : (Builtin.min_ ts t #[.int .i64 x, .int .i64 30]).run Try.prog w = .ok (.int .i64 k) w := by
  rw [run_min_int2]
  congr 2
  subst h
  repeat' split
  all_goals omega
set_option maxRecDepth 100000 in
set_option maxHeartbeats 4000000 in
theorem all_walk (b s : Bool) (n op : Int) (A : Option Addr) (la ca : Nat) (f : Nat → Int) (w : World) (hA : UNums w A la f) (lA : la ≤ ca) (mA : ca ≤ 9223372036854775807) (hf : ∀ k, 0 ≤ f k ∧ f k < 18446744073709551616) :
    Calls Try.prog 6 #[.agg #[.bool b, .bool s, .int .i64 n], .int .i64 op, .slice A la ca] w (Ret w (.bool true)) := by
  obtain ⟨m, hk⟩ : ∃ k, k = min la 30 := ⟨_, rfl⟩
  have hmin : min (la : Int) 30 = (m : Int) := by omega
  have hmif : (if (30 : Int) < (la : Int) then (30 : Int) else (la : Int)) = (m : Int) := by split <;> omega
  have k1 : m ≤ la := by omega
  have k3 : m ≤ 30 := by omega
  have k4 : m ≤ ca := by omega
  clear hk
  obtain ⟨cc, hcb, hcc⟩ := cut_both b s n
  have HCb := Lib.hid hcb
  have HCc := Lib.hid hcc
  have HA := Lib.hid hA
  have HF := Lib.hid hf
  obtain ⟨i0, hi, hz0, hz1, hz2⟩ := info_parts (P := Try.prog) (e := 24) (z := .int .u64 0) (size := 1) (bytes := 8) (by kernel_rfl)
  obtain ⟨F, hF⟩ : ∃ F : Nat → Int, ∀ k, F k = if f k % 64 = 63 then f k else cc (f k) := ⟨_, fun _ => rfl⟩
  have bF : ∀ k, 0 ≤ F k ∧ F k < 18446744073709551616 := fun k => by
    rw [hF]
    have h1 := hf k
    have h2 := hcb (f k) h1.1 h1.2
    split <;> assumption
  obtain ⟨v, e, h19, h20⟩ := all_both b s n op ((List.range m).map F) (by simp; omega) (list_bd bF)
  have hlen : ((List.range m).map F).length = m := by simp
  rw [hlen] at h19 h20
  have H19 := Lib.hid h19
  have H20 := Lib.hid h20
  have HFd := Lib.hid hF
  clear h19 h20 hF bF hlen hcb hcc hA hf
  go_enter Try.func6, Try.ntmps6
  go_wp2_with (first
    | (at_make; refine wpList_make_full _ rfl _ _ 42 rfl 0 24 i0 (.int .u64 0) 1 Try.underlying42 hi hz0 hz1 .i64 .i64 _ _ m rfl rfl rfl rfl (by rw [hz2]; omega) (by unfold maxLen; omega) (Nat.zero_le _) ?_; intro w2 hown hgrow))
  obtain ⟨bo, c', hbc, _, hO⟩ := UOwn.of_row (f := fun _ => 0) hown (umade_at m) (by simp)
  have hb : (w.alloc (.cells #[.bool b, .bool s, .int .i64 n] 23)).heap.size = bo := by injection hbc with hb; injection hb with hb; injection hb
  clear hbc
  have hb2 : w.heap.size + 1 = bo := by rw [← hb]; simp
  subst hb2
  have HL := Lib.hid (Later.of_grown hgrow)
  have HO := Lib.hid hO
  obtain ⟨bo, hb3⟩ : ∃ b, w.heap.size + 1 = b := ⟨_, rfl⟩
  have hge : w.heap.size + 1 ≤ bo := by omega
  rw [hb3] at HO ⊢
  clear hown hgrow hO hb hb3 hmin hmif hz0 hz1 hz2 hi
  go_loopw [8, 9, 24] (fun _ _ i wr => ∃ (k : Nat) (h : Nat → Int), k ≤ m ∧ i = .int .i64 k ∧ Hid (∀ c, c < m → h c = if c < k then F c else 0) ∧ Hid (UOwn wr bo m h) ∧ Hid (Later (w.alloc (.cells #[.bool b, .bool s, .int .i64 n] 23)) wr)) (fun _ _ i _ => m - (intOf i).toNat)
  case atStart => exact ⟨0, _, Nat.zero_le _, rfl, Lib.hid (fun c hc => by simp), HO, HL⟩
  case round =>
    obtain ⟨k, h, hk, rfl, hP, hO, hL⟩ := hrel
    have q0 := cell_later hL.out 0 _ rfl
    have q1 := cell_later hL.out 1 _ rfl
    have q2 := cell_later hL.out 2 _ rfl
    by_cases hlt : k < m
    · obtain ⟨b1, o1, rfl, hb1, hc1⟩ := (HA.out.later (((Later.refl w).alloc _).trans hL.out)) k (by omega)
      have hbx := HF.out k
      have l5 := hO.out.1
      have x5 := (hO.out.2 k hlt).1
      have f5 := (hO.out.2 k hlt).2
      have hFk := HFd.out k
      have HC := Lib.hid (fun w => HCc.out (f k) w hbx.1 hbx.2)
      by_cases ht : f k % 64 = 63
      · have hx5 : (f k % 64 == 63) = true := by rw [beq_iff_eq]; exact ht
        rw [if_pos ht] at hFk
        have HFk := Lib.hid hFk
        clear hFk ht
        generalize cc (f k) = y at *
        generalize f k = x at *
        go_wp2_with (first
          | (go_at_call 18; refine (HC.out _).mono ?_; rintro e w' ⟨rfl, g2, rfl⟩))
        go_roundw
        case rel =>
          refine ⟨k + 1, _, by omega, by go_num, ?_, Lib.hid (((hO.out.set hlt _).set hlt _).later ((Later.refl _).more _)), Lib.hid (((hL.out.setCell (by simp; omega) _).setCell (by simp; omega) _).more _)⟩
          refine Lib.hid fun c hc => ?_
          have hs := step_row hP.out HFk.out.symm c hc
          by_cases e : c = k
          · rw [if_pos e] at hs ⊢; exact hs
          · rw [if_neg e] at hs ⊢; rw [if_neg e]; exact hs
        case measure => simp [intOf]; omega
      · have hx5 : (f k % 64 == 63) = false := by rw [beq_eq_false_iff_ne]; exact ht
        rw [if_neg ht] at hFk
        have HFk := Lib.hid hFk
        clear hFk ht
        generalize cc (f k) = y at *
        generalize f k = x at *
        go_wp2_with (first
          | (go_at_call 18; refine (HC.out _).mono ?_; rintro e w' ⟨rfl, g2, rfl⟩))
        go_roundw
        case rel =>
          exact ⟨k + 1, _, by omega, by go_num, Lib.hid (fun c hc => step_row hP.out HFk.out.symm c hc), Lib.hid ((hO.out.set hlt _).later ((Later.refl _).more _)), Lib.hid ((hL.out.setCell (by simp; omega) _).more _)⟩
        case measure => simp [intOf]; omega
    · obtain rfl : m = k := by omega
      have HOw := Lib.hid (hO.out.congr (h := F) fun c hc => by rw [hP.out c hc, if_pos hc])
      have hlo := hO.out.1
      have hlb : w.heap.size < wr.heap.size := by have := hL.out.below.size; simp at this; omega
      go_wp2_with (first
        | (go_at_call 19; refine (H19.out _ _ _ HOw.out.list).mono ?_; rintro e w3 ⟨rfl, g3, rfl⟩)
        | (go_at_call 20; refine (H20.out _ _ _ (HOw.out.later ((Later.refl _).more _)).list).mono ?_; rintro e w4 ⟨rfl, g4, rfl⟩)
        | (go_at_call 12; refine (wakes_any _).mono ?_; rintro e w5 ⟨rfl, g5, rfl⟩))
      go_ret
      exact Ret.mk ((((Later.refl w).alloc _).trans hL.out).more _)
end Go.Proofs.Ytihnemlnnjdagaa
