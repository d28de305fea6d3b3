/-
  No statement of the seat is proved here. Contract of level.Layers, for every depths of a bound.
-/
import Derived.Test.YtbdhjoanjlkggaaEq
namespace Go.Proofs.Ytbdhjoanjlkggaa
open Go Go.RowKit
set_option linter.unusedVariables false
set_option linter.unusedSimpArgs false
theorem Users.make {w w' : World} {base N : Nat} (hown : w'.ownsRow base 26 1 (.slice (some ⟨w.heap.size, 0, none⟩) N N) N (madeCells (Value.slice none 0 0).cells (N * 1)).toList) :
    Users w' base w.heap.size N (fun _ => []) (fun k => k = w.heap.size) := by
  have h2 := (hown.lt _ rfl).2
  obtain ⟨_, hh | ⟨g', cap', cur, hv, hb, hg, hn, hm, hs, ht⟩⟩ := hown
  · exact absurd hh.1 (by simp)
  · simp only [Value.slice.injEq, Option.some.injEq, Addr.mk.injEq, and_true, true_and] at hv
    obtain ⟨rfl, rfl⟩ := hv
    refine ⟨rfl, fun b hb' => by rw [hb']; exact ⟨by omega, h2⟩, cur, fun _ => .slice none 0 0, hg, by omega, fun k hk => ?_, fun k hk => World.ownsRow_nil _ _ _ _, (fun k hk b hb' => by cases hb'), (fun k k' _ _ _ b hb' => by cases hb')⟩
    have h1 := made_get (.slice none 0 0) rfl N k hk
    rw [← ht, List.getElem?_take, if_pos (by omega), Array.getElem?_toList] at h1
    exact h1
theorem Users.use {base U N : Nat} {us : Nat → List Nat} {B : Nat → Prop} {w w' : World} {o : Obj} {k x : Nat} {v v' : Value} (h : Users w base U N us B) (hk : k < N) (hv : w.cell? ⟨U, k, none⟩ = some v)
    (hown : w'.ownsRow base 3 1 v' ((us k).length + 1) (((us k).map fun k => Value.int .i64 (k : Nat)) ++ [.int .i64 (x : Nat)])) (hg : (w.alloc o).grownBy w' v.ownBlock) (hat : v'.ownBlock = v.ownBlock ∨ v'.ownBlock = some (w.alloc o).heap.size) (hb : base ≤ w.heap.size) :
    ∃ B', Users (w'.setCell ⟨U, k, none⟩ v') base U N (fun i => if i = k then us k ++ [x] else us i) B' ∧ Only w (w'.setCell ⟨U, k, none⟩ v') fun k => base ≤ k := by
  have ho : Only w w' fun c => v.ownBlock = some c := ((Only.refl w _).alloc o).trans (Only.grown hg) (fun _ _ h => h)
  have hat' : v'.ownBlock = v.ownBlock ∨ ∃ c, v'.ownBlock = some c ∧ w.heap.size ≤ c ∧ c < w'.heap.size := by
    rcases hat with hat | hat
    · exact .inl hat
    · refine .inr ⟨_, hat, by simp, (hown.lt _ hat).2⟩
  obtain ⟨hU, hO⟩ := h.push hk hv (OwnL.snoc hown) ho hat' hb
  exact ⟨_, hU, hO.mono (fun c hc => (h.fit c hc).1)⟩
/-- Rows of rows that can be read come back. -/
def RetN (w : World) (rs : List (List Int)) (e : Ending) (w' : World) : Prop := ∃ A c, e = .returned (.slice A rs.length c) ∧ NeedsR w' A rs ∧ Later w w'
theorem Users.needs {w : World} {base U N : Nat} {us : Nat → List Nat} {B : Nat → Prop} (h : Users w base U N us B) : NeedsR w (some ⟨U, 0, none⟩) ((List.range N).map fun k => ints (us k)) := by
  intro i hi
  have hi' : i < N := by simpa using hi
  obtain ⟨v, h1, _, h3, h4, _⟩ := h.at_ hi'
  obtain ⟨A, c, rfl, hI, _⟩ := h4.form
  have e : ((List.range N).map fun k => ints (us k)).getD i [] = ints (us i) := by
    rw [List.getD_eq_getElem?_getD, List.getElem?_map, List.getElem?_range hi']; rfl
  rw [e, ints_len]
  exact ⟨U, 0, A, c, rfl, h3, by rw [Nat.zero_add]; exact h1, hI⟩
namespace Lv
/-- The things below p of depth k. -/
def layer (l : List Int) (p k : Nat) : List Nat := (List.range p).filter fun i => l.getD i 0 == (k : Int)
def layersN (l : List Int) : Nat := (max (maxL l + 1) 0).toNat
def layersL (l : List Int) : List (List Int) := if l.length = 0 then [] else (List.range (layersN l)).map fun k => ints (layer l l.length k)
theorem layer_zero (l : List Int) (k : Nat) : layer l 0 k = [] := rfl
theorem layer_yes {l : List Int} {p d : Nat} (h : l.getD p 0 = (d : Int)) (k : Nat) : (if k = d then layer l p d ++ [p] else layer l p k) = layer l (p + 1) k := by
  unfold layer
  rw [List.range_succ, List.filter_append]
  rw [List.getD_eq_getElem?_getD] at h
  by_cases e : k = d
  · subst e; simp [h]
  · have : ¬ ((d : Int) = (k : Int)) := by omega
    simp [e, h, this]
theorem layer_no {l : List Int} {p : Nat} (h : l.getD p 0 < 0) (k : Nat) : layer l p k = layer l (p + 1) k := by
  unfold layer
  rw [List.range_succ, List.filter_append]
  have : ¬ (l.getD p 0 = (k : Int)) := by omega
  rw [List.getD_eq_getElem?_getD] at this
  simp [List.filter_cons, this]
theorem layer_len (l : List Int) (p k : Nat) : (layer l p k).length ≤ p := by
  unfold layer
  have := List.length_filter_le (fun i => l.getD i 0 == (k : Int)) (List.range p)
  simpa using this
theorem le_foldl : ∀ (l : List Int) (a : Int), a ≤ l.foldl max a ∧ ∀ x ∈ l, x ≤ l.foldl max a
  | [], a => ⟨Int.le_refl _, by simp⟩
  | b :: l, a => by
    obtain ⟨h1, h2⟩ := le_foldl l (max a b)
    rw [List.foldl_cons]
    refine ⟨by omega, fun x hx => ?_⟩
    rcases List.mem_cons.1 hx with rfl | hx
    · omega
    · exact h2 x hx
theorem foldl_mem : ∀ (l : List Int) (a : Int), l.foldl max a = a ∨ l.foldl max a ∈ l
  | [], a => .inl rfl
  | b :: l, a => by
    rw [List.foldl_cons]
    rcases foldl_mem l (max a b) with h | h
    · rw [h]
      by_cases e : a ≤ b
      · exact .inr (by rw [Int.max_eq_right e]; simp)
      · exact .inl (by rw [Int.max_eq_left (by omega)])
    · exact .inr (List.mem_cons_of_mem _ h)
theorem maxL_ge {l : List Int} {i : Nat} (hi : i < l.length) : l.getD i 0 ≤ maxL l := by
  rw [List.getD_eq_getElem?_getD, List.getElem?_eq_getElem hi]
  exact (le_foldl l _).2 _ (List.getElem_mem hi)
theorem maxL_bd {l : List Int} {M : Int} (h : ∀ i, i < l.length → -M ≤ l.getD i 0 ∧ l.getD i 0 ≤ M) (h0 : 0 < l.length) : -M ≤ maxL l ∧ maxL l ≤ M := by
  unfold maxL
  rcases foldl_mem l (l.getD 0 0) with e | e
  · rw [e]; exact h 0 h0
  · obtain ⟨i, hi, e2⟩ := List.mem_iff_getElem.1 e
    have := h i hi
    rw [List.getD_eq_getElem?_getD, List.getElem?_eq_getElem hi] at this
    rw [← e2]
    exact this
end Lv
set_option maxRecDepth 100000 in
set_option maxHeartbeats 4000000 in
theorem layers24 (l : List Int) (A : Option Addr) (c : Nat) (w : World) (hI : IntsR w A l) (hn : l.length ≤ 1000) (hb : ∀ i, i < l.length → -1000 ≤ l.getD i 0 ∧ l.getD i 0 ≤ 1000) :
    Calls Try.prog 24 #[.slice A l.length c] w (RetN w (Lv.layersL l)) := by
  by_cases h0 : l.length = 0
  · have e1 : Lv.layersL l = [] := by unfold Lv.layersL; rw [if_pos h0]
    rw [e1, h0]
    clear hI hb
    go_enter Try.func24, Try.ntmps24
    go_wp2_with fail
    go_ret
    exact ⟨none, 0, rfl, fun i hi => absurd hi (by simp), Later.refl w⟩
  · have HI := Lib.hid hI
    have HB := Lib.hid hb
    obtain ⟨i26, hi26, hz26, hs26, hy26⟩ := info_parts (P := Try.prog) (e := 26) (z := .slice none 0 0) (size := 1) (bytes := 24) info26
    obtain ⟨i3, hi3, hz3, hs3, hy3⟩ := info_parts (P := Try.prog) (e := 3) (z := .int .i64 0) (size := 1) (bytes := 8) info3
    obtain ⟨M, hM⟩ : ∃ M, Lv.maxL l = M := ⟨_, rfl⟩
    obtain ⟨N, hN⟩ : ∃ N, Lv.layersN l = N := ⟨_, rfl⟩
    have e1 : Lv.layersL l = (List.range N).map fun k => ints (Lv.layer l l.length k) := by unfold Lv.layersL; rw [if_neg h0, hN]
    have hMN : max (M + 1) 0 = (N : Int) := by rw [← hN, ← hM]; unfold Lv.layersN; omega
    have hMb := Lv.maxL_bd hb (by omega)
    rw [hM] at hMb
    have hN2 : N ≤ 1001 := by omega
    have hle := Lib.hid (fun i (hi : i < l.length) => hM ▸ Lv.maxL_ge (l := l) hi)
    have hmx := run_max2i (x := M + 1) (y := 0) hMN
    have HM := Lib.hid (max36 l A c w hI (by omega) (by omega))
    rw [hM] at HM
    have HMN := Lib.hid hMN
    have hne : ((l.length : Int) == 0) = false := by rw [beq_eq_false_iff_ne]; omega
    rw [e1]
    clear hI hb hM hN e1 hMN
    go_enter Try.func24, Try.ntmps24
    go_wp2_with (first
      | (go_at_call 36; refine HM.out.mono ?_; rintro e w1 ⟨rfl, g1, rfl⟩)
      | (at_make; refine wpList_make_full _ rfl _ _ 24 rfl w.heap.size 26 i26 (.slice none 0 0) 1 Try.underlying24 hi26 hz26 hs26 .i64 .i64 _ _ N rfl rfl rfl rfl (by rw [hy26]; omega) (by unfold maxLen; omega) (by simp) ?_; intro w2 hown2 hgrow2))
    have HU := Lib.hid (Users.make hown2)
    have l12 : Later (more w g1) w2 := Later.of_below ⟨hgrow2.os, hgrow2.tape, hgrow2.output, hgrow2.size, fun k hk => hgrow2.block k hk (by simp)⟩
    have HO := Lib.hid (Only.of_later (((Later.refl w).more g1).trans l12) fun k => w.heap.size ≤ k)
    clear hown2 hgrow2 HM hmx l12 hne
    obtain ⟨U, hUU⟩ : ∃ U, (more w g1).heap.size = U := ⟨_, rfl⟩
    rw [hUU] at HU
    simp at hUU
    rw [hUU]
    clear hUU
    go_loopw [4, 5, 16] (fun _ _ j wr => ∃ (p : Nat) (B : Nat → Prop), p ≤ l.length ∧ j = .int .i64 p ∧ Hid (Users wr w.heap.size U N (Lv.layer l p) B) ∧ Hid (Only w wr fun k => w.heap.size ≤ k)) (fun _ _ j _ => l.length - (intOf j).toNat)
    case atStart => exact ⟨0, _, Nat.zero_le _, rfl, HU, HO⟩
    case round =>
      obtain ⟨p, B, hp, rfl, hU, hO⟩ := hrel
      by_cases hpl : p < l.length
      · obtain ⟨b1, o1, rfl, hb1, hc1⟩ := (HI.out.later hO.out.later) p hpl
        obtain ⟨x, hx⟩ : ∃ x, l.getD p 0 = x := ⟨_, rfl⟩
        have hbx := HB.out p hpl
        have hlx := hle.out p hpl
        rw [hx] at hc1 hbx hlx
        by_cases hx0 : x < 0
        · have HUn := Lib.hid (hU.out.congr (us' := Lv.layer l (p + 1)) (fun k hk => Lv.layer_no (by rw [hx]; exact hx0) k))
          clear hx
          go_wp2_with fail
          go_roundw
          case rel => exact ⟨p + 1, B, by omega, by go_num, HUn, hO⟩
          case measure => simp [intOf]; omega
        · obtain ⟨d, rfl⟩ : ∃ d : Nat, x = (d : Int) := ⟨x.toNat, by omega⟩
          have hdN : d < N := by have := HMN.out; omega
          have Hx := Lib.hid hx
          clear hx
          obtain ⟨v, q1, q2, q3, hOv, hBv⟩ := hU.out.at_ hdN
          have HOv := Lib.hid hOv
          have hsz := hO.out.size
          have hlx := Lv.layer_len l p d
          have hq1 := Lib.hid q1
          clear hOv hBv
          go_wp2_with (first
            | (at_builtin; refine wpList_append_own_at _ rfl _ _ 26 rfl w.heap.size 3 i3 (.int .i64 0) 1 8 Try.underlying26 hi3 hz3 hs3 hy3 rfl (by decide) _ _ _ rfl (World.ownsRow.alloc HOv.out _) ⟨wr.heap.size, 0, none⟩ 1 1 [.int .i64 (p : Nat)] rfl rfl (cell_one_new _ _ _) (fun x hx => by simp at hx; subst hx; rfl) (by unfold maxLen; omega) (by omega) (by simp; omega) ?_; intro v' w5 hown5 hgrow5 hnil5 hat5; obtain ⟨g5, cap5, rfl, _, _⟩ := hown5.form (by omega); have q5 := (hU.out.keep hdN hq1.out hgrow5).1; have f5 := (hU.out.keep hdN hq1.out hgrow5).2; have Hown5 := Lib.hid hown5; have Hgrow5 := Lib.hid hgrow5; have Hat5 := Lib.hid hat5; clear hown5 hgrow5 hnil5 hat5))
          obtain ⟨B5, hU5, hO5⟩ := hU.out.use hdN hq1.out Hown5.out Hgrow5.out Hat5.out hsz
          have HU5 := Lib.hid (hU5.congr (us' := Lv.layer l (p + 1)) (fun k hk => Lv.layer_yes Hx.out k))
          have HO5 := Lib.hid (hO.out.trans hO5 (fun _ _ h => h))
          clear hU5 hO5 q5 f5 q1 q2 q3
          go_roundw
          case rel => exact ⟨p + 1, B5, by omega, by go_num, HU5, HO5⟩
          case measure => simp [intOf]; omega
      · obtain rfl : p = l.length := by omega
        go_wp2_with fail
        go_ret
        refine ⟨some ⟨U, 0, none⟩, N, ?_, hU.out.needs, hO.out.later⟩
        rw [List.length_map, List.length_range]
        rfl
end Go.Proofs.Ytbdhjoanjlkggaa
