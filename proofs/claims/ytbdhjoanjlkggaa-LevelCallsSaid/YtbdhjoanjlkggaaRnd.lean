/-
  No statement of the seat is proved here. Contract of level.Round.
-/
import Derived.Test.YtbdhjoanjlkggaaMp
import Derived.Outline
import Derived.WalkKit
import Derived.WalkMore
namespace Go.Proofs.Ytbdhjoanjlkggaa
open Go Go.RowKit Go.Maps
set_option linter.unusedVariables false
def RetLB (w : World) (l : List Nat) (b : Bool) (e : Ending) (w' : World) : Prop := ∃ A c, e = .returned (.tuple #[.slice A l.length c, .bool b]) ∧ IntsR w' A (ints l) ∧ Later w w'
theorem round_bad (ns : List (List Int)) (A : Option Addr) (c : Nat) (w : World) (hN : NeedsR w A ns) (hn : ns.length ≤ 1000) (hr : ∀ i, (ns.getD i []).length ≤ 1000) (hm : Lv.mayB ns = false) :
    Calls Try.prog 18 #[.slice A ns.length c] w (RetLB w [] false) := by
  have HN := Lib.hid hN
  have HM := Lib.hid (fun w' h => may_is hm A c w' h hn hr)
  clear hN
  go_enter Try.func18, Try.ntmps18
  go_wp2
  go_step3
  go_wp2_with (go_at_call 26; refine (HM.out _ HN.out).mono ?_; rintro e w' ⟨rfl, g, rfl⟩)
  rw [Exit.noGoto_ret]
  go_ret2
  exact ⟨none, 0, rfl, fun p hp => absurd hp (by simp [ints]), (Later.refl _).more _⟩
theorem run_min2n {x y z : Nat} (h : min x y = z) (ts : Array TypeId) (t : TypeId) (w : World) : (Builtin.min_ ts t #[.int .i64 x, .int .i64 y]).run Try.prog w = .ok (.int .i64 z) w := by
  rw [run_min_int2]
  congr 2
  subst h
  split <;> omega
namespace Lv
theorem pig2 : ∀ (N : Nat) (T : List Nat), (∀ k, k < N → k ∈ T) → N ≤ T.length
  | 0, T, _ => Nat.zero_le _
  | N + 1, T, h => by
    have h1 := pig2 N (T.erase N) (fun k hk => (List.mem_erase_of_ne (by omega)).2 (h k (by omega)))
    have h2 := h N (by omega)
    rw [List.length_erase_of_mem h2] at h1
    have := List.length_pos_of_mem h2
    omega
theorem some_left {N : Nat} {T : List Nat} (h : T.length < N) : ∃ k, k < N ∧ k ∉ T := by
  apply Classical.byContradiction
  intro hn
  have := pig2 N T (fun k hk => Classical.byContradiction fun h2 => hn ⟨k, hk, h2⟩)
  omega
theorem leftB_iff {N k : Nat} {T : List Nat} : leftB N T (k : Nat) = true ↔ k < N ∧ k ∉ T := by simp [leftB]
end Lv
theorem IntsR.only {w w' : World} {A : Option Addr} {l : List Int} {S : Nat → Prop} (h : IntsR w A l) (ho : Only w w' S) (hn : ∀ b off, A = some ⟨b, off, none⟩ → ¬ S b) : IntsR w' A l := by
  intro p hp
  obtain ⟨b, off, hA, hb, hc⟩ := h p hp
  exact ⟨b, off, hA, Nat.lt_of_lt_of_le hb ho.size, by rw [ho.cell_far hb (hn b off hA)]; exact hc⟩
theorem IntsR.drop {w : World} {b d : Nat} {l : List Nat} (h : IntsR w (some ⟨b, 0, none⟩) (ints l)) : IntsR w (some ⟨b, d, none⟩) (ints (l.drop d)) := by
  intro p hp
  rw [ints_len, List.length_drop] at hp
  obtain ⟨b', off, hA, hb, hc⟩ := h (d + p) (by rw [ints_len]; omega)
  injection hA with hA
  injection hA with e1 e2
  subst e1 e2
  refine ⟨b, d, rfl, hb, ?_⟩
  rw [show 0 + (d + p) = d + p by omega] at hc
  rw [hc, map_getD, map_getD]
  simp [List.getD_eq_getElem?_getD, List.getElem?_drop]
theorem ownsMap_later {w w' : World} {mb N : Nat} {D : DataW Unit} (h : w.ownsMap Try.prog 3 (plainElem Try.prog 3) mb N D) (hl : Later w w') : w'.ownsMap Try.prog 3 (plainElem Try.prog 3) mb N D :=
  h.kept (row := none) ⟨hl.below.os, hl.below.tape, hl.below.output, hl.below.size, fun i hi _ => hl.below.block i hi⟩ (by simp)
namespace Lv
theorem idx_some {l : List Int} {x : Int} (h : 0 ≤ idx l x) : ∃ k, k < l.length ∧ idx l x = (k : Nat) ∧ l.getD k 0 = x := by
  unfold idx at h ⊢
  cases hf : (List.range l.length).find? (fun k => l.getD k 0 == x) with
  | none => rw [hf] at h; exact absurd h (by decide)
  | some k =>
    have h1 := List.find?_some hf
    have h2 := List.mem_range.1 (List.mem_of_find?_eq_some hf)
    exact ⟨k, h2, rfl, by simpa using h1⟩
theorem idx_neg {l : List Int} {x : Int} (h : ¬ 0 ≤ idx l x) : idx l x = -1 ∧ x ∉ l := by
  unfold idx at h ⊢
  cases hf : (List.range l.length).find? (fun k => l.getD k 0 == x) with
  | some k => rw [hf] at h; exact absurd (Int.natCast_nonneg k) h
  | none =>
    refine ⟨rfl, fun hm => ?_⟩
    rw [List.find?_eq_none] at hf
    obtain ⟨j, hj, rfl⟩ := List.mem_iff_getElem.1 hm
    have := hf j (List.mem_range.2 hj)
    simp [List.getD_eq_getElem?_getD, List.getElem?_eq_getElem hj] at this
end Lv
set_option maxRecDepth 100000 in
set_option maxHeartbeats 8000000 in
theorem round_core (ms : List (List Nat)) (A : Option Addr) (c : Nat) (w : World) (hN : NeedsR w A (toI ms)) (hlt : ∀ i, ∀ k ∈ Lv.row ms i, k < ms.length) (hn : ms.length ≤ 1000) (hr : ∀ i, (Lv.row ms i).length ≤ 1000)
    (hM : ∀ w', NeedsR w' A (toI ms) → Calls Try.prog 26 #[.slice A ms.length c] w' (Ret w' (.bool true))) :
    Calls Try.prog 18 #[.slice A ms.length c] w (RetLB w (if (Lv.told ms).length < ms.length then Lv.walkF ms (Lv.unt ms) (ms.length + 1) [] (Lv.first (Lv.unt ms) ms.length) else []) (decide ((Lv.told ms).length < ms.length))) := by
  obtain ⟨i3, hi3, hz3, hs3, hy3⟩ := info_parts (P := Try.prog) (e := 3) (z := .int .i64 0) (size := 1) (bytes := 8) info3
  have HN := Lib.hid hN
  have HLt := Lib.hid hlt
  have HR := Lib.hid hr
  have HM := Lib.hid hM
  have HT := Lib.hid (fun w' h => told_any ms A c w' h hlt hn hr)
  have HG := Lib.hid (Lv.told_good ms)
  clear hN hlt hr hM
  obtain ⟨N, hNN⟩ : ∃ N, ms.length = N := ⟨_, rfl⟩
  have HNN := Lib.hid hNN
  rw [hNN] at hn HM HT HLt ⊢
  clear hNN
  obtain ⟨T, hTT⟩ : ∃ T, Lv.told ms = T := ⟨_, rfl⟩
  have HTT := Lib.hid hTT
  rw [hTT] at HT HG ⊢
  clear hTT
  have hmm := @run_makeMap Try.prog
  obtain ⟨R, hRR⟩ : ∃ R, RetLB w (if T.length < N then Lv.walkF ms (Lv.unt ms) (N + 1) [] (Lv.first (Lv.unt ms) N) else []) (decide (T.length < N)) = R := ⟨_, rfl⟩
  rw [hRR]
  have HRR := Lib.hid hRR
  clear hRR
  go_enter Try.func18, Try.ntmps18
  go_wp2
  go_step3
  go_wp2_with (go_at_call 26; refine (HM.out _ HN.out).mono ?_; rintro e w' ⟨rfl, g, rfl⟩)
  have HD0 := Lib.hid (World.ownsMap_made (H := Unit) (more w g) Try.prog 3 (plainElem Try.prog 3))
  have HO0 := Lib.hid (Only.of_later (((Later.refl w).more g).alloc (.map #[] 0)) fun k => w.heap.size ≤ k)
  obtain ⟨mb, hmb⟩ : ∃ mb, (more w g).heap.size = mb := ⟨_, rfl⟩
  rw [hmb] at HD0
  have hmw : w.heap.size ≤ mb := by rw [← hmb]; simp
  simp at hmb
  rw [hmb]
  clear hmb hmm
  go_loopw [5, 21] (fun _ j wr => ∃ (k : Nat) (D : DataW Unit), k ≤ N ∧ j = .int .i64 k ∧ Hid (wr.ownsMap Try.prog 3 (plainElem Try.prog 3) mb k D) ∧ Hid (MapS D (fun x => decide (0 ≤ x) && decide (x < (k : Nat))) k) ∧ Hid (Only w wr fun k => w.heap.size ≤ k)) (fun _ j _ => N - (intOf j).toNat)
  case atStart => exact ⟨0, .map [], Nat.zero_le _, rfl, HD0, Lib.hid (MapS.nil.congr (fun x => by simp)), HO0⟩
  case round =>
    obtain ⟨k, D, hk, rfl, hown, hS, hO⟩ := hrel
    by_cases hkl : k < N
    · have HSn := Lib.hid ((hS.out.put (x := (k : Nat)) (by simp)).congr (fun x => Lv.leftB_put (k := k) x))
      have hwf : (Lit.int .i64 (k : Nat)).wf = true := WalkArith.wf_i64 (by omega)
      go_wp2_with (at_mapUpdate; refine wpList_mapUpdate_own _ rfl _ _ _ 57 rfl 3 3 law3 Try.underlying57 _ mb k _ rfl hown.out (by unfold maxLen; omega) _ _ _ rfl rfl (keyOf_int_mk Try.underlying3 hwf) _ [] (plainElem_int Try.underlying3 (by decide)) ?_; intro w1 hown1 hgrow1; have Hown1 := Lib.hid hown1; have Hgrow1 := Lib.hid hgrow1; clear hown1 hgrow1)
      go_roundw
      case rel => exact ⟨k + 1, _, by omega, by go_num, Hown1, HSn, Lib.hid (hO.out.trans (Only.grown Hgrow1.out) (fun b _ e => by injection e with e; omega))⟩
      case measure => simp [intOf]; omega
    · obtain rfl : N = k := by omega
      go_wp2_with (go_at_call 32; refine (HT.out _ (HN.out.later hO.out.later)).mono ?_; rintro e w2 ⟨v, rfl, hOv, hL2⟩; obtain ⟨Av, cv, rfl, hIv, hbv⟩ := hOv.form; have HIv := Lib.hid hIv; have HL2 := Lib.hid hL2; have Hbv := Lib.hid hbv; clear hOv hIv hL2 hbv)
      have hml := hown.out.lt
      have HAv : Hid (∀ b off, Av = some ⟨b, off, none⟩ → ¬ b = mb) := Lib.hid (fun b off e => by
        subst e
        have := (Hbv.out b rfl).1
        omega)
      have HW2 : Hid (w2.ownsMap Try.prog 3 (plainElem Try.prog 3) mb N D) := Lib.hid (hown.out.kept (row := none) ⟨HL2.out.below.os, HL2.out.below.tape, HL2.out.below.output, HL2.out.below.size, fun i hi _ => HL2.out.below.block i hi⟩ (by simp))
      have HOw := Lib.hid (hO.out.trans (Only.of_later HL2.out fun b => b = mb) (fun b _ e => by omega))
      have HS2 := Lib.hid (hS.out.congr (fun x => Lv.leftB_zero (N := N) x))
      have HTN : T.length ≤ N := by have := HG.out.le; rw [HNN.out] at this; exact this
      clear hown hS hO Hbv hml
      go_loopw [7, 30] (fun _ j wr => ∃ (p : Nat) (D : DataW Unit), p ≤ T.length ∧ j = .int .i64 p ∧ Hid (wr.ownsMap Try.prog 3 (plainElem Try.prog 3) mb N D) ∧ Hid (MapS D (Lv.leftB N (T.take p)) (N - p)) ∧ Hid (Only w wr fun k => w.heap.size ≤ k) ∧ Hid (Only w2 wr fun b => b = mb)) (fun _ j _ => T.length - (intOf j).toNat)
      case atStart => exact ⟨0, D, Nat.zero_le _, rfl, HW2, HS2, HOw, Lib.hid (Only.refl _ _)⟩
      case round =>
        obtain ⟨p, D, hp, rfl, hown, hS, hO, hO2⟩ := hrel
        by_cases hpl : p < T.length
        · obtain ⟨b1, o1, rfl, hb1, hc1⟩ := (HIv.out.only hO2.out HAv.out).at_ hpl
          obtain ⟨i, hi⟩ : ∃ i, T.getD p 0 = i := ⟨_, rfl⟩
          have hiN : i < N := by have := HG.out.lt i (by rw [← hi, List.getD_eq_getElem?_getD, List.getElem?_eq_getElem hpl]; exact List.getElem_mem _); rw [HNN.out] at this; exact this
          rw [hi] at hc1
          have HSn : Hid (MapS (D.del (.int .i64 (i : Nat))) (Lv.leftB N (T.take (p + 1))) (N - (p + 1))) := Lib.hid (by
            have h1 := hS.out
            rw [show N - p = (N - (p + 1)) + 1 by omega] at h1
            exact (h1.del (Lv.leftB_yes hpl hi HG.out.nodup hiN)).congr (fun x => Lv.leftB_step hpl hi x))
          have hwf : (Lit.int .i64 (i : Nat)).wf = true := WalkArith.wf_i64 (by omega)
          clear hi
          go_wp2_with (at_delete; refine wpList_delete_own _ rfl _ _ 57 3 rfl 3 law3 Try.underlying57 _ mb N D rfl hown.out _ _ rfl (keyOf_int_mk Try.underlying3 hwf) ?_; intro w5 hown5 hturn5; have Hown5 := Lib.hid hown5; have Hgrow5 := Lib.hid hturn5.grown; clear hown5 hturn5)
          go_roundw
          case rel => exact ⟨p + 1, _, by omega, by go_num, Hown5, HSn, Lib.hid (hO.out.trans (Only.grown Hgrow5.out) (fun b _ e => by injection e with e; omega)), Lib.hid (hO2.out.trans (Only.grown Hgrow5.out) (fun b _ e => by injection e with e; omega))⟩
          case measure => simp [intOf]; omega
        · obtain rfl : p = T.length := by omega
          have HS3 := Lib.hid (by have := hS.out; rw [List.take_length] at this; exact this)
          obtain ⟨s, hs⟩ : ∃ s, N - T.length = s := ⟨_, rfl⟩
          rw [hs] at HS3
          have hsz : Maps.size D = s := HS3.out.size
          by_cases hs0 : s = 0
          · subst hs0
            go_wp2_with (at_len; refine wpList_len_own _ rfl _ 57 rfl 3 3 Try.underlying57 _ mb N D rfl hown.out ?_; rw [hsz])
            rw [← HRR.out, if_neg (by omega), decide_eq_false (by omega)]
            exact ⟨none, 0, rfl, fun p hp => absurd hp (by simp [ints]), hO.out.later⟩
          · have hne : (((s : Nat) : Int) == 0) = false := by rw [beq_eq_false_iff_ne]; omega
            have hwN : N ≤ 9223372036854775807 := by omega
            go_wp2_with (first
              | (at_len; refine wpList_len_own _ rfl _ 57 rfl 3 3 Try.underlying57 _ mb N D rfl hown.out ?_; rw [hsz])
              | (at_range; refine wpList_range_own _ rfl _ 57 rfl 3 3 law3 Try.underlying57 _ mb N D rfl hown.out ?_; intro w7 hrg7 hg7 hs7; go_frame))
            have HRG := Lib.hid hrg7
            have HO7 := Lib.hid (hO.out.trans (Only.grown hg7) (fun b _ e => by cases e))
            have hrw : w.heap.size ≤ wr.heap.size := hO.out.size
            have hmr : mb < wr.heap.size := hown.out.lt
            clear hrg7 hg7 hs7 hne hsz
            generalize wr.heap.size = r at *
            go_loopw [8, 9] (fun j _ wr => ∃ (left : Lit → Bool) (cnt m : Nat), m ≤ N ∧ j = .int .i64 m ∧ Hid (wr.ranges Try.prog 3 (plainElem Try.prog 3) mb r N D left cnt) ∧ Hid (m < N → Lv.leftB N T m = true) ∧ Hid (∀ k, k < N → Lv.leftB N T (k : Nat) = true → left (.int .i64 (k : Nat)) = true ∨ m ≤ k) ∧ Hid (Only w wr fun k => w.heap.size ≤ k)) (fun _ _ wr => wr.rangeLeft mb r)
            case atStart => exact ⟨_, _, N, Nat.le_refl _, rfl, HRG, Lib.hid (fun h => by omega), Lib.hid (fun k hk h => .inl (by rw [HS3.out.has]; exact h)), HO7⟩
            case round =>
              obtain ⟨left, cnt, m, hm, rfl, hrg, hU, hA, hO⟩ := hrel
              have hrgo := hrg.out
              go_wp2_with (at_next; refine wpList_next_ranges_ii _ rfl _ rfl 3 3 .i64 .i64 law3 Try.underlying3 Try.underlying3 mb r N _ _ _ rfl hrgo ?_ ?_)
              · intro _ hl0
                obtain ⟨k0, hk0, hk1⟩ := Lv.some_left (N := N) (T := T) (by omega)
                have hmN : m < N := by
                  rcases hA.out k0 hk0 (Lv.leftB_iff.2 ⟨hk0, hk1⟩) with h | h
                  · rw [hl0] at h; cases h
                  · omega
                have HF : Hid (Lv.first (Lv.unt ms) N = m) := Lib.hid (Lv.first_is hmN (by unfold Lv.unt; rw [HNN.out, HTT.out]; exact hU.out hmN) (fun k hk => by
                  cases hu : Lv.unt ms k
                  · rfl
                  · unfold Lv.unt at hu
                    rw [HNN.out, HTT.out] at hu
                    rcases hA.out k (by omega) hu with h | h
                    · rw [hl0] at h; cases h
                    · omega))
                have HUm := Lib.hid (hU.out hmN)
                have HMw := Lib.hid hrgo.owns
                have hrle : r ≤ wr.heap.size := Nat.le_of_lt hrgo.lt
                clear hrgo hrg hA hU hl0
                go_wp2_with fail
                go_step3
                go_wp2_with fail
                have HW0 : Hid (Lv.walkF ms (Lv.unt ms) (N + 1 - ([] : List Nat).length) [] m = Lv.walkF ms (Lv.unt ms) (N + 1) [] (Lv.first (Lv.unt ms) N)) := Lib.hid (by rw [HF.out]; rfl)
                generalize Lv.walkF ms (Lv.unt ms) (N + 1) [] (Lv.first (Lv.unt ms) N) = W at *
                go_loopw [8, 10, 11, 13, 14, 62] (fun ja v _ _ _ _ wr => ∃ (p : List Nat) (a : Nat), ja = .int .i64 a ∧ p.length ≤ N ∧ a < N ∧ Hid (OwnL wr r v p) ∧ Hid (a ∉ p ∧ p.Nodup ∧ (∀ x ∈ p, x < N) ∧ Lv.leftB N T a = true) ∧ Hid (Lv.walkF ms (Lv.unt ms) (N + 1 - p.length) p a = W) ∧ Hid (wr.ownsMap Try.prog 3 (plainElem Try.prog 3) mb N D) ∧ Hid (Only w wr fun k => w.heap.size ≤ k) ∧ r ≤ wr.heap.size) (fun _ v _ _ _ _ _ => N - lenOf v)
                case atStart => exact ⟨[], m, rfl, by simp, hmN, Lib.hid (OwnL.nil _ _), Lib.hid ⟨by simp, by simp, by simp, HUm.out⟩, HW0, HMw, hO, hrle⟩
                case round =>
                  obtain ⟨p, a, rfl, hpN, haN, hown, hP, hF, hMw, hO, hr⟩ := hrel
                  obtain ⟨Ap, cp, hv, _, hob⟩ := hown.out.form
                  subst hv
                  have Hob := Lib.hid hob
                  obtain ⟨b3, o3, Ai, ci, rfl, hb3', hc3', hI3⟩ := HN.out.at_ (i := a) (by rw [HNN.out]; exact haN)
                  have HI3 := Lib.hid hI3
                  have Hc3 := Lib.hid hc3'
                  have Hb3 := Lib.hid hb3'
                  have hri := HR.out a
                  have HLi := Lib.hid (HLt.out a)
                  clear hob hI3 hc3' hb3'
                  obtain ⟨ro, hrw'⟩ : ∃ ro, Lv.row ms a = ro := ⟨_, rfl⟩
                  have Hro := Lib.hid hrw'
                  rw [hrw'] at HI3 Hc3 hri HLi
                  clear hrw'
                  go_wp2_with (at_builtin; refine wpList_append_own_at _ rfl _ _ 26 rfl r 3 i3 (.int .i64 0) 1 8 Try.underlying26 hi3 hz3 hs3 hy3 rfl (by decide) _ _ _ rfl (World.ownsRow.alloc hown.out _) ⟨wr.heap.size, 0, none⟩ 1 1 [.int .i64 (a : Nat)] rfl rfl (cell_one_new _ _ _) (fun x hx => by simp at hx; subst hx; rfl) (by unfold maxLen; omega) (by omega) (by simp; omega) ?_; intro v' w5 hown5 hgrow5 hnil5 hat5; have HO5 := Lib.hid (hO.out.trans (((Only.refl wr fun c => (Value.slice Ap p.length cp).ownBlock = some c).alloc _).trans (Only.grown hgrow5) (fun _ _ h => h)) (fun c _ e => by have := (Hob.out c e).1; omega)); have HMw5 := Lib.hid (World.ownsMap.kept (World.ownsMap.alloc hMw.out _) hgrow5 (fun e => by have := (Hob.out mb e.symm).1; omega)); have hs5 := hgrow5.size; have Hown5 := Lib.hid (OwnL.snoc hown5); obtain ⟨A5, c5, hv5, hI5, _⟩ := Hown5.out.form; subst hv5; have HI5 := Lib.hid hI5; have e5 := (cell_later' HO5.out.later Hb3.out (o := o3 + a)).trans Hc3.out; have d5 := later_lt HO5.out.later Hb3.out; clear hown5 hgrow5 hnil5 hat5 hI5)
                  have hzz : (zeroValue 3).run Try.prog w5 = .ok (.int .i64 0) w5 := by kernel_rfl
                  go_loopw [11, 13, 62] (fun jm _ j wr => ∃ (q m : Nat), q ≤ ro.length ∧ j = .int .i64 q ∧ jm = .int .i64 m ∧ m ≤ N ∧ Hid (Lv.minNeed N (Lv.unt ms) (ro.take q) = m) ∧ wr = w5) (fun _ _ j _ => ro.length - (intOf j).toNat)
                  case atStart => exact ⟨0, N, Nat.zero_le _, rfl, rfl, Nat.le_refl _, Lib.hid rfl, rfl⟩
                  case round =>
                    obtain ⟨q, m, hq, rfl, rfl, hmN', hMin, rfl⟩ := hrel
                    by_cases hql : q < ro.length
                    · obtain ⟨b6, o6, rfl, hb6, hc6⟩ := (HI3.out.later HO5.out.later).at_ hql
                      obtain ⟨k, hk⟩ : ∃ k, ro.getD q 0 = k := ⟨_, rfl⟩
                      have hkN : k < N := HLi.out k (by rw [← hk, List.getD_eq_getElem?_getD, List.getElem?_eq_getElem hql]; exact List.getElem_mem _)
                      rw [hk] at hc6
                      have hnx := Lv.minNeed_next (N := N) (U := Lv.unt ms) hql hk
                      rw [hMin.out] at hnx
                      have hun : Lv.unt ms k = Lv.leftB N T (k : Nat) := by unfold Lv.unt; rw [HNN.out, HTT.out]
                      have hwf : (Lit.int .i64 (k : Nat)).wf = true := WalkArith.wf_i64 (by omega)
                      have Hat := Lib.hid (HS3.out.at_ (k : Nat))
                      cases hlk : Lv.leftB N T (k : Nat)
                      · rw [hlk] at Hat hun
                        rw [hun] at hnx
                        have Hnx := Lib.hid hnx
                        clear hnx hlk hun hk
                        go_wp2_with (at_lookup; refine wpList_lookup_own_int _ rfl _ _ 57 rfl 3 3 .i64 law3 Try.underlying57 Try.underlying3 hzz mb N D rfl HMw5.out _ _ rfl (keyOf_int_mk Try.underlying3 hwf) ?_; intro cc hat hwc; rw [Hat.out] at hat; obtain rfl : cc = 0 := by simpa using hat.symm)
                        go_roundw
                        case rel => exact ⟨q + 1, m, by omega, by go_num, rfl, hmN', Lib.hid (by rw [Hnx.out]; simp), trivial⟩
                        case measure => simp [intOf]; omega
                      · rw [hlk] at Hat hun
                        rw [hun] at hnx
                        have Hnx := Lib.hid hnx
                        obtain ⟨z, hz⟩ : ∃ z, min m k = z := ⟨_, rfl⟩
                        clear hnx hlk hun hk
                        go_wp2_with (at_lookup; refine wpList_lookup_own_int _ rfl _ _ 57 rfl 3 3 .i64 law3 Try.underlying57 Try.underlying3 hzz mb N D rfl HMw5.out _ _ rfl (keyOf_int_mk Try.underlying3 hwf) ?_; intro cc hat hwc; rw [Hat.out] at hat; obtain rfl : cc = 1 := by simpa using hat.symm)
                        go_roundw
                        case rel => exact ⟨q + 1, z, by omega, by go_num, by rw [show min (m : Int) (k : Int) = ((z : Nat) : Int) by omega], by omega, Lib.hid (by rw [Hnx.out]; simp [hz]), trivial⟩
                        case measure => simp [intOf]; omega
                    · obtain rfl : q = ro.length := by omega
                      have hMf := hMin.out
                      rw [List.take_length] at hMf
                      have hIx := fun w' h => index30 (ints (p ++ [a])) (m : Nat) A5 c5 w' h (by rw [ints_len, List.length_append]; simp; omega)
                      rw [ints_len, List.length_append, List.length_singleton] at hIx
                      obtain ⟨ix, hix⟩ : ∃ ix, Lv.idx (ints (p ++ [a])) (m : Nat) = ix := ⟨_, rfl⟩
                      rw [hix] at hIx
                      have HIx := Lib.hid hIx
                      clear hIx
                      obtain ⟨b5, rfl, hKb5, hc5, hcm5⟩ := Hown5.out.addr (by simp)
                      rw [List.length_append, List.length_singleton] at hc5
                      unfold maxLen at hcm5
                      have hfs : N + 1 - p.length = (N + 1 - (p.length + 1)) + 1 := by omega
                      by_cases h0 : 0 ≤ ix
                      · obtain ⟨d, hd, hdx, _⟩ := Lv.idx_some (by rw [hix]; exact h0)
                        rw [hix] at hdx
                        rw [ints_len, List.length_append, List.length_singleton] at hd
                        subst hdx
                        have hFd : (p ++ [a]).drop d = W := by
                          rw [← hF.out, hfs, Lv.walkF, HNN.out, Hro.out, hMf, hix, if_pos (by omega)]
                          rfl
                        have HFd := Lib.hid hFd
                        have HDr := Lib.hid (HI5.out.drop (d := d))
                        clear hFd hMf hix hfs
                        go_wp2_with (go_at_call 30; refine (HIx.out _ HI5.out).mono ?_; rintro e w8 ⟨rfl, g8, rfl⟩)
                        rw [← HRR.out, if_pos (by omega), decide_eq_true (by omega), ← HFd.out]
                        refine ⟨some ⟨b5, d, none⟩, c5 - d, ?_, HDr.out.later ((Later.refl _).more _), HO5.out.later.more _⟩
                        rw [List.length_drop, List.length_append, List.length_singleton]
                        rfl
                      · have hni := Lv.idx_neg (l := ints (p ++ [a])) (x := (m : Nat)) (by rw [hix]; exact h0)
                        obtain ⟨hix1, hmp⟩ := hni
                        rw [hix] at hix1
                        subst hix1
                        obtain ⟨hP1, hP2, hP3, hP4⟩ := hP.out
                        rw [Lv.leftB_iff, ← HTT.out] at hP4
                        obtain ⟨k, hk1, hk2⟩ := Lv.told_stuck (ns := ms) (i := a) (by rw [HNN.out]; exact haN) hP4.2
                        rw [Hro.out] at hk1
                        have hkN := HLi.out k hk1
                        have hsp := Lv.minNeed_spec (N := N) (U := Lv.unt ms) ro N (fun h => absurd h (by omega)) (Nat.le_refl _)
                        have hfold : ro.foldl (fun m k => if Lv.unt ms k = true then min m k else m) N = m := hMf
                        rw [hfold] at hsp
                        have hr5 := hs5
                        simp only [World.size_alloc] at hr5
                        have hmN3 : m < N := hsp.2.1 ⟨k, hk1, Lv.unt_iff.2 ⟨by rw [HNN.out]; exact hkN, hk2⟩, hkN⟩
                        have hmU : Lv.leftB N T (m : Nat) = true := by
                          have := (hsp.2.2 hmN3).1
                          unfold Lv.unt at this
                          rw [HNN.out, HTT.out] at this
                          exact this
                        have hmp2 : m ∉ p ++ [a] := fun h => hmp (List.mem_map.2 ⟨m, h, rfl⟩)
                        have hnd : (p ++ [a]).Nodup := by
                          rw [List.nodup_append]
                          exact ⟨hP2, by simp, fun x hx y hy => by simp at hy; subst hy; exact fun e => hP1 (e ▸ hx)⟩
                        have hltN : ∀ x ∈ p ++ [a], x < N := fun x hx => by
                          rcases List.mem_append.1 hx with hx | hx
                          · exact hP3 x hx
                          · simp at hx; omega
                        have hlen := Lv.pigeon N (p ++ [a]) hnd hltN
                        rw [List.length_append, List.length_singleton] at hlen
                        have HP2 : Hid (m ∉ p ++ [a] ∧ (p ++ [a]).Nodup ∧ (∀ x ∈ p ++ [a], x < N) ∧ Lv.leftB N T (m : Nat) = true) := Lib.hid ⟨hmp2, hnd, hltN, hmU⟩
                        have HFn : Hid (Lv.walkF ms (Lv.unt ms) (N + 1 - (p ++ [a]).length) (p ++ [a]) m = W) := Lib.hid (by
                          rw [← hF.out, hfs, Lv.walkF, HNN.out, Hro.out, hMf, hix, if_neg (by decide), List.length_append, List.length_singleton])
                        clear hsp hfold hmU hmp2 hnd hltN hmp hk1 hk2 hP1 hP2 hP3 hP4 hMf hix hfs h0
                        go_wp2_with (go_at_call 30; refine (HIx.out _ HI5.out).mono ?_; rintro e w8 ⟨rfl, g8, rfl⟩)
                        go_roundw
                        case rel => exact ⟨p ++ [a], m, rfl, by simpa using hlen, hmN3, Lib.hid (by have := Hown5.out.later (w' := more wr g8) ((Later.refl _).more _); rw [List.length_append] at this; exact this), HP2, HFn, Lib.hid (ownsMap_later HMw5.out ((Later.refl _).more _)), Lib.hid (HO5.out.more _), by simp; omega⟩
                        case measure => simp [lenOf]; omega
              · intro x c w1 cnt1 hwx hwc hlx hat hrg1 hlt hg1 hs1 hen
                have hSx : Lv.leftB N T x = true := by rw [← HS3.out.has]; exact has_true_of_atKey hat
                have hx0 := hSx
                simp only [Lv.leftB, Bool.and_eq_true, decide_eq_true_eq] at hx0
                obtain ⟨k, rfl⟩ : ∃ k : Nat, x = (k : Int) := ⟨x.toNat, by omega⟩
                obtain ⟨z, hz⟩ : ∃ z, min m k = z := ⟨_, rfl⟩
                have HU5 : Hid (z < N → Lv.leftB N T (z : Nat) = true) := Lib.hid (fun h => by
                  by_cases e : m ≤ k
                  · have : z = m := by omega
                    rw [this]; exact hU.out (by omega)
                  · have : z = k := by omega
                    rw [this]; exact hSx)
                have HA5 : Hid (∀ j, j < N → Lv.leftB N T (j : Nat) = true → (left (.int .i64 (j : Nat)) && !(Lit.int .i64 (j : Nat)).sameKey (.int .i64 (k : Nat))) = true ∨ z ≤ j) := Lib.hid (fun j hj h => by
                  rcases hA.out j hj h with h1 | h1
                  · by_cases e : j = k
                    · exact .inr (by omega)
                    · exact .inl (by rw [h1, Maps.sameKey_ne (lit_ne (by omega))]; rfl)
                  · exact .inr (by omega))
                clear hx0
                go_wp2_with fail
                go_roundw
                case rel => exact ⟨_, cnt1, z, by omega, by rw [show min (m : Int) (k : Int) = ((z : Nat) : Int) by omega], Lib.hid hrg1, Lib.hid HU5.out, Lib.hid HA5.out, Lib.hid (hO.out.trans (Only.grown hg1) (fun b _ e => by injection e with e; omega))⟩
                case measure => rw [hrg1.left_eq, hrg.out.left_eq]; omega
theorem round_any (ns : List (List Int)) (A : Option Addr) (c : Nat) (w : World) (hN : NeedsR w A ns) (hn : ns.length ≤ 1000) (hr : ∀ i, (ns.getD i []).length ≤ 1000) :
    Calls Try.prog 18 #[.slice A ns.length c] w (RetLB w (Lv.roundL ns) (Lv.roundB ns)) := by
  cases hm : Lv.mayB ns
  · have h1 : Lv.roundB ns = false := by simp [Lv.roundB, hm]
    have h2 : Lv.roundL ns = [] := by simp [Lv.roundL, h1]
    rw [h1, h2]
    exact round_bad ns A c w hN hn hr hm
  · have := round_core (Lv.nat ns) A c w (by rw [Lv.may_nat hm]; exact hN) (Lv.may_lt hm) (by rw [Lv.nat_len]; exact hn) (fun i => by rw [nat_row_len]; exact hr i)
      (fun w' h => by rw [Lv.nat_len]; exact may_is hm A c w' (by rw [Lv.may_nat hm] at h; exact h) hn hr)
    rw [Lv.nat_len] at this
    have h1 : Lv.roundB ns = decide ((Lv.told (Lv.nat ns)).length < ns.length) := by simp [Lv.roundB, hm]
    have h2 : Lv.roundL ns = if (Lv.told (Lv.nat ns)).length < ns.length then Lv.walkF (Lv.nat ns) (Lv.unt (Lv.nat ns)) (ns.length + 1) [] (Lv.first (Lv.unt (Lv.nat ns)) ns.length) else [] := by
      unfold Lv.roundL
      rw [h1]
      simp only [decide_eq_true_eq]
    rw [h1, h2]
    exact this
end Go.Proofs.Ytbdhjoanjlkggaa
