/-
  No statement of the seat is proved here. The walk of LevelDepth.
-/
import Derived.Test.YtbdhjoanjlkggaaDPl
import Derived.Outline
namespace Go.Proofs.Ytbdhjoanjlkggaa
open Go Go.RowKit
set_option linter.unusedVariables false
/-- What the law's closure reads: the depths, and one number. -/
structure Caps (w : World) (bd be : Nat) (A : Option Addr) (N c : Nat) (D : Nat → Nat) (d : Nat) : Prop where
  cd : w.cell? ⟨bd, 0, none⟩ = some (.slice A N c)
  ld : bd < w.heap.size
  ce : w.cell? ⟨be, 0, none⟩ = some (.int .i64 (d : Nat))
  le : be < w.heap.size
  ints : IntsR w A (ints ((List.range N).map D))
theorem Caps.later {w w' : World} {bd be N c d : Nat} {A : Option Addr} {D : Nat → Nat} (h : Caps w bd be A N c D d) (hl : Later w w') : Caps w' bd be A N c D d :=
  ⟨by rw [cell_later' hl h.ld]; exact h.cd, later_lt hl h.ld, by rw [cell_later' hl h.le]; exact h.ce, later_lt hl h.le, h.ints.later hl⟩
theorem Caps.at_ {w : World} {bd be N c d : Nat} {A : Option Addr} {D : Nat → Nat} (h : Caps w bd be A N c D d) {y : Nat} (hy : y < N) : ∃ b off, A = some ⟨b, off, none⟩ ∧ b < w.heap.size ∧ w.cell? ⟨b, off + y, none⟩ = some (.int .i64 (D y : Nat)) := by
  obtain ⟨b, off, hA, hb, hc⟩ := h.ints y (by rw [ints_len, List.length_map, List.length_range]; exact hy)
  exact ⟨b, off, hA, hb, by rw [hc, Lv.dl_get hy]⟩
theorem clo29 {w : World} {bd be N c d e y : Nat} {A : Option Addr} {D : Nat → Nat} {v : Bool} (hv : decide (D y = e) = v) (hd : d = e + 1) (hdb : d ≤ 1000) (hy : y < N) (h : Caps w bd be A N c D d) :
    Calls Try.prog 29 #[.int .i64 (y : Nat), .pointer (some ⟨bd, 0, none⟩), .pointer (some ⟨be, 0, none⟩)] w (Ret w (.bool v)) := by
  obtain ⟨b, off, rfl, hb, hc⟩ := h.at_ hy
  have c1 := h.cd
  have l1 := h.ld
  have c2 := h.ce
  have l2 := h.le
  have hsub : (d : Int) - 1 = ((e : Nat) : Int) := by omega
  clear h hd
  generalize D y = z at *
  go_enter Try.func29, Try.ntmps29
  go_wp2_with fail
  refine wp_region_later (by kernel_rfl) (by kernel_rfl) ?_
  repeat (go_big_quiet_step (fail))
  refine wpQuiet_nil ?_
  rintro _ ⟨g2, rfl⟩
  go_wp2_with fail
  go_ret
  exact Ret.mk' (by
    rw [← hv]
    show Value.bool (((z : Nat) : Int) == ((e : Nat) : Int)) = _
    congr 1
    rw [Bool.eq_iff_iff]
    simp
    omega) ((Later.refl _).more _)
set_option maxHeartbeats 1000000 in
theorem index38_29 {w : World} {bd be N c d e cap : Nat} {A Ar : Option Addr} {D : Nat → Nat} {l : List Nat} (hd : d = e + 1) (hdb : d ≤ 1000) (hl : l.length ≤ 1000) (hlt : ∀ y ∈ l, y < N) (hex : ∃ y ∈ l, D y = e) (hI : IntsR w Ar (ints l)) (h : Caps w bd be A N c D d) :
    Calls Try.prog 38 #[.slice Ar l.length cap, .func (.func 29) #[] #[.pointer (some ⟨bd, 0, none⟩), .pointer (some ⟨be, 0, none⟩)]] w (fun en w' => ∃ V : Int, en = .returned (.int .i64 V) ∧ 0 ≤ V ∧ Later w w') := by
  have HI := Lib.hid hI
  have HC := Lib.hid h
  have HX := Lib.hid hex
  have HLt := Lib.hid hlt
  have HClo := Lib.hid (fun (w' : World) (y : Nat) (v : Bool) (hv : decide (D y = e) = v) (hy : y < N) (h : Caps w' bd be A N c D d) => clo29 hv hd hdb hy h)
  clear hI h hex hlt hd
  go_enter Try.func38, Try.ntmps38
  go_wp2_with fail
  go_loopw [8] (fun i wr => ∃ (k : Nat) (g : Grow), k ≤ l.length ∧ i = .int .i64 k ∧ Hid (∀ j, j < k → D (l.getD j 0) ≠ e) ∧ wr = more w g) (fun i _ => l.length - (intOf i).toNat)
  case atStart => exact ⟨0, ⟨#[], w.drawn⟩, Nat.zero_le _, rfl, Lib.hid (fun j hj => by omega), by simp [more]⟩
  case round =>
    obtain ⟨k, g, hk, rfl, hF, rfl⟩ := hrel
    by_cases hkl : k < l.length
    · obtain ⟨bl, off, rfl, hbl, hcell⟩ := HI.out.at_ hkl
      obtain ⟨y, hy⟩ : ∃ y, l.getD k 0 = y := ⟨_, rfl⟩
      have hym : y ∈ l := by rw [← hy, List.getD_eq_getElem?_getD, List.getElem?_eq_getElem hkl]; exact List.getElem_mem _
      have hyN := HLt.out y hym
      rw [hy] at hcell
      have Hy := Lib.hid hy
      have HyN := Lib.hid hyN
      clear hy hym hyN
      by_cases hw : D y = e
      · have HW := Lib.hid (decide_eq_true hw)
        clear hw
        go_wp2_with (go_at_call 29; refine (HClo.out _ y true HW.out HyN.out (HC.out.later ((Later.refl _).more _))).mono ?_; rintro e w' ⟨rfl, g2, rfl⟩)
        go_ret
        exact ⟨k, rfl, by omega, (Later.refl _).more _⟩
      · have HW := Lib.hid (decide_eq_false hw)
        have HNe := Lib.hid hw
        clear hw
        go_wp2_with (go_at_call 29; refine (HClo.out _ y false HW.out HyN.out (HC.out.later ((Later.refl _).more _))).mono ?_; rintro e w' ⟨rfl, g2, rfl⟩)
        go_roundw
        case rel => exact ⟨k + 1, _, by omega, by go_num, Lib.hid (fun j hj => by by_cases ej : j = k
                                                                                  · rw [ej, Hy.out]; exact HNe.out
                                                                                  · exact hF.out j (by omega)), rfl⟩
        case measure => simp [intOf]; omega
    · exfalso
      obtain ⟨y, hy, he⟩ := HX.out
      obtain ⟨j, hj, rfl⟩ := List.mem_iff_getElem.1 hy
      have := hF.out j (by omega)
      rw [List.getD_eq_getElem?_getD, List.getElem?_eq_getElem hj] at this
      exact this he
theorem contains28_29 {w : World} {bd be N c d e cap : Nat} {A Ar : Option Addr} {D : Nat → Nat} {l : List Nat} (hd : d = e + 1) (hdb : d ≤ 1000) (hl : l.length ≤ 1000) (hlt : ∀ y ∈ l, y < N) (hex : ∃ y ∈ l, D y = e) (hI : IntsR w Ar (ints l)) (h : Caps w bd be A N c D d) :
    Calls Try.prog 28 #[.slice Ar l.length cap, .func (.func 29) #[] #[.pointer (some ⟨bd, 0, none⟩), .pointer (some ⟨be, 0, none⟩)]] w (Ret w (.bool true)) := by
  have HX := Lib.hid (index38_29 (cap := cap) hd hdb hl hlt hex hI h)
  clear hI h hd hlt hex
  go_enter Try.func28, Try.ntmps28
  go_wp2_with (go_at_call 38; (with_reducible refine HX.out.mono ?_); rintro e w' ⟨V, rfl, hV, g, rfl⟩; have HV := Lib.hid hV; clear hV)
  go_ret
  exact Ret.mk' (by have := HV.out; show Value.bool (decide (0 ≤ V)) = _; rw [decide_eq_true this]) ((Later.refl _).more _)
theorem OwnN.addr {w : World} {base n c : Nat} {A : Option Addr} {ns : List (List Int)} (h : OwnN w base (.slice A n c) ns) (h0 : 0 < ns.length) : ∃ g, A = some ⟨g, 0, none⟩ ∧ base ≤ g ∧ g < w.heap.size ∧ ns.length ≤ c ∧ ∀ k, w.frozen? ⟨g, k, none⟩ = false := by
  obtain ⟨vs, h1, h2⟩ := h
  rcases h1.2 with ⟨_, e⟩ | ⟨g, cap, cur, hv, hb, hg, q1, q2, q3, q4⟩
  · omega
  · injection hv with e1 e2 e3
    subst e1 e3
    refine ⟨g, rfl, hb, (Array.getElem?_eq_some_iff.1 hg).1, q1, fun k => ?_⟩
    unfold World.frozen?
    simp only [hg]
    simp
theorem OwnN.cell {w : World} {base n c g : Nat} {ns : List (List Int)} (h : OwnN w base (.slice (some ⟨g, 0, none⟩) n c) ns) {i : Nat} (hi : i < ns.length) : ∃ u, w.cell? ⟨g, i, none⟩ = some u ∧ OwnI w base u (ns.getD i []) := by
  obtain ⟨vs, h1, h2⟩ := h
  rcases h1.2 with ⟨_, e⟩ | ⟨g', cap, cur, hv, hb, hg, q1, q2, q3, q4⟩
  · omega
  · injection hv with e1 e2 e3
    injection e1 with e1
    injection e1 with e1 _ _
    subst e1 e3
    obtain ⟨u, h5, hO⟩ := h2.at_ i hi
    refine ⟨u, ?_, hO⟩
    rw [← q4, List.getElem?_take, if_pos (by omega), Array.getElem?_toList] at h5
    unfold World.cell?
    simp only [hg]
    exact h5
theorem OwnN.set {w : World} {base n c g : Nat} {ns : List (List Int)} {x : Value} {r : List Int} (h : OwnN w base (.slice (some ⟨g, 0, none⟩) n c) ns) {i : Nat} (hi : i < ns.length) (hx : OwnI w base x r) :
    OwnN (w.setCell ⟨g, i, none⟩ x) base (.slice (some ⟨g, 0, none⟩) n c) (ns.set i r) := by
  obtain ⟨vs, h1, h2⟩ := h
  have ho : Only w (w.setCell ⟨g, i, none⟩ x) fun k => k = g := (Only.refl w fun k => k = g).setCell (p := ⟨g, i, none⟩) (.inl rfl) x
  have hfar : ∀ (u : Value) (r' : List Int), OwnI w base u r' → OwnI (w.setCell ⟨g, i, none⟩ x) base u r' := fun u r' hO => hO.only ho (fun b hb e => own_apart h1 hO b hb (by rw [e]; rfl))
  refine ⟨vs.set i x, ?_, RowsO.set (hfar _ _ hx) i (h2.imp (P := fun _ => True) (fun u r' _ hO => hfar u r' hO) (fun _ _ => trivial))⟩
  rw [List.length_set]
  rcases h1.2 with ⟨_, e⟩ | ⟨g', cap, cur, hv, hb, hg, q1, q2, q3, q4⟩
  · omega
  · refine ⟨by rw [List.length_set]; exact h1.1, .inr ⟨g', cap, cur.setIfInBounds i x, hv, hb, ?_, q1, q2, by simpa using q3, ?_⟩⟩
    · injection hv with e1 e2 e3
      injection e1 with e1
      injection e1 with e1 _ _
      subst e1
      unfold World.setCell
      simp only [Array.getElem?_modify, if_true]
      simp only [hg, Option.map_some]
      simp
    · rw [← q4, Array.toList_setIfInBounds, List.take_set]
theorem depth_ms {ms : List (List Nat)} {N : Nat} (hf : Lv.Fine ms) (hl : Lv.Low ms) (hN : ms.length = N) (A : Option Addr) (c : Nat) (w : World) (hA : NeedsR w A (toI ms)) :
    Calls Try.prog 16 #[.slice A N c] w (RetLE w ((List.range N).map (Lv.dAll ms (Lv.told ms) fun _ => 0)) 0) := by
  subst hN
  have h := depth_any (toI ms) A c w hA (by rw [toI_len]; exact hf.1) (fun i => by rw [toI_row, ints_len]; exact hf.2.1 i)
  have e0 : ¬ (Lv.told ms).length < ms.length := Lv.low_told hl
  have e1 : Lv.orderE (toI ms) = 0 := by
    unfold Lv.orderE
    rw [Lv.fine_may hf, Lv.nat_toI, toI_len, if_neg e0]
    simp
  have e2 : Lv.orderL (toI ms) = Lv.told ms := by
    unfold Lv.orderL
    rw [Lv.fine_may hf, Lv.nat_toI, toI_len, if_neg e0]
    simp
  have e3 : Lv.depthL (toI ms) = (List.range ms.length).map (Lv.dAll ms (Lv.told ms) fun _ => 0) := by
    unfold Lv.depthL Lv.depthF
    rw [if_pos e1, e2, Lv.nat_toI, toI_len]
  rw [toI_len, e1, e3] at h
  exact h
theorem Lv.lessRow_next {i q x : Nat} {r : List Nat} (hi : 0 < i) (hq : q < r.length) (hx : r.getD q 0 = x) : lessRow i (r.take (q + 1)) = lessRow i (r.take q) ++ [x % i] := by
  have e : r[q] = x := by rw [← hx, List.getD_eq_getElem?_getD, List.getElem?_eq_getElem hq]; rfl
  unfold lessRow
  rw [if_neg (by omega), if_neg (by omega), List.take_succ_eq_append_getElem hq, List.map_append, e]
  rfl
theorem Lv.lessRow_few {i q : Nat} {r : List Nat} (hi : 0 < i) (hq : q ≤ r.length) : (lessRow i (r.take q)).length = q := by
  unfold lessRow
  rw [if_neg (by omega), List.length_map, List.length_take]
  omega
@[go_sem] theorem dec_pos {q : Nat} (h : 0 < q) : decide (0 < q) = true := decide_eq_true h
set_option maxRecDepth 100000 in
set_option maxHeartbeats 8000000 in
theorem depth_walk0 (rs : List (List Nat)) (ms : List (List Nat)) (A : Option Addr) (c : Nat) (w : World) (hB : Calls Try.prog 8 #[.slice A rs.length c] w (RetNN w (toI ms))) (hf : Lv.Fine ms) :
    Calls Try.prog 5 #[.slice A rs.length c] w (Ret w (.bool true)) := by
  obtain ⟨i3, hi3, hz3, hs3, hy3⟩ := info_parts (P := Try.prog) (e := 3) (z := .int .i64 0) (size := 1) (bytes := 8) info3
  have HBr := Lib.hid hB
  obtain ⟨N, hNN⟩ : ∃ N, ms.length = N := ⟨_, rfl⟩
  have HNN := Lib.hid hNN
  have hN40 := hf.1
  rw [hNN] at hN40
  clear hNN
  go_enter Try.func5, Try.ntmps5
  go_wp2_with (first
    | (go_at_call 8; refine HBr.out.mono ?_; rintro e w1 ⟨v1, rfl, hO1, hL1⟩; obtain ⟨A1, c1, hv1, _, _⟩ := hO1.form; rw [toI_len, HNN.out] at hv1; subst hv1))
  have HO1 := Lib.hid (by rw [← Lv.lessM_zero ms] at hO1; exact hO1)
  have HL1 := Lib.hid hL1
  have HFi := Lib.hid hf
  clear hO1 hL1 HBr hB hf
  go_loopw [4, 5, 7, 24] (fun _ _ _ j wr => ∃ i : Nat, i ≤ N ∧ j = .int .i64 i ∧ Hid (OwnN wr w.heap.size (.slice A1 N c1) (toI (Lv.lessM ms i))) ∧ Hid (Later w wr)) (fun _ _ _ j _ => N - (intOf j).toNat)
  case atStart => exact ⟨0, Nat.zero_le _, rfl, HO1, HL1⟩
  case round =>
    obtain ⟨i, hi, rfl, hO, hL⟩ := hrel
    have hlen : (toI (Lv.lessM ms i)).length = N := by rw [toI_len, Lv.lessM_len, HNN.out]
    by_cases hiN : i < N
    · obtain ⟨g, rfl, hgb, hgl, hgc, hgf⟩ := hO.out.addr (by omega)
      obtain ⟨u, hcu, hOu⟩ := hO.out.cell (i := i) (by omega)
      rw [toI_row, Lv.lessM_row, if_neg (by omega)] at hOu
      obtain ⟨ro, hro⟩ : ∃ ro, Lv.row ms i = ro := ⟨_, rfl⟩
      have Hro := Lib.hid hro
      rw [hro] at hOu
      obtain ⟨Ai, ci, hu, _, hIi, _, _⟩ := hOu.form
      rw [ints_len] at hu
      subst hu
      have HIi := Lib.hid hIi
      have hri : ro.length ≤ 1000 := by rw [← hro]; exact HFi.out.2.1 i
      have Hlen := Lib.hid hlen
      have Hgf := Lib.hid hgf
      have hf0 := hgf i
      obtain ⟨w0, hw0⟩ : ∃ w0, w0 = wr := ⟨_, rfl⟩
      subst hw0
      clear hro hOu hIi hlen hgf
      go_wp2_with fail
      go_loopw [5, 7, 32] (fun v _ j wr => ∃ q : Nat, q ≤ ro.length ∧ j = .int .i64 q ∧ Hid (OwnL wr w0.heap.size v (Lv.lessRow i (ro.take q))) ∧ Hid (Later w0 wr)) (fun _ _ j _ => ro.length - (intOf j).toNat)
      case atStart => exact ⟨0, Nat.zero_le _, rfl, Lib.hid (by rw [show Lv.lessRow i (ro.take 0) = [] by unfold Lv.lessRow; simp]; exact OwnL.nil _ _), Lib.hid (Later.refl _)⟩
      case round =>
        obtain ⟨q, hq, rfl, hOw, hL1⟩ := hrel
        by_cases hql : q < ro.length
        · obtain ⟨b2, o2, rfl, hb2, hc2⟩ := (HIi.out.later hL1.out).at_ hql
          obtain ⟨x, hx⟩ : ∃ x, ro.getD q 0 = x := ⟨_, rfl⟩
          rw [hx] at hc2
          have Hx := Lib.hid hx
          clear hx
          by_cases h0 : i = 0
          · have hst : Lv.lessRow i (ro.take (q + 1)) = Lv.lessRow i (ro.take q) := by unfold Lv.lessRow; rw [if_pos h0, if_pos h0]
            have Hst := Lib.hid hst
            have hi0 : ¬ 0 < i := by omega
            clear hst h0
            go_wp2_with fail
            go_roundw
            case rel => exact ⟨q + 1, by omega, by go_num, Lib.hid (by rw [Hst.out]; exact hOw.out), hL1⟩
            case measure => simp [intOf]; omega
          · have hi0 : 0 < i := by omega
            have hi1 : ((i : Int) == 0) = false := by rw [beq_eq_false_iff_ne]; omega
            obtain ⟨y, hy⟩ : ∃ y, x % i = y := ⟨_, rfl⟩
            have hmod : (x : Int) % (i : Int) = ((y : Nat) : Int) := by rw [← hy]; rfl
            have hnext := Lv.lessRow_next hi0 hql Hx.out
            have hlen := Lv.lessRow_few (q := q) (r := ro) hi0 (by omega)
            rw [hy] at hnext
            obtain ⟨l, hl⟩ : ∃ l, Lv.lessRow i (ro.take q) = l := ⟨_, rfl⟩
            rw [hl] at hOw hlen hnext
            have Hnext := Lib.hid hnext
            have hr1 : w0.heap.size ≤ wr.heap.size := hL1.out.below.size
            obtain ⟨Ap, cp, hv, _, hob⟩ := hOw.out.form
            have Hob := Lib.hid hob
            subst hv hlen
            clear hob hl hy hnext
            go_wp2_with (at_builtin; refine wpList_append_own_at _ rfl _ _ 26 rfl w0.heap.size 3 i3 (.int .i64 0) 1 8 Try.underlying26 hi3 hz3 hs3 hy3 rfl (by decide) _ _ _ rfl (World.ownsRow.alloc hOw.out _) ⟨wr.heap.size, 0, none⟩ 1 1 [.int .i64 (y : Nat)] rfl rfl (cell_one_new _ _ _) (fun x hx => by simp at hx; subst hx; rfl) (by unfold maxLen; omega) (by omega) (by simp; omega) ?_; intro v' w5 hown5 hgrow5 hnil5 hat5; have HO5 := Lib.hid ((Only.of_later hL1.out fun k => w0.heap.size ≤ k).trans (((Only.refl wr fun c => (Value.slice Ap l.length cp).ownBlock = some c).alloc _).trans (Only.grown hgrow5) (fun _ _ h => h)) (fun c _ e => (Hob.out c e).1)); have Hown5 := Lib.hid (OwnL.snoc hown5); clear hown5 hgrow5 hnil5 hat5)
            go_roundw
            case rel => exact ⟨l.length + 1, by omega, by go_num, Lib.hid (by rw [Hnext.out]; exact Hown5.out), Lib.hid HO5.out.later⟩
            case measure => simp [intOf]; omega
        · obtain rfl : q = ro.length := by omega
          rw [List.take_length] at hOw
          obtain ⟨l, hl⟩ : ∃ l, Lv.lessRow i ro = l := ⟨_, rfl⟩
          rw [hl] at hOw
          obtain ⟨Ax, cx, hv, _, _⟩ := hOw.out.form
          subst hv
          have HX := Lib.hid (hOw.out.int.mono (show w.heap.size ≤ w0.heap.size from hL.out.below.size))
          have hcw := (cell_later' (o := i) hL1.out hgl).trans hcu
          have hfw : wr.frozen? ⟨g, i, none⟩ = false := by
            obtain ⟨_, hA, _, _, _, hfz⟩ := (hO.out.later hL1.out).addr (by rw [Hlen.out]; omega)
            injection hA with e
            injection e with e _ _
            rw [e]
            exact hfz i
          have hglw := later_lt hL1.out hgl
          have HOn : Hid (OwnN (wr.setCell ⟨g, i, none⟩ (.slice Ax l.length cx)) w.heap.size (.slice (some ⟨g, 0, none⟩) N c1) (toI (Lv.lessM ms (i + 1)))) := Lib.hid (by
            have := (hO.out.later hL1.out).set (i := i) (by rw [Hlen.out]; exact hiN) HX.out
            rw [Lv.lessM_next (by rw [HNN.out]; exact hiN), Hro.out, hl]
            unfold toI at this ⊢
            rw [List.map_set]
            exact this)
          have HLn := Lib.hid ((hL.out.trans hL1.out).setCell (p := ⟨g, i, none⟩) hgb (.slice Ax l.length cx))
          clear hl
          go_wp2_with fail
          go_roundw
          case rel => exact ⟨i + 1, by omega, by go_num, HOn, HLn⟩
          case measure => simp [intOf]; omega
    · obtain rfl : N = i := by omega
      have hF2 := Lv.less_fine HFi.out
      have hLow := Lv.less_low ms
      have hML := Lv.lessM_len ms ms.length
      rw [HNN.out] at hF2 hLow hML
      obtain ⟨M, hM⟩ : ∃ M, Lv.lessM ms N = M := ⟨_, rfl⟩
      rw [hM] at hF2 hLow hML hO
      obtain ⟨_, _, hvv, hNM, _⟩ := hO.out.form
      injection hvv with hv1 hv2 hv3
      rw [← hv1] at hNM
      clear hv1 hv2 hv3
      have HNM := Lib.hid hNM
      have HDe := Lib.hid (fun A c w h => depth_ms hF2 hLow hML A c w h)
      have HDw := Lib.hid (fun x (hx : x < M.length) => Lv.depth_want hLow hx)
      have HDl := Lib.hid (fun x (hx : x < M.length) => Lv.depth_le hLow x x (Nat.le_refl _) hx)
      have HLow := Lib.hid hLow
      have HF2 := Lib.hid hF2
      rw [hML] at HDw HDl
      have HML := Lib.hid hML
      obtain ⟨D, hD⟩ : ∃ D, Lv.dAll M (Lv.told M) (fun _ => 0) = D := ⟨_, rfl⟩
      rw [hD] at HDw HDl HDe
      have hdl : (ints ((List.range N).map D)).length = N := by rw [ints_len, List.length_map, List.length_range]
      have hdl2 : ((List.range N).map D).length = N := by rw [List.length_map, List.length_range]
      have Hdl2 := Lib.hid hdl2
      clear hM hNM hF2 hLow hML hD hlen hO HFi hdl2
      go_wp2_with (first
        | (go_at_call 10; have hq := hL2; refine (wakes_ok _).mono ?_; rintro e w3 ⟨rfl, hL3⟩; have hbx := cell_lit hL3 0; have hbl := lit_lt hL3)
        | (go_at_call 16; refine (HDe.out A1 c1 _ HNM.out).mono ?_; rintro e w2 ⟨v2, rfl, hO2, hL2⟩; obtain ⟨A2, c2, hv2, hI2, _⟩ := hO2.form; rw [Hdl2.out] at hv2; subst hv2; clear hO2))
      have hbx2 : w3.cell? ⟨w2.heap.size, 0, none⟩ = some (.slice A2 N c2) := hbx
      have hl23 : Later w2 w3 := ((Later.refl w2).alloc _).trans hL3
      have HI3 := Lib.hid (hI2.later hl23)
      have HN3 := Lib.hid (HNM.out.later (hL2.trans hl23))
      have HLw := Lib.hid ((hL.out.trans hL2).trans hl23)
      have HLay := Lib.hid (fun w' (h : IntsR w' A2 (ints ((List.range N).map D))) => layers24 (ints ((List.range N).map D)) A2 c2 w' h (by rw [hdl]; omega) (fun i hi => by
        rw [hdl] at hi
        rw [Lv.dl_get hi]
        have := HDl.out i hi
        omega))
      obtain ⟨L, hLe, hLD, hLb⟩ := Lv.layers_lay D N
      rw [hLe, hdl] at HLay
      have HLD := Lib.hid hLD
      have hLb2 : L ≤ 1001 := hLb (fun i hi => by have := HDl.out i hi; omega)
      obtain ⟨BD, hBD⟩ : ∃ BD, w2.heap.size = BD := ⟨_, rfl⟩
      rw [hBD] at hbx2 hbl ⊢
      clear hbx hI2 hL hL2 hL3 hl23 HDe HNM hLe hLD hLb hBD hdl
      go_loopw [10, 11, 12, 14, 70] (fun _ _ _ _ j wr => ∃ i : Nat, i ≤ N ∧ j = .int .i64 i ∧ wr = w3) (fun _ _ _ _ j _ => N - (intOf j).toNat)
      case atStart => exact ⟨0, Nat.zero_le _, rfl, rfl⟩
      case round =>
        obtain ⟨i, hi, rfl, rfl⟩ := hrel
        by_cases hiN : i < N
        · obtain ⟨b3, o3, Ai, ci, rfl, hb3, hc3, hI4⟩ := HN3.out.at_ (i := i) (by rw [HML.out]; exact hiN)
          have HI4 := Lib.hid hI4
          have hri := HF2.out.2.1 i
          have HLi := Lib.hid (HLow.out i)
          have hDi := HDw.out i hiN
          obtain ⟨bd, od, rfl, hbd, hcd⟩ := HI3.out i (by rw [ints_len, List.length_map, List.length_range]; exact hiN)
          rw [Lv.dl_get hiN] at hcd
          obtain ⟨ro, hro⟩ : ∃ ro, Lv.row M i = ro := ⟨_, rfl⟩
          rw [hro] at hc3 HI4 hri HLi hDi
          have HDi := Lib.hid hDi
          obtain ⟨di, hdi⟩ : ∃ di, D i = di := ⟨_, rfl⟩
          rw [hdi] at hcd HDi
          clear hro hI4 hDi hdi
          go_wp2_with fail
          go_loopw [12, 14, 77] (fun m _ j wr' => ∃ q : Nat, q ≤ ro.length ∧ j = .int .i64 q ∧ Hid (m = .int .i64 (Lv.want D (ro.take q) : Nat)) ∧ wr' = wr) (fun _ _ j _ => ro.length - (intOf j).toNat)
          case atStart => exact ⟨0, Nat.zero_le _, rfl, Lib.hid rfl, rfl⟩
          case round =>
            obtain ⟨q, hq, rfl, hm, rfl⟩ := hrel
            by_cases hql : q < ro.length
            · obtain ⟨b7, o7, rfl, hb7, hc7⟩ := HI4.out.at_ hql
              obtain ⟨x, hx⟩ : ∃ x, ro.getD q 0 = x := ⟨_, rfl⟩
              have hxm : x ∈ ro := by rw [← hx, List.getD_eq_getElem?_getD, List.getElem?_eq_getElem hql]; exact List.getElem_mem _
              have hxN : x < N := by have := HLi.out x hxm; omega
              rw [hx] at hc7
              obtain ⟨bd', od', hAA, _, hcx⟩ := HI3.out x (by rw [ints_len, List.length_map, List.length_range]; exact hxN)
              obtain ⟨rfl, rfl⟩ : bd = bd' ∧ od = od' := by injection hAA with e; injection e with e1 e2 _; exact ⟨e1, e2⟩
              rw [Lv.dl_get hxN] at hcx
              have hdb := HDl.out x hxN
              have hwn := Lv.want_next (D := D) hql hx
              obtain ⟨dx, hdx⟩ : ∃ dx, D x = dx := ⟨_, rfl⟩
              rw [hdx] at hcx hdb hwn
              obtain ⟨m1, hm1⟩ : ∃ m1, Lv.want D (ro.take q) = m1 := ⟨_, rfl⟩
              have hmv := hm.out
              rw [hm1] at hmv hwn
              subst hmv
              obtain ⟨m2, hm2⟩ : ∃ m2, max m1 (dx + 1) = m2 := ⟨_, rfl⟩
              rw [hm2] at hwn
              have Hwn := Lib.hid hwn
              have Hm2 := Lib.hid hm2
              clear hx hxm hAA hdx hm1 hwn hm2 hm
              go_wp2_with fail
              go_roundw
              case rel => exact ⟨q + 1, by omega, by go_num, Lib.hid (by rw [Hwn.out]; have := Hm2.out; congr 1; omega), trivial⟩
              case measure => simp [intOf]; omega
            · obtain rfl : q = ro.length := by omega
              have hmv := hm.out
              rw [List.take_length, ← HDi.out] at hmv
              subst hmv
              go_wp2_with fail
              go_roundw
              case rel => exact ⟨i + 1, by omega, by go_num, trivial⟩
              case measure => simp [intOf]; omega
        · obtain rfl : N = i := by omega
          go_wp2_with (go_at_call 24; refine (HLay.out _ HI3.out).mono ?_; rintro e w4 ⟨A4, c4, rfl, hN4, hL4⟩; rw [toI_len, List.length_map, List.length_range])
          have HI4 := Lib.hid (HI3.out.later hL4)
          have HN5 := Lib.hid (HN3.out.later hL4)
          have HLw4 := Lib.hid (HLw.out.trans hL4)
          have HLr := Lib.hid hN4
          have cb4 := (cell_later' (o := 0) hL4 hbl).trans hbx2
          have lb4 := later_lt hL4 hbl
          have Hcb := Lib.hid cb4
          have Hlb := Lib.hid lb4
          clear hN4 hL4 hbl hbx2 HI3 HN3 HLw cb4 lb4 HLay
          go_loopw [15, 16, 17, 18, 19, 99] (fun mv _ _ _ _ j wr => ∃ k m : Nat, k ≤ L ∧ j = .int .i64 k ∧ mv = .int .i64 m ∧ Hid (m = Lv.cum D N k) ∧ Hid (Later w4 wr)) (fun _ _ _ _ _ j _ => L - (intOf j).toNat)
          case atStart => exact ⟨0, 0, Nat.zero_le _, rfl, rfl, Lib.hid (Lv.cum_zero D N).symm, Lib.hid (Later.refl _)⟩
          case round =>
            obtain ⟨k, m, hk, rfl, rfl, hm, hL⟩ := hrel
            by_cases hkL : k < L
            · obtain ⟨b3, o3, Ai, ci, rfl, hb3, hc3, hI5⟩ := (HLr.out.later hL.out).at_ (i := k) (by rw [List.length_map, List.length_range]; exact hkL)
              have hrow : Lv.row ((List.range L).map (Lv.lay D N)) k = Lv.lay D N k := by
                unfold Lv.row
                rw [List.getD_eq_getElem?_getD, List.getElem?_map, List.getElem?_range hkL]
                rfl
              rw [hrow] at hc3 hI5
              have hll := Lv.lay_len D N k
              have HLm := Lib.hid (fun x (h : x ∈ Lv.lay D N k) => Lv.lay_mem.1 h)
              have HLu := Lib.hid (fun q (h : q + 1 < (Lv.lay D N k).length) => Lv.lay_up h)
              have hcn := Lv.cum_next D N k
              have hcl := Lv.cum_le D N (k + 1)
              have hmo := hm.out
              obtain ⟨lr, hlr⟩ : ∃ lr, Lv.lay D N k = lr := ⟨_, rfl⟩
              rw [hlr] at hc3 hI5 hll HLm HLu hcn
              have HI5 := Lib.hid hI5
              have Hcn := Lib.hid hcn
              have hmb : m + lr.length ≤ N := by omega
              clear hrow hlr hI5 hcn hcl hmo
              go_wp2_with fail
              have hLB : Later wr (wr.alloc (.cells #[.int .i64 (k : Nat)] 3)) := (Later.refl wr).alloc _
              have hbe := cell_lit (Later.refl (wr.alloc (.cells #[.int .i64 (k : Nat)] 3))) 0
              have hbl := lit_lt (Later.refl (wr.alloc (.cells #[.int .i64 (k : Nat)] 3)))
              obtain ⟨wB, hwB⟩ : ∃ wB, wr.alloc (.cells #[.int .i64 (k : Nat)] 3) = wB := ⟨_, rfl⟩
              rw [hwB] at hLB hbe hbl ⊢
              obtain ⟨be, hbee⟩ : ∃ be, wr.heap.size = be := ⟨_, rfl⟩
              rw [hbee] at hbe hbl ⊢
              have hL4B := hL.out.trans hLB
              have hbe2 : wB.cell? ⟨be, 0, none⟩ = some (.int .i64 (k : Nat)) := hbe
              have HCp := Lib.hid (show Caps wB BD be A2 N c2 D k from ⟨(cell_later' hL4B Hlb.out).trans Hcb.out, later_lt hL4B Hlb.out, hbe2, hbl, HI4.out.later hL4B⟩)
              have HI6 := Lib.hid (HI5.out.later hLB)
              have HN6 := Lib.hid (HN5.out.later hL4B)
              have HL4B := Lib.hid hL4B
              clear hwB hbee hLB hbe hbl hL4B hbe2
              go_loopw [18, 19, 106] (fun _ _ j wr' => ∃ (q : Nat) (g : Grow), q ≤ lr.length ∧ j = .int .i64 q ∧ wr' = more wB g) (fun _ _ j _ => lr.length - (intOf j).toNat)
              case atStart => exact ⟨0, ⟨#[], wB.drawn⟩, Nat.zero_le _, rfl, by simp [more]⟩
              case round =>
                obtain ⟨q, g, hq, rfl, rfl⟩ := hrel
                by_cases hql : q < lr.length
                · obtain ⟨b8, o8, rfl, hb8, hc8⟩ := HI6.out.at_ hql
                  obtain ⟨x, hx⟩ : ∃ x, lr.getD q 0 = x := ⟨_, rfl⟩
                  have hxm : x ∈ lr := by rw [← hx, List.getD_eq_getElem?_getD, List.getElem?_eq_getElem hql]; exact List.getElem_mem _
                  obtain ⟨hxN, hDx⟩ := HLm.out x hxm
                  rw [hx] at hc8
                  obtain ⟨b9, o9, rfl, hb9, hc9⟩ := HCp.out.at_ hxN
                  rw [hDx] at hc9
                  have q1 := HCp.out.cd
                  have q2 := HCp.out.ld
                  have q3 := HCp.out.ce
                  have q4 := HCp.out.le
                  obtain ⟨b5, o5, Ax, cx, rfl, hb5, hc5, hI7⟩ := HN6.out.at_ (i := x) (by rw [HML.out]; exact hxN)
                  have hrx := HF2.out.2.1 x
                  have HLx := Lib.hid (fun y (hy : y ∈ Lv.row M x) => show y < N by have := HLow.out x y hy; omega)
                  have hwx := HDw.out x hxN
                  rw [hDx] at hwx
                  obtain ⟨rx, hrxe⟩ : ∃ rx, Lv.row M x = rx := ⟨_, rfl⟩
                  rw [hrxe] at hc5 hI7 hrx HLx hwx
                  have HI7 := Lib.hid hI7
                  have Hwx := Lib.hid hwx
                  have Hx := Lib.hid hx
                  clear hx hxm hDx hrxe hI7 hwx
                  have hkk : (((k : Nat) : Int) == ((k : Nat) : Int)) = true := beq_self_eq_true _
                  have HQ : Hid (q = 0 ∨ ∃ p z, q = p + 1 ∧ z < x ∧ wB.cell? ⟨b8, o8 + p, none⟩ = some (.int .i64 (z : Nat))) := Lib.hid (by
                    rcases Nat.eq_zero_or_pos q with h | h
                    · exact .inl h
                    · obtain ⟨p, rfl⟩ : ∃ p, q = p + 1 := ⟨q - 1, by omega⟩
                      obtain ⟨b8', o8', hAA, _, hcz⟩ := HI6.out.at_ (p := p) (by omega)
                      obtain ⟨rfl, rfl⟩ : b8 = b8' ∧ o8 = o8' := by injection hAA with e; injection e with e1 e2 _; exact ⟨e1, e2⟩
                      have := HLu.out p hql
                      rw [Hx.out] at this
                      exact .inr ⟨p, _, rfl, this, hcz⟩)
                  by_cases hk0 : k = 0
                  · have hk1 : ¬ 0 < k := by omega
                    clear hk0
                    rcases HQ.out with h0 | ⟨p, z, hqp, hz, hcz⟩
                    · subst h0
                      rw [Nat.add_zero] at hc8
                      go_wp2_with fail
                      refine wp_region_more (by kernel_rfl) (by kernel_rfl) ?_
                      repeat (go_big_quiet_step (fail))
                      refine wpQuiet_nil ?_
                      rintro _ ⟨g2, rfl⟩
                      go_wp2_with fail
                      go_roundw
                      case rel => exact ⟨0 + 1, _, by omega, by go_num, rfl⟩
                      case measure => simp [intOf]; omega
                    · have hsub : (q : Int) - 1 = ((p : Nat) : Int) := by omega
                      have hq0 : 0 < q := by omega
                      have hpl : p < lr.length := by omega
                      clear hqp
                      go_wp2_with fail
                      refine wp_region_more (by kernel_rfl) (by kernel_rfl) ?_
                      repeat (go_big_quiet_step (fail))
                      refine wpQuiet_nil ?_
                      rintro _ ⟨g2, rfl⟩
                      go_wp2_with fail
                      go_roundw
                      case rel => exact ⟨q + 1, _, by omega, by go_num, rfl⟩
                      case measure => simp [intOf]; omega
                  · have hk1 : 0 < k := by omega
                    have HCon := Lib.hid (fun w' h1 h2 => contains28_29 (w := w') (bd := BD) (be := be) (N := N) (c := c2) (A := some ⟨b9, o9, none⟩) (D := D) (cap := cx) (d := k) (e := k - 1) (Ar := Ax) (l := rx) (by omega) (by omega) hrx HLx.out (by
                      obtain ⟨y, hy, he⟩ := Lv.want_pos (D := D) (r := rx) (by rw [← Hwx.out]; exact hk1)
                      rw [← Hwx.out] at he
                      exact ⟨y, hy, by omega⟩) h2 h1)
                    clear hk0
                    rcases HQ.out with h0 | ⟨p, z, hqp, hz, hcz⟩
                    · subst h0
                      rw [Nat.add_zero] at hc8
                      go_wp2_with fail
                      refine wp_region_more (by kernel_rfl) (by kernel_rfl) ?_
                      repeat (go_big_quiet_step (fail))
                      refine wpQuiet_nil ?_
                      rintro _ ⟨g2, rfl⟩
                      go_wp2_with (go_at_call 28; refine (HCon.out _ (HCp.out.later ((Later.refl _).more _)) (HI7.out.later ((Later.refl _).more _))).mono ?_; rintro e w' ⟨rfl, g3, rfl⟩)
                      go_roundw
                      case rel => exact ⟨0 + 1, _, by omega, by go_num, rfl⟩
                      case measure => simp [intOf]; omega
                    · have hsub : (q : Int) - 1 = ((p : Nat) : Int) := by omega
                      have hq0 : 0 < q := by omega
                      have hpl : p < lr.length := by omega
                      clear hqp
                      go_wp2_with fail
                      refine wp_region_more (by kernel_rfl) (by kernel_rfl) ?_
                      repeat (go_big_quiet_step (fail))
                      refine wpQuiet_nil ?_
                      rintro _ ⟨g2, rfl⟩
                      go_wp2_with (go_at_call 28; refine (HCon.out _ (HCp.out.later ((Later.refl _).more _)) (HI7.out.later ((Later.refl _).more _))).mono ?_; rintro e w' ⟨rfl, g3, rfl⟩)
                      go_roundw
                      case rel => exact ⟨q + 1, _, by omega, by go_num, rfl⟩
                      case measure => simp [intOf]; omega
                · obtain rfl : q = lr.length := by omega
                  have HMn : Hid (m + lr.length = Lv.cum D N (k + 1)) := Lib.hid (by rw [Hcn.out, ← hm.out])
                  go_wp2_with fail
                  go_roundw
                  case rel => exact ⟨k + 1, m + lr.length, by omega, by go_num, by go_num, HMn, Lib.hid (HL4B.out.more _)⟩
                  case measure => simp [intOf]; omega
            · obtain rfl : L = k := by omega
              have hmN : m = N := by rw [hm.out]; exact Lv.cum_all HLD.out
              subst hmN
              go_wp2_with fail
              go_ret
              exact Ret.mk (HLw4.out.trans hL.out)
theorem depth_walk (rs : List (List Nat)) (A : Option Addr) (c : Nat) (w : World) (hR : RowsB w A rs) (hn : rs.length ≤ c) (hc : c ≤ 9223372036854775807) : Calls Try.prog 5 #[.slice A rs.length c] w (Ret w (.bool true)) :=
  depth_walk0 rs _ A c w (brought_any rs A c w hR hn hc) (Lv.bro_fine rs)
end Go.Proofs.Ytbdhjoanjlkggaa
