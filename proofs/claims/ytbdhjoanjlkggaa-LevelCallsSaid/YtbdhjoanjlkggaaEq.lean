/-
  No statement of the seat is proved here. Contracts of slices.Equal, Index, Max, Clone, for every row that can be read.
-/
import Derived.Test.YtbdhjoanjlkggaaDep
import Derived.BigQuiet
import Derived.Shelf.SlicesE.Clone
namespace Go.Proofs.Ytbdhjoanjlkggaa
open Go Go.RowKit
set_option linter.unusedVariables false
set_option linter.unusedSimpArgs false
/-- A row of bools that is read. -/
def BoolsR (w : World) (A : Option Addr) (l : List Bool) : Prop := ∀ p, p < l.length → ∃ b off, A = some ⟨b, off, none⟩ ∧ b < w.heap.size ∧ w.cell? ⟨b, off + p, none⟩ = some (.bool (l.getD p false))
theorem BoolsR.later {w w' : World} {A : Option Addr} {l : List Bool} (h : BoolsR w A l) (hl : Later w w') : BoolsR w' A l := by
  intro p hp
  obtain ⟨b, off, hA, hb, hc⟩ := h p hp
  exact ⟨b, off, hA, later_lt hl hb, by rw [cell_later' hl hb]; exact hc⟩
theorem getD_ext {α : Type} {d : α} {l l' : List α} (hl : l.length = l'.length) (h : ∀ j, j < l.length → l.getD j d = l'.getD j d) : l = l' := by
  apply List.ext_getElem hl
  intro i h1 h2
  have := h i h1
  rw [List.getD_eq_getElem?_getD, List.getD_eq_getElem?_getD, List.getElem?_eq_getElem h1, List.getElem?_eq_getElem h2] at this
  exact this

set_option maxHeartbeats 1000000 in
theorem equal21 (l l' : List Int) (A B : Option Addr) (c d : Nat) (w : World) (hA : IntsR w A l) (hB : IntsR w B l') (hn : l.length ≤ 9223372036854775807) (hn' : l'.length ≤ 9223372036854775807) :
    Calls Try.prog 21 #[.slice A l.length c, .slice B l'.length d] w (Ret w (.bool (decide (l = l')))) := by
  by_cases hl : l'.length = l.length
  · have HA := Lib.hid hA
    have HB := Lib.hid hB
    have HL := Lib.hid hl
    clear hA hB
    rw [hl]
    clear hl hn'
    go_enter Try.func21, Try.ntmps21
    go_wp2_with fail
    go_loopw [13] (fun i wr => ∃ (k : Nat) (g : Grow), k ≤ l.length ∧ i = .int .i64 k ∧ Hid (∀ j, j < k → l.getD j 0 = l'.getD j 0) ∧ wr = more w g) (fun i _ => l.length - (intOf i).toNat)
    case atStart => exact ⟨0, ⟨#[], w.drawn⟩, Nat.zero_le _, rfl, Lib.hid (fun j hj => by omega), by simp [more]⟩
    case round =>
      obtain ⟨k, g, hk, rfl, hF, rfl⟩ := hrel
      by_cases hlt : k < l.length
      · obtain ⟨b1, o1, rfl, hb1, hc1⟩ := HA.out k hlt
        obtain ⟨b2, o2, rfl, hb2, hc2⟩ := HB.out k (by rw [HL.out]; exact hlt)
        obtain ⟨x, hx⟩ : ∃ x, l.getD k 0 = x := ⟨_, rfl⟩
        obtain ⟨y, hy⟩ : ∃ y, l'.getD k 0 = y := ⟨_, rfl⟩
        rw [hx] at hc1
        rw [hy] at hc2
        have Hx := Lib.hid hx
        have Hy := Lib.hid hy
        clear hx hy
        by_cases hxy : x = y
        · subst hxy
          go_wp2_with fail
          refine wp_region_more (by kernel_rfl) (by kernel_rfl) ?_
          repeat (go_big_quiet_step (fail))
          refine wpQuiet_nil ?_
          rintro _ ⟨g2, rfl⟩
          go_wp2_with fail
          go_roundw
          case rel => exact ⟨k + 1, _, by omega, by go_num, Lib.hid (fun j hj => by by_cases e : j = k
                                                                                    · rw [e, Hx.out, Hy.out]
                                                                                    · exact hF.out j (by omega)), rfl⟩
          case measure => simp [intOf]; omega
        · have hne : (x == y) = false := by simp [hxy]
          have hne' : (x != y) = true := by simp [hxy]
          have hD : Hid (decide (l = l') = false) := Lib.hid (by
            rw [decide_eq_false_iff_not]
            intro e
            subst e
            exact hxy (Hx.out.symm.trans Hy.out))
          go_wp2_with fail
          refine wp_region_more (by kernel_rfl) (by kernel_rfl) ?_
          repeat (go_big_quiet_step (fail))
          refine wpQuiet_nil ?_
          rintro _ ⟨g2, rfl⟩
          go_wp2_with fail
          go_ret
          rw [hD.out]
          exact Ret.mk ((Later.refl _).more _)
      · have hD : Hid (decide (l = l') = true) := Lib.hid (by
          rw [decide_eq_true_eq]
          exact getD_ext (d := 0) HL.out.symm (fun j hj => hF.out j (by omega)))
        go_wp2_with fail
        go_ret
        rw [hD.out]
        exact Ret.mk ((Later.refl _).more _)
  · have hne : ((l.length : Int) == (l'.length : Int)) = false := by rw [beq_eq_false_iff_ne]; omega
    have hne' : ((l.length : Int) != (l'.length : Int)) = true := by simp; omega
    have hD : Hid (decide (l = l') = false) := Lib.hid (by
      rw [decide_eq_false_iff_not]
      intro e
      subst e
      exact hl rfl)
    clear hA hB
    go_enter Try.func21, Try.ntmps21
    go_wp2_with fail
    go_ret
    rw [hD.out]
    exact Ret.mk (Later.refl _)

set_option maxHeartbeats 1000000 in
theorem equal22 (l l' : List Bool) (A B : Option Addr) (c d : Nat) (w : World) (hA : BoolsR w A l) (hB : BoolsR w B l') (hn : l.length ≤ 9223372036854775807) (hn' : l'.length ≤ 9223372036854775807) :
    Calls Try.prog 22 #[.slice A l.length c, .slice B l'.length d] w (Ret w (.bool (decide (l = l')))) := by
  by_cases hl : l'.length = l.length
  · have HA := Lib.hid hA
    have HB := Lib.hid hB
    have HL := Lib.hid hl
    clear hA hB
    rw [hl]
    clear hl hn'
    go_enter Try.func22, Try.ntmps22
    go_wp2_with fail
    go_loopw [13] (fun i wr => ∃ (k : Nat) (g : Grow), k ≤ l.length ∧ i = .int .i64 k ∧ Hid (∀ j, j < k → l.getD j false = l'.getD j false) ∧ wr = more w g) (fun i _ => l.length - (intOf i).toNat)
    case atStart => exact ⟨0, ⟨#[], w.drawn⟩, Nat.zero_le _, rfl, Lib.hid (fun j hj => by omega), by simp [more]⟩
    case round =>
      obtain ⟨k, g, hk, rfl, hF, rfl⟩ := hrel
      by_cases hlt : k < l.length
      · obtain ⟨b1, o1, rfl, hb1, hc1⟩ := HA.out k hlt
        obtain ⟨b2, o2, rfl, hb2, hc2⟩ := HB.out k (by rw [HL.out]; exact hlt)
        obtain ⟨x, hx⟩ : ∃ x, l.getD k false = x := ⟨_, rfl⟩
        obtain ⟨y, hy⟩ : ∃ y, l'.getD k false = y := ⟨_, rfl⟩
        rw [hx] at hc1
        rw [hy] at hc2
        have Hx := Lib.hid hx
        have Hy := Lib.hid hy
        clear hx hy
        by_cases hxy : x = y
        · subst hxy
          go_wp2_with fail
          refine wp_region_more (by kernel_rfl) (by kernel_rfl) ?_
          repeat (go_big_quiet_step (fail))
          refine wpQuiet_nil ?_
          rintro _ ⟨g2, rfl⟩
          go_wp2_with fail
          go_roundw
          case rel => exact ⟨k + 1, _, by omega, by go_num, Lib.hid (fun j hj => by by_cases e : j = k
                                                                                    · rw [e, Hx.out, Hy.out]
                                                                                    · exact hF.out j (by omega)), rfl⟩
          case measure => simp [intOf]; omega
        · have hne : (x == y) = false := by simp [hxy]
          have hne' : (x != y) = true := by simp [hxy]
          have hD : Hid (decide (l = l') = false) := Lib.hid (by
            rw [decide_eq_false_iff_not]
            intro e
            subst e
            exact hxy (Hx.out.symm.trans Hy.out))
          go_wp2_with fail
          refine wp_region_more (by kernel_rfl) (by kernel_rfl) ?_
          repeat (go_big_quiet_step (fail))
          refine wpQuiet_nil ?_
          rintro _ ⟨g2, rfl⟩
          go_wp2_with fail
          go_ret
          rw [hD.out]
          exact Ret.mk ((Later.refl _).more _)
      · have hD : Hid (decide (l = l') = true) := Lib.hid (by
          rw [decide_eq_true_eq]
          exact getD_ext (d := false) HL.out.symm (fun j hj => hF.out j (by omega)))
        go_wp2_with fail
        go_ret
        rw [hD.out]
        exact Ret.mk ((Later.refl _).more _)
  · have hne : ((l.length : Int) == (l'.length : Int)) = false := by rw [beq_eq_false_iff_ne]; omega
    have hne' : ((l.length : Int) != (l'.length : Int)) = true := by simp; omega
    have hD : Hid (decide (l = l') = false) := Lib.hid (by
      rw [decide_eq_false_iff_not]
      intro e
      subst e
      exact hl rfl)
    clear hA hB
    go_enter Try.func22, Try.ntmps22
    go_wp2_with fail
    go_ret
    rw [hD.out]
    exact Ret.mk (Later.refl _)

namespace Lv
/-- Where it stands first, or -1. -/
def idx (l : List Int) (x : Int) : Int := match (List.range l.length).find? (fun k => l.getD k 0 == x) with
  | some k => k
  | none => -1
theorem idx_found {l : List Int} {x : Int} {k : Nat} (hk : k < l.length) (h : l.getD k 0 = x) (hm : ∀ j, j < k → l.getD j 0 ≠ x) : idx l x = k := by
  unfold idx
  rw [List.find?_range_eq_some.2 ⟨by simpa using h, by simpa using hk, fun j hj => by have := hm j hj; simpa using this⟩]
theorem idx_none {l : List Int} {x : Int} (hm : ∀ j, j < l.length → l.getD j 0 ≠ x) : idx l x = -1 := by
  unfold idx
  rw [List.find?_range_eq_none.2 (fun j hj => by have := hm j hj; simpa using this)]
end Lv
set_option maxHeartbeats 1000000 in
theorem index30 (l : List Int) (x : Int) (A : Option Addr) (c : Nat) (w : World) (hA : IntsR w A l) (hn : l.length ≤ 9223372036854775807) :
    Calls Try.prog 30 #[.slice A l.length c, .int .i64 x] w (Ret w (.int .i64 (Lv.idx l x))) := by
  have HA := Lib.hid hA
  clear hA
  go_enter Try.func30, Try.ntmps30
  go_wp2_with fail
  go_loopw [5, 8] (fun _ i wr => ∃ (k : Nat) (g : Grow), k ≤ l.length ∧ i = .int .i64 k ∧ Hid (∀ j, j < k → l.getD j 0 ≠ x) ∧ wr = more w g) (fun _ i _ => l.length - (intOf i).toNat)
  case atStart => exact ⟨0, ⟨#[], w.drawn⟩, Nat.zero_le _, rfl, Lib.hid (fun j hj => by omega), by simp [more]⟩
  case round =>
    obtain ⟨k, g, hk, rfl, hF, rfl⟩ := hrel
    by_cases hlt : k < l.length
    · obtain ⟨b1, o1, rfl, hb1, hc1⟩ := HA.out k hlt
      obtain ⟨y, hy⟩ : ∃ y, l.getD k 0 = y := ⟨_, rfl⟩
      rw [hy] at hc1
      have Hy := Lib.hid hy
      clear hy
      by_cases hxy : y = x
      · subst hxy
        have HD := Lib.hid (Lv.idx_found hlt Hy.out hF.out)
        go_wp2_with fail
        go_ret
        rw [HD.out]
        exact Ret.mk ((Later.refl _).more _)
      · have hne : (x == y) = false := by simp; exact fun e => hxy e.symm
        go_wp2_with fail
        go_roundw
        case rel => exact ⟨k + 1, _, by omega, by go_num, Lib.hid (fun j hj => by by_cases e : j = k
                                                                                  · rw [e, Hy.out]; exact hxy
                                                                                  · exact hF.out j (by omega)), rfl⟩
        case measure => simp [intOf]; omega
    · have HD := Lib.hid (Lv.idx_none (l := l) (x := x) (fun j hj => hF.out j (by omega)))
      go_wp2_with fail
      go_ret
      rw [HD.out]
      exact Ret.mk ((Later.refl _).more _)
def Lv.maxL (l : List Int) : Int := l.foldl max (l.getD 0 0)
theorem Lv.maxL_next {l : List Int} {k : Nat} (hk : k < l.length) (a x : Int) (hx : l.getD k 0 = x) : (l.take (k + 1)).foldl max a = max ((l.take k).foldl max a) x := by
  have e : l[k] = x := by rw [← hx, List.getD_eq_getElem?_getD, List.getElem?_eq_getElem hk]; rfl
  rw [List.take_succ_eq_append_getElem hk, List.foldl_append, e]
  rfl
theorem run_max2i {x y z : Int} (h : max x y = z) (ts : Array TypeId) (t : TypeId) (w : World) : (Builtin.max_ ts t #[.int .i64 x, .int .i64 y]).run Try.prog w = .ok (.int .i64 z) w := by
  rw [run_max_int2]
  congr 2
  subst h
  split <;> omega
set_option maxHeartbeats 1000000 in
theorem max36 (l : List Int) (A : Option Addr) (c : Nat) (w : World) (hA : IntsR w A l) (hn : l.length ≤ 9223372036854775807) (h0 : 0 < l.length) :
    Calls Try.prog 36 #[.slice A l.length c] w (Ret w (.int .i64 (Lv.maxL l))) := by
  have HA := Lib.hid hA
  clear hA
  go_enter Try.func36, Try.ntmps36
  obtain ⟨b1, o1, rfl, hb1, hc1⟩ := HA.out 0 h0
  obtain ⟨y, hy⟩ : ∃ y, l.getD 0 0 = y := ⟨_, rfl⟩
  rw [hy] at hc1
  have Hy := Lib.hid hy
  clear hy
  have hc0 : w.cell? ⟨b1, o1, none⟩ = some (.int .i64 y) := hc1
  go_wp2_with fail
  go_loopw [3, 4] (fun m i wr => ∃ (k : Nat) (g : Grow) (z : Int), k ≤ l.length ∧ 1 ≤ k ∧ i = .int .i64 k ∧ m = .int .i64 z ∧ Hid ((l.take k).foldl max y = z) ∧ wr = more w g) (fun _ i _ => l.length - (intOf i).toNat)
  case atStart => exact ⟨1, ⟨#[], w.drawn⟩, y, by omega, by omega, rfl, rfl, Lib.hid (by rw [Lv.maxL_next h0 y y Hy.out]; simp), by simp [more]⟩
  case round =>
    obtain ⟨k, g, z, hk, hk1, rfl, rfl, hF, rfl⟩ := hrel
    by_cases hlt : k < l.length
    · obtain ⟨b2, o2, hAA, hb2, hc2⟩ := HA.out k hlt
      obtain ⟨rfl, rfl⟩ : b1 = b2 ∧ o1 = o2 := by injection hAA with e; injection e with e1 e2 _; exact ⟨e1, e2⟩
      obtain ⟨x, hx⟩ : ∃ x, l.getD k 0 = x := ⟨_, rfl⟩
      rw [hx] at hc2
      have Hx := Lib.hid hx
      obtain ⟨z2, hz2⟩ : ∃ z2, max z x = z2 := ⟨_, rfl⟩
      have Hz := Lib.hid hz2
      clear hx hz2
      go_wp2_with fail
      go_roundw
      case rel => exact ⟨k + 1, _, z2, by omega, by omega, by go_num, by rw [Hz.out], Lib.hid (by rw [Lv.maxL_next hlt y x Hx.out, hF.out, Hz.out]), rfl⟩
      case measure => simp [intOf]; omega
    · obtain rfl : k = l.length := by omega
      have HD : Hid (Lv.maxL l = z) := Lib.hid (by
        have := hF.out
        rw [List.take_length] at this
        unfold Lv.maxL
        rw [Hy.out]
        exact this)
      go_wp2_with fail
      go_ret
      rw [HD.out]
      exact Ret.mk ((Later.refl _).more _)
/-- A row of ints that a call owns. -/
def OwnI (w : World) (base : Nat) (v : Value) (l : List Int) : Prop := w.ownsRow base 3 1 v l.length (l.map (Value.int .i64))
theorem OwnL.int {w : World} {base : Nat} {v : Value} {l : List Nat} (h : OwnL w base v l) : OwnI w base v (ints l) := by
  unfold OwnI ints
  unfold OwnL at h
  rw [List.length_map, List.map_map]
  exact h
theorem OwnI.nat {w : World} {base : Nat} {v : Value} {l : List Nat} (h : OwnI w base v (ints l)) : OwnL w base v l := by
  unfold OwnI ints at h
  unfold OwnL
  rw [List.length_map, List.map_map] at h
  exact h
theorem listedI {w : World} {b off : Nat} {l : List Int} (h : IntsR w (some ⟨b, off, none⟩) l) : ∀ k, k < l.length → w.cell? ⟨b, off + k, none⟩ = some (.int .i64 (l.getD k 0)) := by
  intro k hk
  obtain ⟨b', o', e, _, hc⟩ := h k hk
  injection e with e
  injection e with e1 e2 _
  subst e1 e2
  exact hc
def Try.lClone_ren : Go.Shelf.Ren := ⟨fun | 41 => 13 | n => n, fun | 22 => 26 | 23 => 3 | 4 => 4 | n => n, fun | n => n⟩
theorem Try.lClone : SlLaysE0.n41 Try.prog Try.lClone_ren := {
  mixed := by kernel_rfl
  f41 := ⟨Try.f13.name, by decide, Try.func13.trans (congrArg some (by kernel_rfl))⟩
  t4 := Try.underlying4
  a4 := Try.isAgg4
  z4 := Try.sizeOf4
  v4 := Try.zeroValue4
  t22 := Try.underlying26
  a22 := Try.isAgg26
  z22 := Try.sizeOf26
  v22 := Try.zeroValue26 }
/-- A row of ints of the call's own comes back. -/
def RetI (w : World) (l : List Int) (e : Ending) (w' : World) : Prop := ∃ v, e = .returned v ∧ OwnI w' w.heap.size v l ∧ Later w w'
theorem cells_of {w : World} {b off : Nat} {l : List Int} (h : IntsR w (some ⟨b, off, none⟩) l) : ∀ j u, (l.map (Value.int .i64))[j]? = some u → w.cell? ⟨b, off + j, none⟩ = some u := by
  intro j u hu
  have hj : j < l.length := by
    have := (List.getElem?_eq_some_iff.1 hu).1
    simpa using this
  rw [listedI h j hj]
  rw [List.getElem?_map, List.getElem?_eq_getElem hj] at hu
  rw [List.getD_eq_getElem?_getD, List.getElem?_eq_getElem hj]
  exact hu
theorem one_of {l : List Int} : ∀ u ∈ l.map (Value.int .i64), u.oneCell' = true := by
  intro u hu
  obtain ⟨i, _, rfl⟩ := List.mem_map.1 hu
  rfl
theorem clone13 (l : List Int) (A : Option Addr) (c : Nat) (w : World) (hN : IntsR w A l) (hn : l.length ≤ 1000000) (hz : ∀ a, A = some a → a.spot = none) :
    Calls Try.prog 13 #[.slice A l.length c] w (RetI w l) := by
  cases A with
  | none =>
    have h0 : l = [] := by
      rcases l with _ | ⟨a, l⟩
      · rfl
      · obtain ⟨_, _, h, _⟩ := hN 0 (by simp); cases h
    subst h0
    have hcon := AnyE.slices_Clone_nil Try.lClone 0 c w
    change Calls Try.prog 13 _ _ _ at hcon
    exact hcon.mono fun e w' ⟨he, hw⟩ => ⟨_, he, World.ownsRow_nil _ _ _ _, hw ▸ Later.refl w⟩
  | some a =>
    obtain ⟨b, off, sp⟩ := a
    obtain rfl : sp = none := hz _ rfl
    obtain ⟨i3, hi3, hz3, hs3, hy3⟩ := info_parts (P := Try.prog) (e := 3) (z := .int .i64 0) (size := 1) (bytes := 8) info3
    have hcon := AnyE.slices_Clone Try.lClone i3 (.int .i64 0) 1 8 hi3 hz3 hs3 hy3 rfl (by omega) (fun w => by kernel_rfl) b off l.length c (l.map (Value.int .i64)) w (by simp) (by unfold maxLen; omega) (by omega) (cells_of hN) one_of
    change Calls Try.prog 13 _ _ _ at hcon
    exact hcon.mono fun e w' ⟨v, he, hown, hv, hbl⟩ => ⟨v, he, hown, Later.of_below hbl⟩
end Go.Proofs.Ytbdhjoanjlkggaa
