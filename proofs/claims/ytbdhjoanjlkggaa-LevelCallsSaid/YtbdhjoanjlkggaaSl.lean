/-
  No statement of the seat is proved here. Contracts of slices.IndexFunc, ContainsFunc, Equal, Index at ints, and of level.May, for every row.
-/
import Derived.Test.YtbdhjoanjlkggaaTold
namespace Go.Proofs.Ytbdhjoanjlkggaa
open Go Go.RowKit
set_option linter.unusedVariables false
namespace Lv
/-- Is it a thing? -/
def inB (N : Nat) (x : Int) : Bool := decide (0 ≤ x) && decide (x < N)
def mayB (ns : List (List Int)) : Bool := ns.all fun r => r.all (inB ns.length)
/-- The numbers of needs that may be. -/
def nat (ns : List (List Int)) : List (List Nat) := ns.map fun r => r.map Int.toNat
theorem nat_len (ns : List (List Int)) : (nat ns).length = ns.length := by simp [nat]
theorem nat_row (ns : List (List Int)) (i : Nat) : row (nat ns) i = (ns.getD i []).map Int.toNat := by
  unfold row nat
  rw [List.getD_eq_getElem?_getD, List.getD_eq_getElem?_getD, List.getElem?_map]
  cases ns[i]? <;> rfl
theorem may_nat {ns : List (List Int)} (h : mayB ns = true) : toI (nat ns) = ns := by
  unfold toI nat ints
  rw [List.map_map]
  conv => rhs; rw [← List.map_id ns]
  refine List.map_congr_left (fun r hr => ?_)
  have h1 := List.all_eq_true.1 h r hr
  show (r.map Int.toNat).map Int.ofNat = r
  rw [List.map_map]
  conv => rhs; rw [← List.map_id r]
  refine List.map_congr_left (fun x hx => ?_)
  have h2 := List.all_eq_true.1 h1 x hx
  simp only [inB, Bool.and_eq_true, decide_eq_true_eq] at h2
  show Int.ofNat x.toNat = x
  exact Int.toNat_of_nonneg h2.1
theorem may_lt {ns : List (List Int)} (h : mayB ns = true) (i : Nat) : ∀ k ∈ row (nat ns) i, k < (nat ns).length := by
  intro k hk
  rw [nat_row] at hk
  obtain ⟨x, hx, rfl⟩ := List.mem_map.1 hk
  rw [nat_len]
  by_cases hi : i < ns.length
  · rw [List.getD_eq_getElem?_getD, List.getElem?_eq_getElem hi] at hx
    have h1 := List.all_eq_true.1 h _ (List.getElem_mem hi)
    have h2 := List.all_eq_true.1 h1 x hx
    simp only [inB, Bool.and_eq_true, decide_eq_true_eq] at h2
    omega
  · rw [List.getD_eq_getElem?_getD, List.getElem?_eq_none (by omega)] at hx
    cases hx
end Lv
/-- An index, or none, of what is no thing. -/
def BadIdx (w : World) (N : Nat) (l : List Int) (e : Ending) (w' : World) : Prop := ∃ V : Int, e = .returned (.int .i64 V) ∧ decide (0 ≤ V) = !(l.all (Lv.inB N)) ∧ Later w w'
theorem all_of {N : Nat} {l : List Int} (h : ∀ j, j < l.length → Lv.inB N (l.getD j 0) = true) : l.all (Lv.inB N) = true := by
  rw [List.all_eq_true]
  intro x hx
  obtain ⟨j, hj, rfl⟩ := List.mem_iff_getElem.1 hx
  have := h j hj
  rwa [List.getD_eq_getElem?_getD, List.getElem?_eq_getElem hj] at this
theorem all_bad {N j : Nat} {l : List Int} (hj : j < l.length) (h : Lv.inB N (l.getD j 0) = false) : l.all (Lv.inB N) = false := by
  rw [List.all_eq_false]
  rw [List.getD_eq_getElem?_getD, List.getElem?_eq_getElem hj] at h
  exact ⟨l[j], List.getElem_mem hj, by simpa using h⟩
theorem clo37 {A : Option Addr} {N c : Nat} {x : Int} {v : Bool} (h : Lv.inB N x = v) (b : Nat) (w : World) (c0 : w.cell? ⟨b, 0, none⟩ = some (.slice A N c)) :
    Calls Try.prog 37 #[.int .i64 x, .pointer (some ⟨b, 0, none⟩)] w (Ret w (.bool (!v))) := by
  subst h
  by_cases h1 : x < 0
  · have e : Lv.inB N x = false := by simp [Lv.inB]; omega
    rw [e]
    go_enter Try.func37, Try.ntmps37
    go_wp2_with fail
    go_ret
    exact Ret.mk (Later.refl _)
  · by_cases h2 : (N : Int) ≤ x
    · have e : Lv.inB N x = false := by simp [Lv.inB]; omega
      rw [e]
      go_enter Try.func37, Try.ntmps37
      go_wp2_with fail
      go_ret
      exact Ret.mk (Later.refl _)
    · have e : Lv.inB N x = true := by simp [Lv.inB]; omega
      rw [e]
      go_enter Try.func37, Try.ntmps37
      go_wp2_with fail
      go_ret
      exact Ret.mk (Later.refl _)
set_option maxHeartbeats 1000000 in
theorem index38_37 {A A0 : Option Addr} {N c cap b : Nat} {l : List Int} {w : World} (hI : IntsR w A l) (hl : l.length ≤ 9223372036854775807) (hb : b < w.heap.size) (c0 : w.cell? ⟨b, 0, none⟩ = some (.slice A0 N c)) :
    Calls Try.prog 38 #[.slice A l.length cap, .func (.func 37) #[] #[.pointer (some ⟨b, 0, none⟩)]] w (BadIdx w N l) := by
  have HI := Lib.hid hI
  clear hI
  go_enter Try.func38, Try.ntmps38
  go_wp2_with fail
  go_loopw [8] (fun i wr => ∃ (k : Nat) (g : Grow), k ≤ l.length ∧ i = .int .i64 k ∧ Hid (∀ j, j < k → Lv.inB N (l.getD j 0) = true) ∧ wr = more w g) (fun i _ => l.length - (intOf i).toNat)
  case atStart => exact ⟨0, ⟨#[], w.drawn⟩, Nat.zero_le _, rfl, Lib.hid (fun j hj => by omega), by simp [more]⟩
  case round =>
    obtain ⟨k, g, hk, rfl, hF, rfl⟩ := hrel
    by_cases hlt : k < l.length
    · obtain ⟨bl, off, rfl, hbl, hcell⟩ := HI.out k hlt
      have d0 : (more w g).cell? ⟨b, 0, none⟩ = some (.slice A0 N c) := by rw [more_cell _ _ _ _ hb]; exact c0
      cases hw : Lv.inB N (l.getD k 0)
      · have HC := Lib.hid (fun w' h => clo37 (A := A0) (c := c) hw b w' h)
        have Hbad := Lib.hid (all_bad hlt hw)
        clear hw
        generalize l.getD k 0 = x at *
        go_wp2_with (go_at_call 37; refine (HC.out _ d0).mono ?_; rintro e w' ⟨rfl, g2, rfl⟩)
        go_ret
        exact ⟨k, rfl, by rw [Hbad.out]; simp, (Later.refl _).more _⟩
      · have HC := Lib.hid (fun w' h => clo37 (A := A0) (c := c) hw b w' h)
        have Hw := Lib.hid hw
        clear hw
        obtain ⟨x, hx⟩ : ∃ x, l.getD k 0 = x := ⟨_, rfl⟩
        rw [hx] at hcell HC
        clear hx
        go_wp2_with (go_at_call 37; refine (HC.out _ d0).mono ?_; rintro e w' ⟨rfl, g2, rfl⟩)
        go_roundw
        case rel => exact ⟨k + 1, _, by omega, by go_num, Lib.hid (fun j hj => by by_cases e : j = k
                                                                                  · rw [e]; exact Hw.out
                                                                                  · exact hF.out j (by omega)), rfl⟩
        case measure => simp [intOf]; omega
    · have hkm : k = l.length := by omega
      have HE := Lib.hid (all_of (N := N) (l := l) (fun j hj => hF.out j (by omega)))
      go_wp2_with fail
      go_ret
      exact ⟨-1, rfl, by rw [HE.out]; rfl, (Later.refl _).more _⟩
theorem contains28_37 {A A0 : Option Addr} {N c cap b : Nat} {l : List Int} {w : World} {v : Bool} (hv : l.all (Lv.inB N) = v) (hI : IntsR w A l) (hl : l.length ≤ 9223372036854775807) (hb : b < w.heap.size) (c0 : w.cell? ⟨b, 0, none⟩ = some (.slice A0 N c)) :
    Calls Try.prog 28 #[.slice A l.length cap, .func (.func 37) #[] #[.pointer (some ⟨b, 0, none⟩)]] w (Ret w (.bool (!v))) := by
  have h := index38_37 (cap := cap) hI hl hb c0
  have Hv := Lib.hid hv
  have HX := Lib.hid h
  clear hI h hv
  go_enter Try.func28, Try.ntmps28
  go_wp2_with (go_at_call 38; (with_reducible refine HX.out.mono ?_); rintro e w' ⟨V, rfl, hV, g, rfl⟩; have HV := Lib.hid hV; clear hV)
  go_ret
  exact Ret.mk' (by rw [← Hv.out, ← HV.out]; rfl) ((Later.refl _).more _)
theorem clo31 {A : Option Addr} {N c : Nat} {x : Int} {v : Bool} (h : Lv.inB N x = v) (b : Nat) (w : World) (c0 : w.cell? ⟨b, 0, none⟩ = some (.slice A N c)) :
    Calls Try.prog 31 #[.int .i64 x, .pointer (some ⟨b, 0, none⟩)] w (Ret w (.bool (!v))) := by
  subst h
  by_cases h1 : x < 0
  · have e : Lv.inB N x = false := by simp [Lv.inB]; omega
    rw [e]
    go_enter Try.func31, Try.ntmps31
    go_wp2_with fail
    go_ret
    exact Ret.mk (Later.refl _)
  · by_cases h2 : (N : Int) ≤ x
    · have e : Lv.inB N x = false := by simp [Lv.inB]; omega
      rw [e]
      go_enter Try.func31, Try.ntmps31
      go_wp2_with fail
      go_ret
      exact Ret.mk (Later.refl _)
    · have e : Lv.inB N x = true := by simp [Lv.inB]; omega
      rw [e]
      go_enter Try.func31, Try.ntmps31
      go_wp2_with fail
      go_ret
      exact Ret.mk (Later.refl _)
set_option maxHeartbeats 1000000 in
theorem index38_31 {A A0 : Option Addr} {N c cap b : Nat} {l : List Int} {w : World} (hI : IntsR w A l) (hl : l.length ≤ 9223372036854775807) (hb : b < w.heap.size) (c0 : w.cell? ⟨b, 0, none⟩ = some (.slice A0 N c)) :
    Calls Try.prog 38 #[.slice A l.length cap, .func (.func 31) #[] #[.pointer (some ⟨b, 0, none⟩)]] w (BadIdx w N l) := by
  have HI := Lib.hid hI
  clear hI
  go_enter Try.func38, Try.ntmps38
  go_wp2_with fail
  go_loopw [8] (fun i wr => ∃ (k : Nat) (g : Grow), k ≤ l.length ∧ i = .int .i64 k ∧ Hid (∀ j, j < k → Lv.inB N (l.getD j 0) = true) ∧ wr = more w g) (fun i _ => l.length - (intOf i).toNat)
  case atStart => exact ⟨0, ⟨#[], w.drawn⟩, Nat.zero_le _, rfl, Lib.hid (fun j hj => by omega), by simp [more]⟩
  case round =>
    obtain ⟨k, g, hk, rfl, hF, rfl⟩ := hrel
    by_cases hlt : k < l.length
    · obtain ⟨bl, off, rfl, hbl, hcell⟩ := HI.out k hlt
      have d0 : (more w g).cell? ⟨b, 0, none⟩ = some (.slice A0 N c) := by rw [more_cell _ _ _ _ hb]; exact c0
      cases hw : Lv.inB N (l.getD k 0)
      · have HC := Lib.hid (fun w' h => clo31 (A := A0) (c := c) hw b w' h)
        have Hbad := Lib.hid (all_bad hlt hw)
        clear hw
        generalize l.getD k 0 = x at *
        go_wp2_with (go_at_call 31; refine (HC.out _ d0).mono ?_; rintro e w' ⟨rfl, g2, rfl⟩)
        go_ret
        exact ⟨k, rfl, by rw [Hbad.out]; simp, (Later.refl _).more _⟩
      · have HC := Lib.hid (fun w' h => clo31 (A := A0) (c := c) hw b w' h)
        have Hw := Lib.hid hw
        clear hw
        obtain ⟨x, hx⟩ : ∃ x, l.getD k 0 = x := ⟨_, rfl⟩
        rw [hx] at hcell HC
        clear hx
        go_wp2_with (go_at_call 31; refine (HC.out _ d0).mono ?_; rintro e w' ⟨rfl, g2, rfl⟩)
        go_roundw
        case rel => exact ⟨k + 1, _, by omega, by go_num, Lib.hid (fun j hj => by by_cases e : j = k
                                                                                  · rw [e]; exact Hw.out
                                                                                  · exact hF.out j (by omega)), rfl⟩
        case measure => simp [intOf]; omega
    · have hkm : k = l.length := by omega
      have HE := Lib.hid (all_of (N := N) (l := l) (fun j hj => hF.out j (by omega)))
      go_wp2_with fail
      go_ret
      exact ⟨-1, rfl, by rw [HE.out]; rfl, (Later.refl _).more _⟩
theorem contains28_31 {A A0 : Option Addr} {N c cap b : Nat} {l : List Int} {w : World} {v : Bool} (hv : l.all (Lv.inB N) = v) (hI : IntsR w A l) (hl : l.length ≤ 9223372036854775807) (hb : b < w.heap.size) (c0 : w.cell? ⟨b, 0, none⟩ = some (.slice A0 N c)) :
    Calls Try.prog 28 #[.slice A l.length cap, .func (.func 31) #[] #[.pointer (some ⟨b, 0, none⟩)]] w (Ret w (.bool (!v))) := by
  have h := index38_31 (cap := cap) hI hl hb c0
  have Hv := Lib.hid hv
  have HX := Lib.hid h
  clear hI h hv
  go_enter Try.func28, Try.ntmps28
  go_wp2_with (go_at_call 38; (with_reducible refine HX.out.mono ?_); rintro e w' ⟨V, rfl, hV, g, rfl⟩; have HV := Lib.hid hV; clear hV)
  go_ret
  exact Ret.mk' (by rw [← Hv.out, ← HV.out]; rfl) ((Later.refl _).more _)
set_option maxHeartbeats 2000000 in
theorem may_any (ns : List (List Int)) (A : Option Addr) (c : Nat) (w : World) (hN : NeedsR w A ns) (hn : ns.length ≤ 1000) (hr : ∀ i, (ns.getD i []).length ≤ 1000) : Calls Try.prog 26 #[.slice A ns.length c] w (Ret w (.bool (Lv.mayB ns))) := by
  have HN := Lib.hid hN
  have HR := Lib.hid hr
  clear hN hr
  go_enter Try.func26, Try.ntmps26
  go_wp2_with fail
  go_loopw [4, 7] (fun _ i wr => ∃ (k : Nat) (g : Grow), k ≤ ns.length ∧ i = .int .i64 k ∧ Hid (∀ j, j < k → (ns.getD j []).all (Lv.inB ns.length) = true) ∧ wr = more (w.alloc (.cells #[.slice A ns.length c] 24)) g) (fun _ i _ => ns.length - (intOf i).toNat)
  case atStart => exact ⟨0, _, Nat.zero_le _, rfl, Lib.hid (fun j hj => by omega), (by exact (Later.refl _).choose_spec)⟩
  case round =>
    obtain ⟨k, g, hk, rfl, hF, rfl⟩ := hrel
    have hL : Later w (more (w.alloc (.cells #[.slice A ns.length c] 24)) g) := ((Later.refl w).alloc _).more g
    by_cases hlt : k < ns.length
    · obtain ⟨b1, o1, Ai, ci, rfl, hb1, hc1, hI1⟩ := (HN.out.later hL) k hlt
      have hri := HR.out k
      have hbz : w.heap.size < (more (w.alloc (.cells #[.slice (some ⟨b1, o1, none⟩) ns.length c] 24)) g).heap.size := by simp; omega
      have hcb : (more (w.alloc (.cells #[.slice (some ⟨b1, o1, none⟩) ns.length c] 24)) g).cell? ⟨w.heap.size, 0, none⟩ = some (.slice (some ⟨b1, o1, none⟩) ns.length c) := by rw [more_cell _ _ _ _ (by simp)]; exact (Box.new w 24 _).cell
      cases hw : (ns.getD k []).all (Lv.inB ns.length)
      · have HC := Lib.hid (fun w' h1 h2 h3 => contains28_37 (A := Ai) (cap := ci) (A0 := some ⟨b1, o1, none⟩) (c := c) (b := w.heap.size) (w := w') hw h1 (by omega) h2 h3)
        have HI1 := Lib.hid hI1
        have hbad : Lv.mayB ns = false := by
          unfold Lv.mayB
          rw [List.all_eq_false]
          rw [List.getD_eq_getElem?_getD, List.getElem?_eq_getElem hlt] at hw
          exact ⟨ns[k], List.getElem_mem hlt, by simpa using hw⟩
        have Hbad := Lib.hid hbad
        clear hw hI1 hbad
        generalize ns.getD k [] = r at *
        go_wp2_with (go_at_call 28; refine (HC.out _ HI1.out hbz hcb).mono ?_; rintro e w' ⟨rfl, g2, rfl⟩)
        go_ret
        exact Ret.mk' (by rw [Hbad.out]; rfl) (((Later.refl w).alloc _).more _)
      · have HC := Lib.hid (fun w' h1 h2 h3 => contains28_37 (A := Ai) (cap := ci) (A0 := some ⟨b1, o1, none⟩) (c := c) (b := w.heap.size) (w := w') hw h1 (by omega) h2 h3)
        have HI1 := Lib.hid hI1
        have Hw := Lib.hid hw
        clear hw hI1
        obtain ⟨r, hr⟩ : ∃ r, ns.getD k [] = r := ⟨_, rfl⟩
        rw [hr] at hc1 hri HC HI1
        clear hr
        go_wp2_with (go_at_call 28; refine (HC.out _ HI1.out hbz hcb).mono ?_; rintro e w' ⟨rfl, g2, rfl⟩)
        go_roundw
        case rel => exact ⟨k + 1, _, by omega, by go_num, Lib.hid (fun j hj => by by_cases e : j = k
                                                                                  · rw [e]; exact Hw.out
                                                                                  · exact hF.out j (by omega)), rfl⟩
        case measure => simp [intOf]; omega
    · have hall : Lv.mayB ns = true := by
        unfold Lv.mayB
        rw [List.all_eq_true]
        intro r hr
        obtain ⟨j, hj, rfl⟩ := List.mem_iff_getElem.1 hr
        have := hF.out j (by omega)
        rwa [List.getD_eq_getElem?_getD, List.getElem?_eq_getElem hj] at this
      have Hall := Lib.hid hall
      clear hall
      go_wp2_with fail
      go_ret
      exact Ret.mk' (by rw [Hall.out]; rfl) hL
theorem may_is {ns : List (List Int)} {v : Bool} (hv : Lv.mayB ns = v) (A : Option Addr) (c : Nat) (w : World) (hN : NeedsR w A ns) (hn : ns.length ≤ 1000) (hr : ∀ i, (ns.getD i []).length ≤ 1000) : Calls Try.prog 26 #[.slice A ns.length c] w (Ret w (.bool v)) := hv ▸ may_any ns A c w hN hn hr
end Go.Proofs.Ytbdhjoanjlkggaa
