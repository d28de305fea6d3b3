/-
  No statement of the seat is proved here. Contract of level.Reach.
-/
import Derived.Test.YtbdhjoanjlkggaaRch
namespace Go.Proofs.Ytbdhjoanjlkggaa
open Go Go.RowKit
set_option linter.unusedVariables false
theorem info4 : (Try.prog.info? 4).map (fun i => (i.zero, i.size, i.bytes)) = some (some (.bool false), 1, 1) := by kernel_rfl
theorem OwnL.addr {w : World} {base n c : Nat} {A : Option Addr} {l : List Nat} (h : OwnL w base (.slice A n c) l) (h0 : 0 < l.length) : ∃ b, A = some ⟨b, 0, none⟩ ∧ base ≤ b ∧ l.length ≤ c ∧ c ≤ maxLen := by
  obtain ⟨_, h2⟩ := h
  rcases h2 with h2 | ⟨g, cap, cur, hv, hb, hg, h3, h4, h5, h6⟩
  · exact absurd h2.2 (by omega)
  · injection hv with e1 e2 e3
    subst e1 e3
    exact ⟨g, rfl, hb, h3, h4⟩
theorem Only.cell_far {w w' : World} {S : Nat → Prop} (h : Only w w' S) {b i : Nat} (hb : b < w.heap.size) (hn : ¬ S b) : w'.cell? ⟨b, i, none⟩ = w.cell? ⟨b, i, none⟩ :=
  World.cell?_of_block (w := w) (a := ⟨b, i, none⟩) (h.block b hb hn)
def RetBE (w : World) (l : List Bool) (er : Int) (e : Ending) (w' : World) : Prop := ∃ A c, e = .returned (.tuple #[.slice A l.length c, .int .i64 er]) ∧ BoolsR w' A l ∧ Later w w'
/-- The same, and what comes back lies in new memory. -/
def RetBF (w : World) (l : List Bool) (er : Int) (e : Ending) (w' : World) : Prop := ∃ A c, e = .returned (.tuple #[.slice A l.length c, .int .i64 er]) ∧ BoolsR w' A l ∧ Later w w' ∧ ∀ b off, A = some ⟨b, off, none⟩ → w.heap.size ≤ b
theorem RetBF.plain {w : World} {l : List Bool} {er : Int} {e : Ending} {w' : World} (h : RetBF w l er e w') : RetBE w l er e w' := by
  obtain ⟨A, c, h1, h2, h3, _⟩ := h
  exact ⟨A, c, h1, h2, h3⟩
theorem reach_no (ns : List (List Int)) (A F : Option Addr) (c cf : Nat) (fr : List Int) (w : World) (hN : NeedsR w A ns) (hn : ns.length ≤ 1000) (hr : ∀ i, (ns.getD i []).length ≤ 1000) (hF : IntsR w F fr) (hfl : fr.length ≤ 1000)
    (h0 : Lv.mayB ns = false ∨ fr.all (Lv.inB ns.length) = false) :
    Calls Try.prog 9 #[.slice A ns.length c, .slice F fr.length cf] w (RetBE w [] 1) := by
  have HN := Lib.hid hN
  have HF := Lib.hid hF
  cases hm : Lv.mayB ns
  · have HM := Lib.hid (fun w' h => may_is hm A c w' h hn hr)
    clear hN hF
    go_enter Try.func9, Try.ntmps9
    go_wp2_with (go_at_call 26; refine (HM.out _ (HN.out.later ((Later.refl w).alloc _))).mono ?_; rintro e w' ⟨rfl, g, rfl⟩)
    go_ret2
    exact ⟨none, 0, rfl, fun p hp => absurd hp (by simp), (((Later.refl w).alloc _).more _)⟩
  · have hall : fr.all (Lv.inB ns.length) = false := by rcases h0 with h | h; · rw [hm] at h; cases h
                                                        · exact h
    have HM := Lib.hid (fun w' h => may_is hm A c w' h hn hr)
    have HC := Lib.hid (fun b w' h1 h2 h3 => contains28_31 (A := F) (cap := cf) (A0 := A) (c := c) (b := b) (w := w') hall h1 (by omega) h2 h3)
    clear hN hF
    go_enter Try.func9, Try.ntmps9
    have hL : ∀ g, Later w (more (w.alloc (.cells #[.slice A ns.length c] 24)) g) := fun g => ((Later.refl w).alloc _).more g
    have hbz : ∀ g, w.heap.size < (more (w.alloc (.cells #[.slice A ns.length c] 24)) g).heap.size := fun g => by simp; omega
    have hcb : ∀ g, (more (w.alloc (.cells #[.slice A ns.length c] 24)) g).cell? ⟨w.heap.size, 0, none⟩ = some (.slice A ns.length c) := fun g => by rw [more_cell _ _ _ _ (by simp)]; exact (Box.new w 24 _).cell
    go_wp2_with (first
      | (go_at_call 26; refine (HM.out _ (HN.out.later ((Later.refl w).alloc _))).mono ?_; rintro e w' ⟨rfl, g, rfl⟩)
      | (go_at_call 28; refine (HC.out w.heap.size _ (HF.out.later (hL _)) (hbz _) (hcb _)).mono ?_; rintro e w' ⟨rfl, g2, rfl⟩))
    go_ret2
    exact ⟨none, 0, rfl, fun p hp => absurd hp (by simp), hL _⟩
set_option maxRecDepth 100000 in
set_option maxHeartbeats 4000000 in
theorem reach_core (ms : List (List Nat)) (A F : Option Addr) (c cf : Nat) (fr : List Nat) (w : World) (hN : NeedsR w A (toI ms)) (hlt : ∀ i, ∀ k ∈ Lv.row ms i, k < ms.length) (hn : ms.length ≤ 1000) (hr : ∀ i, (Lv.row ms i).length ≤ 1000) (hF : IntsR w F (ints fr)) (hfl : fr.length ≤ 1000)
    (hft : ∀ x ∈ fr, x < ms.length) (hzF : ∀ a, F = some a → a.spot = none)
    (hM : ∀ w', NeedsR w' A (toI ms) → Calls Try.prog 26 #[.slice A ms.length c] w' (Ret w' (.bool true)))
    (hC : ∀ b w', IntsR w' F (ints fr) → b < w'.heap.size → w'.cell? ⟨b, 0, none⟩ = some (.slice A ms.length c) → Calls Try.prog 28 #[.slice F fr.length cf, .func (.func 31) #[] #[.pointer (some ⟨b, 0, none⟩)]] w' (Ret w' (.bool false))) :
    Calls Try.prog 9 #[.slice A ms.length c, .slice F fr.length cf] w (RetBF w (Lv.reachL ms fr) 0) := by
  obtain ⟨i4, hi4, hz4, hs4, hy4⟩ := info_parts (P := Try.prog) (e := 4) (z := .bool false) (size := 1) (bytes := 1) info4
  have HCl := Lib.hid (fun w' h => clone13 (ints fr) F cf w' h (by rw [ints_len]; omega) hzF)
  rw [ints_len] at HCl
  have HN := Lib.hid hN
  have HF := Lib.hid hF
  have HLt := Lib.hid hlt
  have HR := Lib.hid hr
  have HFt := Lib.hid hft
  have HM := Lib.hid hM
  have HC := Lib.hid hC
  clear hN hF hlt hr hft hM hC hzF
  obtain ⟨N, hNN⟩ : ∃ N, ms.length = N := ⟨_, rfl⟩
  have HNN := Lib.hid hNN
  rw [hNN] at hn HM HC ⊢
  clear hNN
  go_enter Try.func9, Try.ntmps9
  have hL : ∀ g, Later w (more (w.alloc (.cells #[.slice A N c] 24)) g) := fun g => ((Later.refl w).alloc _).more g
  have hbz : ∀ g, w.heap.size < (more (w.alloc (.cells #[.slice A N c] 24)) g).heap.size := fun g => by simp; omega
  have hcb : ∀ g, (more (w.alloc (.cells #[.slice A N c] 24)) g).cell? ⟨w.heap.size, 0, none⟩ = some (.slice A N c) := fun g => by rw [more_cell _ _ _ _ (by simp)]; exact (Box.new w 24 _).cell
  go_wp2_with (first
    | (go_at_call 26; refine (HM.out _ (HN.out.later ((Later.refl w).alloc _))).mono ?_; rintro e w' ⟨rfl, g, rfl⟩)
    | (go_at_call 28; refine (HC.out w.heap.size _ (HF.out.later (hL _)) (hbz _) (hcb _)).mono ?_; rintro e w' ⟨rfl, g2, rfl⟩; have hc2 := hcb (g.join g2))
    | (at_make; refine wpList_make_full _ rfl _ _ 27 rfl w.heap.size 4 i4 (.bool false) 1 Try.underlying27 hi4 hz4 hs4 .i64 .i64 _ _ N rfl rfl rfl rfl (by rw [hy4]; omega) (by unfold maxLen; omega) (by have := hbz (g.join g2); omega) ?_; intro w3 hown3 hgrow3; have hF3 : IntsR w3 F (ints fr) := HF.out.later ((hL (g.join g2)).trans (Later.of_below ⟨hgrow3.os, hgrow3.tape, hgrow3.output, hgrow3.size, fun k hk => hgrow3.block k hk (by simp)⟩)); have HF3 := Lib.hid hF3; clear hF3)
    | (go_at_call 13; refine (HCl.out _ HF3.out).mono ?_; rintro e w4 ⟨v4, rfl, hO4, hL4⟩; have HO4 := Lib.hid hO4.nat; obtain ⟨Av, cv, rfl, _, _⟩ := HO4.out.form; clear hO4))
  have HB := Lib.hid ((BRow.make hown3).only (Only.of_later hL4 fun _ => False) (fun h => h))
  have hGK : (more (w.alloc (.cells #[.slice A N c] 24)) (g.join g2)).heap.size < w3.heap.size := (BRow.make hown3).lt
  have hl3 : Later (more (w.alloc (.cells #[.slice A N c] 24)) (g.join g2)) w3 := Later.of_below ⟨hgrow3.os, hgrow3.tape, hgrow3.output, hgrow3.size, fun k hk => hgrow3.block k hk (by simp)⟩
  have HX : Hid (Box w4 w.heap.size 24 (.slice A N c)) := Lib.hid (((Box.new w 24 (.slice A N c)).only (Only.of_later ((((Later.refl _).more (g.join g2)).trans hl3).trans hL4) fun _ => False) (fun h => h)))
  have HO := Lib.hid (Only.of_later (((hL (g.join g2)).trans hl3).trans hL4) fun k => w.heap.size ≤ k)
  have hK4 : w3.heap.size ≤ w4.heap.size := hL4.below.size
  have hbG := hbz (g.join g2)
  obtain ⟨K, hK⟩ : ∃ K, w3.heap.size = K := ⟨_, rfl⟩
  obtain ⟨G, hG⟩ : ∃ G, (more (w.alloc (.cells #[.slice A N c] 24)) (g.join g2)).heap.size = G := ⟨_, rfl⟩
  rw [hK] at HO4 hGK hK4
  rw [hG] at HB hGK hbG
  rw [show w.heap.size + 1 + (g.join g2).size = G by rw [← hG]; simp]
  have HH : Hid (Lv.Half ms fr fr (fun _ => false)) := Lib.hid ⟨fun x hx => .inr hx, fun _ h => (by cases h), fun _ h => (by cases h), fun x hx => .base hx, fun x hx => HFt.out x hx, by omega⟩
  clear HF3 HCl HM HC hL hbz hcb hc2 hown3 hgrow3 hl3 hL4 hK hG
  go_loopw [7, 8] (fun v _ wr => ∃ (wk : List Nat) (is : Nat → Bool), Hid (OwnL wr K v wk) ∧ Hid (BRow wr G N is) ∧ Hid (Lv.Half ms fr wk is) ∧ Hid (Box wr w.heap.size 24 (.slice A N c)) ∧ Hid (Only w wr fun k => w.heap.size ≤ k) ∧ K ≤ wr.heap.size) (fun v _ wr => nf wr G N * 1001 + lenOf v)
  case atStart => exact ⟨fr, fun _ => false, HO4, HB, HH, HX, HO, hK4⟩
  case round =>
    obtain ⟨wk, is, hW, hB, hH, hX, hO, hK⟩ := hrel
    obtain ⟨Aw, cw, hv, hIw, hbw⟩ := hW.out.form
    subst hv
    have HIw := Lib.hid hIw
    clear hIw
    have hfew := hH.out.few
    rw [HNN.out] at hfew
    have hcn := Lv.countP_not is N
    have x0 := hX.out.cell
    rcases List.eq_nil_or_concat wk with rfl | ⟨wk, i, rfl⟩
    · have hfin : Lv.reachL ms fr = (List.range N).map is := by
        unfold Lv.reachL
        rw [HNN.out]
        congr 1
        funext k
        exact (hH.out.done k).symm
      go_wp2_with fail
      go_ret2
      rw [hfin]
      exact ⟨some ⟨G, 0, none⟩, N, by rw [List.length_map, List.length_range]; rfl, hB.out.bools, hO.out.later, fun b off e => by injection e with e; injection e with e1 _; omega⟩
    · rw [List.concat_eq_append] at *
      have hlen : (wk ++ [i]).length = wk.length + 1 := by simp
      have hiN : i < N := by have := hH.out.lt i (by simp); rw [HNN.out] at this; exact this
      obtain ⟨b2, rfl, hKb, hcw, hcm⟩ := hW.out.addr (by omega)
      unfold maxLen at hcm
      obtain ⟨b2', o2', e, hb2, hc2⟩ := HIw.out.at_ (p := wk.length) (by omega)
      injection e with e
      injection e with e1 e2
      subst e1 e2
      rw [show (wk ++ [i]).getD wk.length 0 = i by simp [List.getD_eq_getElem?_getD], Nat.zero_add] at hc2
      have hcut := hW.out.cut (m := wk.length) (by omega) (by omega)
      rw [List.take_left] at hcut
      have HWc := Lib.hid hcut
      have hob : ∀ b, (Value.slice (some ⟨b2, 0, none⟩) wk.length cw).ownBlock = some b → K ≤ b := fun b hb => (hbw b hb).1
      have c1 := hB.out.cell hiN
      have f1 := hB.out.free i
      have l1 := hB.out.lt
      have hnf := hB.out.nf
      rw [hlen] at hW hfew hcw ⊢
      clear hcut hbw HIw
      by_cases hi : is i = true
      · have HHn := Lib.hid (hH.out.old hi)
        rw [hi] at c1
        clear hi
        go_wp2_with fail
        go_roundw
        case rel => exact ⟨wk, is, HWc, hB, HHn, hX, hO, hK⟩
        case measure => simp [lenOf]
      · have hi' : is i = false := by simpa using hi
        rw [hi'] at c1
        obtain ⟨b3, o3, Ai, ci, rfl, hb3', hc3', hI3⟩ := HN.out.at_ (i := i) (by rw [HNN.out]; exact hiN)
        have hb3 := later_lt hO.out.later hb3'
        have hc3 := (cell_later' hO.out.later hb3' (o := o3 + i)).trans hc3'
        clear hc3'
        have hri := HR.out i
        have HHn := Lib.hid (hH.out.new hi' (HLt.out i) hri)
        have hnf2 := Lv.countP_upd is i hi' N
        rw [if_pos hiN] at hnf2
        have hcn2 := Lv.countP_not (fun k => if k = i then true else is k) N
        obtain ⟨ro, hrw⟩ : ∃ r, Lv.row ms i = r := ⟨_, rfl⟩
        rw [hrw] at hc3 hri HHn hI3
        have HI3 := Lib.hid hI3
        have HB5 := Lib.hid (hB.out.set hiN)
        have HO5 := Lib.hid (hO.out.setCell (p := ⟨G, i, none⟩) (.inl (show w.heap.size ≤ G by omega)) (.bool true))
        have ho1 : Only wr (wr.setCell ⟨G, i, none⟩ (.bool true)) fun k => k = G := (Only.refl wr fun k => k = G).setCell (p := ⟨G, i, none⟩) (.inl rfl) _
        have HW5 := Lib.hid (HWc.out.only ho1 (fun b hb e => by have := hob b hb; omega))
        have HX5 := Lib.hid (hX.out.only ho1 (fun e => by omega))
        have hK5 := ho1.size
        have hbx := hX.out.lt
        have hc5 := (ho1.cell_far (i := o3 + i) hb3 (fun e => by omega)).trans hc3
        have x5 := HX5.out.cell
        clear hi hi' hI3 ho1
        go_wp2_with (at_builtin; refine wpList_append_nats rfl _ _ rfl K _ wk rfl HW5.out Ai ci ro rfl (HI3.out.later HO5.out.later) (by omega) (by omega) ?_; intro v' w6 hown6 hgrow6 hat6; obtain ⟨A6, c6, hv6, _, _⟩ := hown6.form; subst hv6; have Hown6 := Lib.hid hown6; have Hgrow6 := Lib.hid hgrow6; clear hown6 hgrow6 hat6)
        have hog := Only.grown Hgrow6.out
        have HB6 := Lib.hid (HB5.out.only hog (fun e => by have := hob _ e; omega))
        have HX6 := Lib.hid (HX5.out.only hog (fun e => by have := hob _ e; omega))
        have HO6 := Lib.hid (HO5.out.trans hog (fun b _ e => by have := hob _ e; omega))
        have hnf6 := HB6.out.nf
        have hs6 := hog.size
        go_roundw
        case rel => exact ⟨wk ++ ro, _, by rw [List.length_append] at Hown6; exact Hown6, HB6, HHn, HX6, HO6, by omega⟩
        case measure =>
          rw [hnf6, hnf]
          simp only [lenOf]
          omega
theorem reach_okF (ns : List (List Int)) (A F : Option Addr) (c cf : Nat) (fr : List Nat) (w : World) (hN : NeedsR w A ns) (hn : ns.length ≤ 1000) (hr : ∀ i, (ns.getD i []).length ≤ 1000) (hF : IntsR w F (ints fr)) (hfl : fr.length ≤ 1000)
    (hm : Lv.mayB ns = true) (hft : ∀ x ∈ fr, x < ns.length) (hzF : ∀ a, F = some a → a.spot = none) :
    Calls Try.prog 9 #[.slice A ns.length c, .slice F fr.length cf] w (RetBF w (Lv.reachL (Lv.nat ns) fr) 0) := by
  have hall : (ints fr).all (Lv.inB ns.length) = true := by
    rw [List.all_eq_true]
    intro x hx
    obtain ⟨y, hy, rfl⟩ := List.mem_map.1 hx
    have := hft y hy
    simp [Lv.inB]
    omega
  have := reach_core (Lv.nat ns) A F c cf fr w (by rw [Lv.may_nat hm]; exact hN) (Lv.may_lt hm) (by rw [Lv.nat_len]; exact hn) (fun i => by rw [nat_row_len]; exact hr i) hF hfl
    (fun x hx => by rw [Lv.nat_len]; exact hft x hx) hzF
    (fun w' h => by rw [Lv.nat_len]; exact may_is hm A c w' (by rw [Lv.may_nat hm] at h; exact h) hn hr)
    (fun b w' h1 h2 h3 => by
      rw [Lv.nat_len] at h3
      have := contains28_31 (A := F) (A0 := A) (cap := cf) (c := c) (b := b) (w := w') hall h1 (by rw [ints_len]; omega) h2 h3
      rw [ints_len] at this
      exact this)
  rw [Lv.nat_len] at this
  exact this
theorem reach_ok (ns : List (List Int)) (A F : Option Addr) (c cf : Nat) (fr : List Nat) (w : World) (hN : NeedsR w A ns) (hn : ns.length ≤ 1000) (hr : ∀ i, (ns.getD i []).length ≤ 1000) (hF : IntsR w F (ints fr)) (hfl : fr.length ≤ 1000)
    (hm : Lv.mayB ns = true) (hft : ∀ x ∈ fr, x < ns.length) (hzF : ∀ a, F = some a → a.spot = none) :
    Calls Try.prog 9 #[.slice A ns.length c, .slice F fr.length cf] w (RetBE w (Lv.reachL (Lv.nat ns) fr) 0) :=
  (reach_okF ns A F c cf fr w hN hn hr hF hfl hm hft hzF).mono fun _ _ h => h.plain
end Go.Proofs.Ytbdhjoanjlkggaa
