/-
  No statement of the seat is proved here. The walk of level.told, for every needs that may be.
-/
import Derived.Test.YtbdhjoanjlkggaaStB
namespace Go.Proofs.Ytbdhjoanjlkggaa
open Go Go.RowKit Hp
set_option linter.unusedVariables false
theorem info26 : (Try.prog.info? 26).map (fun i => (i.zero, i.size, i.bytes)) = some (some (.slice none 0 0), 1, 24) := by kernel_rfl
/-- A list of numbers, a row of the call's own. -/
def RetL (w : World) (l : List Nat) (e : Ending) (w' : World) : Prop := ∃ v, e = .returned v ∧ OwnL w' w.heap.size v l ∧ Later w w'
theorem count_init {N i : Nat} {us : Nat → List Nat} {c : Nat → Nat → Nat} {ro : List Nat} (h : ∀ k j, k < N → (us k).count j = if j < i then c j k else 0) :
    ∀ k j, k < N → (us k).count j = if j < i then c j k else if j = i then (ro.take 0).count k else 0 := by
  intro k j hk
  rw [h k j hk]
  by_cases e : j < i
  · rw [if_pos e, if_pos e]
  · rw [if_neg e, if_neg e]; simp
theorem count_push {N i p x : Nat} {us : Nat → List Nat} {c : Nat → Nat → Nat} {ro : List Nat} (h : ∀ k j, k < N → (us k).count j = if j < i then c j k else if j = i then (ro.take p).count k else 0) (hp : p < ro.length) (hx : ro.getD p 0 = x) :
    ∀ k j, k < N → ((fun m => if m = x then us x ++ [i] else us m) k).count j = if j < i then c j k else if j = i then (ro.take (p + 1)).count k else 0 := by
  intro k j hk
  have hpx : ro[p] = x := by rw [← hx, List.getD_eq_getElem?_getD, List.getElem?_eq_getElem hp]; rfl
  have e0 := h k j hk
  show (if k = x then us x ++ [i] else us k).count j = _
  rw [List.take_succ_eq_append_getElem hp, List.count_append, hpx]
  by_cases e : k = x
  · subst e
    rw [if_pos rfl, List.count_append, e0]
    by_cases a : j < i
    · rw [if_pos a, if_pos a]
      have : [i].count j = 0 := List.count_eq_zero.2 (by simp; omega)
      omega
    · rw [if_neg a, if_neg a]
      by_cases b : j = i
      · subst b; simp
      · rw [if_neg b, if_neg b]
        have : [i].count j = 0 := List.count_eq_zero.2 (by simp; omega)
        omega
  · rw [if_neg e, e0]
    have : [x].count k = 0 := List.count_eq_zero.2 (by simp; omega)
    rw [this, Nat.add_zero]
theorem count_done {N i : Nat} {us : Nat → List Nat} {c : Nat → Nat → Nat} {ro : List Nat} (h : ∀ k j, k < N → (us k).count j = if j < i then c j k else if j = i then (ro.take ro.length).count k else 0) (hc : ∀ k, c i k = ro.count k) :
    ∀ k j, k < N → (us k).count j = if j < i + 1 then c j k else 0 := by
  intro k j hk
  rw [h k j hk, List.take_length]
  by_cases a : j < i
  · rw [if_pos a, if_pos (by omega)]
  · rw [if_neg a]
    by_cases b : j = i
    · subst b; rw [if_pos rfl, if_pos (by omega), hc]
    · rw [if_neg b, if_neg (by omega)]
theorem set_yes {ms : List (List Nat)} {i : Nat} (h : (Lv.row ms i).length = 0) (x : Int) : ((∃ j, j < i ∧ x = (j : Nat) ∧ (Lv.row ms j).length = 0) ∨ x = (i : Nat)) ↔ ∃ j, j < i + 1 ∧ x = (j : Nat) ∧ (Lv.row ms j).length = 0 := by
  constructor
  · rintro (⟨j, h1, h2, h3⟩ | e)
    · exact ⟨j, by omega, h2, h3⟩
    · exact ⟨i, by omega, e, h⟩
  · rintro ⟨j, h1, h2, h3⟩
    by_cases e : j = i
    · exact .inr (e ▸ h2)
    · exact .inl ⟨j, by omega, h2, h3⟩
theorem set_no {ms : List (List Nat)} {i : Nat} (h : (Lv.row ms i).length ≠ 0) (x : Int) : (∃ j, j < i ∧ x = (j : Nat) ∧ (Lv.row ms j).length = 0) ↔ ∃ j, j < i + 1 ∧ x = (j : Nat) ∧ (Lv.row ms j).length = 0 := by
  constructor
  · rintro ⟨j, h1, h2, h3⟩
    exact ⟨j, by omega, h2, h3⟩
  · rintro ⟨j, h1, h2, h3⟩
    have : j ≠ i := fun e => h (e ▸ h3)
    exact ⟨j, by omega, h2, h3⟩
theorem start_set {ms : List (List Nat)} {N : Nat} (x : Int) : (∃ j, j < N ∧ x = (j : Nat) ∧ (Lv.row ms j).length = 0) ↔ ∃ j, j < N ∧ x = (j : Nat) ∧ Lv.rdy ms [] j = true := by
  constructor
  · rintro ⟨j, h1, h2, h3⟩
    exact ⟨j, h1, h2, Lv.rdy_iff.2 ⟨by simp, by rw [Lv.cnt_nil]; exact h3⟩⟩
  · rintro ⟨j, h1, h2, h3⟩
    have := (Lv.rdy_iff.1 h3).2
    rw [Lv.cnt_nil] at this
    exact ⟨j, h1, h2, this⟩
/-- A row's ints, by its header. -/
theorem Users.row {w : World} {base U N : Nat} {us : Nat → List Nat} {B : Nat → Prop} {k n c : Nat} {A : Option Addr} (h : Users w base U N us B) (hk : k < N) (hc : w.cell? ⟨U, k, none⟩ = some (.slice A n c)) : IntsR w A (ints (us k)) := by
  obtain ⟨v, h1, _, _, h4, _⟩ := h.at_ hk
  rw [hc] at h1
  injection h1 with h1
  obtain ⟨A', c', hv, hI, _⟩ := h4.form
  rw [← h1] at hv
  injection hv with hA _ _
  rw [hA]
  exact hI
theorem Only.cellB {w w' : World} {B : Nat → Prop} {U i : Nat} (h : Only w w' fun k => ¬ B k) (hB : B U) (hU : U < w.heap.size) : w'.cell? ⟨U, i, none⟩ = w.cell? ⟨U, i, none⟩ :=
  World.cell?_of_block (w := w) (a := ⟨U, i, none⟩) (h.block U hU (fun hn => hn hB))
/-- What waits when p of those that use i have been told of it. -/
def Sx (ms : List (List Nat)) (N : Nat) (D : List Nat) (i : Nat) (L : List Nat) (p : Nat) (x : Int) : Prop :=
  ∃ j, j < N ∧ x = (j : Nat) ∧ ((Lv.rdy ms D j = true ∧ j ≠ i) ∨ (0 < Lv.cnt ms D j ∧ (L.take p).count j = Lv.cnt ms D j))
theorem take_count {L : List Nat} {p k : Nat} (hp : p < L.length) (hk : L.getD p 0 = k) (j : Nat) : (L.take (p + 1)).count j = (L.take p).count j + if j = k then 1 else 0 := by
  have e : L[p] = k := by rw [← hk, List.getD_eq_getElem?_getD, List.getElem?_eq_getElem hp]; rfl
  rw [List.take_succ_eq_append_getElem hp, List.count_append, e]
  congr 1
  by_cases h : j = k
  · subst h; simp
  · rw [if_neg h]; exact List.count_eq_zero.2 (by simp; omega)
theorem take_count_le (L : List Nat) (p j : Nat) : (L.take p).count j ≤ L.count j := (List.take_sublist p L).count_le j
theorem Sx_zero {ms : List (List Nat)} {N i : Nat} {D L : List Nat} (x : Int) : ((∃ j, j < N ∧ x = (j : Nat) ∧ Lv.rdy ms D j = true) ∧ x ≠ (i : Nat)) ↔ Sx ms N D i L 0 x := by
  constructor
  · rintro ⟨⟨j, h1, h2, h3⟩, h4⟩
    exact ⟨j, h1, h2, .inl ⟨h3, fun e => h4 (e ▸ h2)⟩⟩
  · rintro ⟨j, h1, h2, h3 | h3⟩
    · exact ⟨⟨j, h1, h2, h3.1⟩, fun e => h3.2 (by omega)⟩
    · simp at h3; omega
theorem Sx_not {ms : List (List Nat)} {N i p k : Nat} {D L : List Nat} (h : (L.take p).count k < Lv.cnt ms D k) : ¬ Sx ms N D i L p (k : Nat) := by
  rintro ⟨j, h1, h2, h3⟩
  obtain rfl : j = k := by omega
  rcases h3 with h3 | h3
  · have := (Lv.rdy_iff.1 h3.1).2; omega
  · omega
theorem Sx_push {ms : List (List Nat)} {N i p k : Nat} {D L : List Nat} (hp : p < L.length) (hk : L.getD p 0 = k) (hN : k < N) (h : (L.take p).count k + 1 = Lv.cnt ms D k) (x : Int) : (Sx ms N D i L p x ∨ x = (k : Nat)) ↔ Sx ms N D i L (p + 1) x := by
  constructor
  · rintro (⟨j, h1, h2, h3⟩ | e)
    · refine ⟨j, h1, h2, h3.imp id (fun h4 => ⟨h4.1, ?_⟩)⟩
      rw [take_count hp hk, if_neg (fun e => by subst e; omega)]
      exact h4.2
    · exact ⟨k, hN, e, .inr ⟨by omega, by rw [take_count hp hk, if_pos rfl]; exact h⟩⟩
  · rintro ⟨j, h1, h2, h3⟩
    by_cases e : j = k
    · exact .inr (by rw [h2, e])
    · refine .inl ⟨j, h1, h2, h3.imp id (fun h4 => ⟨h4.1, ?_⟩)⟩
      have := h4.2
      rw [take_count hp hk, if_neg e] at this
      exact this
theorem Sx_stay {ms : List (List Nat)} {N i p k : Nat} {D L : List Nat} (hp : p < L.length) (hk : L.getD p 0 = k) (h : (L.take p).count k + 1 < Lv.cnt ms D k) (x : Int) : Sx ms N D i L p x ↔ Sx ms N D i L (p + 1) x := by
  constructor
  · rintro ⟨j, h1, h2, h3⟩
    refine ⟨j, h1, h2, h3.imp id (fun h4 => ⟨h4.1, ?_⟩)⟩
    rw [take_count hp hk, if_neg (fun e => by subst e; omega)]
    exact h4.2
  · rintro ⟨j, h1, h2, h3⟩
    refine ⟨j, h1, h2, h3.imp id (fun h4 => ⟨h4.1, ?_⟩)⟩
    have h5 := h4.2
    rw [take_count hp hk] at h5
    by_cases e : j = k
    · subst e; rw [if_pos rfl] at h5; omega
    · rw [if_neg e] at h5; exact h5
def lenOf : Value → Nat
  | .slice _ n _ => n
  | _ => 0
theorem len_push {N m x i : Nat} {us : Nat → List Nat} {p : Nat} (h : ∀ k, k < N → (us k).length ≤ m + p) (hx : x < N) : ∀ k, k < N → ((fun m => if m = x then us x ++ [i] else us m) k).length ≤ m + (p + 1) := by
  intro k hk
  show (if k = x then us x ++ [i] else us k).length ≤ _
  have h1 := h k hk
  have h2 := h x hx
  split
  · simp; omega
  · omega
set_option maxRecDepth 100000 in
set_option maxHeartbeats 8000000 in
theorem told_any (ms : List (List Nat)) (A : Option Addr) (c : Nat) (w : World) (hN : NeedsR w A (toI ms)) (hlt : ∀ i, ∀ k ∈ Lv.row ms i, k < ms.length) (hn : ms.length ≤ 1000) (hr : ∀ i, (Lv.row ms i).length ≤ 1000) :
    Calls Try.prog 32 #[.slice A ms.length c] w (RetL w (Lv.told ms)) := by
  obtain ⟨i3, hi3, hz3, hs3, hy3⟩ := info_parts (P := Try.prog) (e := 3) (z := .int .i64 0) (size := 1) (bytes := 8) info3
  obtain ⟨i26, hi26, hz26, hs26, hy26⟩ := info_parts (P := Try.prog) (e := 26) (z := .slice none 0 0) (size := 1) (bytes := 24) info26
  have HN := Lib.hid hN
  have HLt := Lib.hid hlt
  have HR := Lib.hid hr
  clear hN hlt hr
  obtain ⟨N, hNN⟩ : ∃ N, ms.length = N := ⟨_, rfl⟩
  have HNN := Lib.hid hNN
  rw [hNN] at hn ⊢
  clear hNN
  go_enter Try.func32, Try.ntmps32
  go_wp2_with (first
    | (at_make; refine wpList_make_full _ rfl _ _ 26 rfl w.heap.size 3 i3 (.int .i64 0) 1 Try.underlying26 hi3 hz3 hs3 .i64 .i64 _ _ N rfl rfl rfl rfl (by rw [hy3]; omega) (by unfold maxLen; omega) (Nat.le_refl _) ?_; intro w1 hown1 hgrow1)
    | (at_make; refine wpList_make_full _ rfl _ _ 24 rfl w.heap.size 26 i26 (.slice none 0 0) 1 Try.underlying24 hi26 hz26 hs26 .i64 .i64 _ _ N rfl rfl rfl rfl (by rw [hy26]; omega) (by unfold maxLen; omega) (by exact hgrow1.size) ?_; intro w2 hown2 hgrow2))
  obtain ⟨hst, hon⟩ := St.init hown1 hgrow1 hown2 hgrow2
  have HSt := Lib.hid hst
  have HOn := Lib.hid hon
  clear hown1 hgrow1 hown2 hgrow2 hst hon
  generalize (w2.alloc (.cells #[] 3)).alloc (.cells #[.slice (some ⟨w2.heap.size, 0, none⟩) 0 0] 62) = w3 at *
  generalize w2.heap.size + 1 = hb at *
  generalize w1.heap.size = U at *
  generalize w2.heap.size = g0 at *
  go_loopw [6, 7, 9, 24, 36] (fun _ _ _ j _ wr => ∃ (i : Nat) (us : Nat → List Nat) (n g cap : Nat) (B : Nat → Prop), i ≤ N ∧ j = .int .i64 i ∧ n ≤ i ∧
      Hid (St wr w.heap.size w.heap.size U hb g cap N n (fun j => if j < i then ((Lv.row ms j).length : Nat) else 0) us (fun x => ∃ j, j < i ∧ x = (j : Nat) ∧ (Lv.row ms j).length = 0) B) ∧
      Hid (∀ k j, k < N → (us k).count j = if j < i then (Lv.row ms j).count k else 0) ∧ Hid (∀ k, k < N → (us k).length ≤ i * 1000) ∧ Hid (Only w wr fun k => w.heap.size ≤ k)) (fun _ _ _ j _ _ => N - (intOf j).toNat)
  case atStart => exact ⟨0, fun _ => [], 0, g0, 0, _, Nat.zero_le _, rfl, Nat.le_refl _, Lib.hid (HSt.out.congr (fun k hk => by simp) (fun k hk => rfl) (fun x => by simp)), Lib.hid (fun k j hk => by simp), Lib.hid (fun k hk => by simp), HOn⟩
  case round =>
    obtain ⟨i, us, n, g, cap, B, hi, rfl, hni, hS, hC, hL, hO⟩ := hrel
    by_cases hlt : i < N
    · obtain ⟨b1, o1, Ai, ci, rfl, hb0, hc0, hI1⟩ := HN.out.at_ (i := i) (by rw [HNN.out]; exact hlt)
      have hb1 := later_lt hO.out.later hb0
      have hc1 := (cell_later' hO.out.later hb0 (o := o1 + i)).trans hc0
      clear hb0 hc0
      have xw := hS.out.wants.cell hlt
      have fw := hS.out.wants.free i
      have lw := hS.out.wants.lt
      have hri := HR.out i
      have hset := hS.out.set hlt (((Lv.row ms i).length : Nat) : Int)
      have HS1 := Lib.hid (hset.1.congr (wt' := fun j => if j < i + 1 then (((Lv.row ms j).length : Nat) : Int) else 0) (us' := us) (T := fun x => ∃ j, j < i ∧ x = (j : Nat) ∧ (Lv.row ms j).length = 0) (fun k hk => by
        by_cases e : k = i
        · subst e; rw [if_pos rfl, if_pos (by omega)]
        · rw [if_neg e]
          by_cases e2 : k < i
          · rw [if_pos e2, if_pos (by omega)]
          · rw [if_neg e2, if_neg (by omega)]) (fun k hk => rfl) (fun x => Iff.rfl))
      have HO1 := Lib.hid (hO.out.trans hset.2 (fun _ _ h => h))
      have HI1 := Lib.hid hI1
      have HLi := Lib.hid (HLt.out i)
      clear hI1 hset
      obtain ⟨ro, hrw⟩ : ∃ r, Lv.row ms i = r := ⟨_, rfl⟩
      rw [hrw] at hc1 hri HS1 HO1 HI1 HLi
      have Hrw := Lib.hid hrw
      clear hrw
      go_wp2_with fail
      generalize wr.setCell ⟨w.heap.size, i, none⟩ (.int .i64 (ro.length : Nat)) = wo at *
      clear hS hO hc1 xw fw lw hb1
      go_loopw [9, 36] (fun _ j wr => ∃ (p : Nat) (us' : Nat → List Nat) (B' : Nat → Prop), p ≤ ro.length ∧ j = .int .i64 p ∧
          Hid (St wr w.heap.size w.heap.size U hb g cap N n (fun j => if j < i + 1 then (((Lv.row ms j).length : Nat) : Int) else 0) us' (fun x => ∃ j, j < i ∧ x = (j : Nat) ∧ (Lv.row ms j).length = 0) B') ∧
          Hid (∀ k j, k < N → (us' k).count j = if j < i then (Lv.row ms j).count k else if j = i then (ro.take p).count k else 0) ∧ Hid (∀ k, k < N → (us' k).length ≤ i * 1000 + p) ∧ Hid (Only w wr fun k => w.heap.size ≤ k)) (fun _ j _ => ro.length - (intOf j).toNat)
      case atStart => exact ⟨0, us, B, Nat.zero_le _, rfl, HS1, Lib.hid (count_init hC.out), Lib.hid (fun k hk => by have := hL.out k hk; omega), HO1⟩
      case round =>
        obtain ⟨p, us', B', hp, rfl, hS, hC', hL', hO⟩ := hrel
        by_cases hpl : p < ro.length
        · obtain ⟨b2, o2, rfl, hb2, hc2⟩ := (HI1.out.later hO.out.later).at_ hpl
          obtain ⟨x, hx⟩ : ∃ x, ro.getD p 0 = x := ⟨_, rfl⟩
          have hxm : x ∈ ro := by rw [← hx, List.getD_eq_getElem?_getD, List.getElem?_eq_getElem hpl]; exact List.getElem_mem _
          have hxN : x < N := by have := HLi.out x hxm; rw [HNN.out] at this; exact this
          rw [hx] at hc2
          have Hx := Lib.hid hx
          clear hx hxm
          obtain ⟨v, q1, q2, q3, hOv, hBv⟩ := hS.out.users.at_ hxN
          have HOv := Lib.hid hOv
          have hsz := hO.out.size
          have hlx := hL'.out x hxN
          have hq1 := Lib.hid q1
          have hil : i * 1000 ≤ 1000000 := by omega
          clear hOv hBv
          go_wp2_with (first
            | (at_builtin; refine wpList_append_own_at _ rfl _ _ 26 rfl w.heap.size 3 i3 (.int .i64 0) 1 8 Try.underlying26 hi3 hz3 hs3 hy3 rfl (by decide) _ _ _ rfl (World.ownsRow.alloc HOv.out _) ⟨wr.heap.size, 0, none⟩ 1 1 [.int .i64 (i : Nat)] rfl rfl (cell_one_new _ _ _) (fun x hx => by simp at hx; subst hx; rfl) (by unfold maxLen; omega) (by omega) (by simp; omega) ?_; intro v' w5 hown5 hgrow5 hnil5 hat5; obtain ⟨g5, cap5, rfl, _, _⟩ := hown5.form (by omega); have q5 := (hS.out.users.keep hxN hq1.out hgrow5).1; have f5 := (hS.out.users.keep hxN hq1.out hgrow5).2; have Hown5 := Lib.hid hown5; have Hgrow5 := Lib.hid hgrow5; have Hat5 := Lib.hid hat5; clear hown5 hgrow5 hnil5 hat5))
          obtain ⟨B5, hS5, hO5⟩ := hS.out.use hxN hq1.out Hown5.out Hgrow5.out Hat5.out hsz
          have HS5 := Lib.hid hS5
          have HO5 := Lib.hid (hO.out.trans hO5 (fun _ _ h => h))
          clear hS5 hO5 q5 f5 q1 q2 q3 hc2 hb2
          go_roundw
          case rel =>
            exact ⟨p + 1, _, B5, by omega, by go_num, HS5, Lib.hid (count_push hC'.out hpl Hx.out), Lib.hid (len_push hL'.out hxN), HO5⟩
          case measure => simp [intOf]; omega
        · obtain rfl : p = ro.length := by omega
          have HCd := Lib.hid (count_done (c := fun j k => (Lv.row ms j).count k) hC'.out (fun k => by rw [Hrw.out]))
          have HLd := Lib.hid (fun k hk => Nat.le_trans (hL'.out k hk) (show i * 1000 + ro.length ≤ (i + 1) * 1000 by omega))
          by_cases h0 : ro.length = 0
          · have ht : ((ro.length : Int) == 0) = true := by rw [beq_iff_eq]; omega
            have HP := Lib.hid (fun w' hbz h => push39 (w := w') (base := w.heap.size) (b := hb) (g := g) (cap := cap) (n := n) (S := fun x => ∃ j, j < i ∧ x = (j : Nat) ∧ (Lv.row ms j).length = 0) h (by omega) hbz (i : Int) (fun ⟨j, h1, h2, _⟩ => by omega))
            have HSy := Lib.hid (set_yes (ms := ms) (i := i) (by rw [Hrw.out]; exact h0))
            go_wp2_with (first
              | (go_at_call 39; refine (HP.out _ hO.out.size hS.out.heap).mono ?_; intro e w6 hpp; obtain rfl := hpp.1; obtain ⟨g6, cap6, hS6, hO6⟩ := hS.out.push hpp; have HS6 := Lib.hid (hS6.congr (fun k hk => rfl) (fun k hk => rfl) HSy.out); have HO6 := Lib.hid (hO.out.trans hO6 (fun _ _ h => h)); clear hpp hS6 hO6))
            go_roundw
            case rel => exact ⟨i + 1, us', n + 1, g6, cap6, B', by omega, by go_num, by omega, HS6, HCd, HLd, HO6⟩
            case measure => simp [intOf]; omega
          · have ht : ((ro.length : Int) == 0) = false := by rw [beq_eq_false_iff_ne]; omega
            have HSn := Lib.hid (hS.out.congr (fun k hk => rfl) (fun k hk => rfl) (set_no (ms := ms) (i := i) (by rw [Hrw.out]; exact h0)))
            go_wp2_with fail
            go_roundw
            case rel => exact ⟨i + 1, us', n, g, cap, B', by omega, by go_num, by omega, HSn, HCd, HLd, hO⟩
            case measure => simp [intOf]; omega
    · obtain rfl : N = i := by omega
      have HB0 : Hid (StB wr w.heap.size w.heap.size U hb g cap N n (fun j => ((Lv.cnt ms [] j : Nat) : Int)) us (fun x => ∃ j, j < N ∧ x = (j : Nat) ∧ Lv.rdy ms [] j = true) B (.slice none 0 0) []) :=
        Lib.hid ⟨hS.out.congr (fun k hk => by rw [if_pos hk, Lv.cnt_nil]) (fun _ _ => rfl) start_set, World.ownsRow_nil _ _ _ _, (fun c hc => by cases hc)⟩
      have HC : Hid (∀ k j, k < N → j < N → (us k).count j = (Lv.row ms j).count k) := Lib.hid (fun k j hk hj => by rw [hC.out k j hk, if_pos hj])
      have HCl : Hid (∀ k j, k < N → j ∈ us k → j < N) := Lib.hid (fun k j hk hj => by
        have h1 := hC.out k j hk
        have h2 := List.count_pos_iff.2 hj
        by_cases e : j < N
        · exact e
        · rw [if_neg e] at h1; omega)
      have HLn := Lib.hid hL.out
      have HF0 : Hid (Lv.toldF ms (N - ([] : List Nat).length) [] = Lv.told ms) := Lib.hid (by rw [← HNN.out]; rfl)
      have hO0 := hO
      clear hS hC hL hO
      go_wp2_with fail
      go_loopw [10, 11, 13, 78] (fun o _ _ _ wr => ∃ (D : List Nat) (n g cap : Nat), 
          Hid (StB wr w.heap.size w.heap.size U hb g cap N n (fun j => ((Lv.cnt ms D j : Nat) : Int)) us (fun x => ∃ j, j < N ∧ x = (j : Nat) ∧ Lv.rdy ms D j = true) B o D) ∧ Hid (Lv.Good ms D) ∧ Hid (Lv.toldF ms (N - D.length) D = Lv.told ms) ∧ D.length ≤ N ∧ Hid (Only w wr fun k => w.heap.size ≤ k)) (fun o _ _ _ _ => N - lenOf o)
      case atStart => exact ⟨[], n, g, cap, HB0, Lib.hid (Lv.Good.nil ms), HF0, by simp, hO0⟩
      case round =>
        obtain ⟨D, n, g, cap, hSB, hG, hF, hDN, hO⟩ := hrel
        obtain ⟨Ao, co, ho, _, _⟩ := hSB.out.out.form
        subst ho
        obtain ⟨hbx, hbb, hbl, hgl, _⟩ := hSB.out.st.heap.parts
        have q0 := hbx.cell
        have hsz := hO.out.size
        have hnN : n ≤ N := hSB.out.st.heap.few (fun x hx => by obtain ⟨j, h1, h2, _⟩ := hx; exact ⟨j, h1, h2⟩)
        have hta : ∀ (x : Int) (w : World), (Instr.typeAssert (.iface 3 (.int .i64 x)) 20 3 false).run Try.prog w = .ok (.int .i64 x) w := fun _ _ => by kernel_rfl
        clear hbx
        by_cases hn0 : n = 0
        · subst hn0
          have hT : Hid (D = Lv.told ms) := Lib.hid (by
            rw [← hF.out]
            obtain ⟨f, _, _, _, hX⟩ := hSB.out.st.heap.ex
            have hno : Lv.next ms D = none := Lv.next_none (fun j hj => by
              rw [HNN.out] at hj
              cases hr : Lv.rdy ms D j
              · rfl
              · obtain ⟨k, hk, _⟩ := (hX (j : Nat)).1 ⟨j, hj, rfl, hr⟩
                omega)
            cases N - D.length with
            | zero => rfl
            | succ m => rw [Lv.toldF, hno])
          go_wp2_with (first
            | (go_at_call 40; refine (len_any _ _ _ _).mono ?_; rintro e w4 ⟨rfl, g4, rfl⟩))
          go_ret
          exact ⟨_, rfl, by rw [← hT.out]; exact (hSB.out.later ((Later.refl _).more _)).out, hO.out.later.more _⟩
        · obtain ⟨m, rfl⟩ : ∃ m, n = m + 1 := ⟨n - 1, by omega⟩
          go_wp2_with (first
            | (go_at_call 40; refine (len_any _ _ _ _).mono ?_; rintro e w4 ⟨rfl, g4, rfl⟩; have HS4 := Lib.hid (hSB.out.later ((Later.refl _).more g4)))
            | (go_at_call 41; refine (pop41 HS4.out.st.heap (by omega)).mono ?_; intro e w5 hpp; obtain ⟨x, rfl, hxS, hxm, hS5, hO5⟩ := HS4.out.pop hpp; obtain ⟨i, hiN, rfl, hri⟩ := hxS; have HS5 := Lib.hid hS5; have HO5 := Lib.hid ((hO.out.more g4).trans hO5 (fun _ _ h => h)); have Hri := Lib.hid hri; have Hxm := Lib.hid hxm; clear hpp hS5 hO5 hri hxm)
            | (at_builtin; refine wpList_append_own_at _ rfl _ _ 26 rfl w.heap.size 3 i3 (.int .i64 0) 1 8 Try.underlying26 hi3 hz3 hs3 hy3 rfl (by decide) _ _ _ rfl (World.ownsRow.alloc HS5.out.out _) ⟨w5.heap.size, 0, none⟩ 1 1 [.int .i64 (i : Nat)] rfl rfl (cell_one_new _ _ _) (fun x hx => by simp at hx; subst hx; rfl) (by unfold maxLen; omega) (by omega) (by have := HO5.out.size; simp; omega) ?_; intro v' w6 hown6 hgrow6 hnil6 hat6; obtain ⟨g6, cap6, rfl, _, _⟩ := hown6.form (by omega); obtain ⟨hS6, hO6⟩ := HS5.out.emit hown6 hgrow6 hat6; have HS6 := Lib.hid hS6; have HO6 := Lib.hid (HO5.out.trans hO6 (fun _ _ h => h)); obtain ⟨vi, q61, q62, q63, hOvi, hBvi⟩ := hS6.st.users.at_ hiN; obtain ⟨Ai, ci, rfl, _, _⟩ := hOvi.form; clear hown6 hgrow6 hnil6 hat6 hS6 hO6 hOvi hBvi))
          obtain ⟨hri1, hri2⟩ := Lv.rdy_iff.1 Hri.out
          have HLc : Hid (∀ j, j < N → (us i).count j + Lv.cnt ms (D ++ [i]) j = Lv.cnt ms D j) := Lib.hid (fun j hj => by rw [HC.out i j hiN hj]; have := Lv.cnt_step (ns := ms) hri1 j; omega)
          have HG2 := Lib.hid (hG.out.snoc (by rw [HNN.out]; exact hiN) Hri.out)
          have hD2 : D.length + 1 ≤ N := by have := HG2.out.le; rw [HNN.out] at this; simpa using this
          have HF2 : Hid (Lv.toldF ms (N - (D ++ [i]).length) (D ++ [i]) = Lv.told ms) := Lib.hid (by
            have hnx := Lv.next_some (ns := ms) (D := D) (by rw [HNN.out]; exact hiN) Hri.out (fun j hj hr => by
              have := Hxm.out (j : Nat) ⟨j, by rw [← HNN.out]; exact hj, rfl, hr⟩
              omega)
            have h1 := hF.out
            rw [show N - D.length = (N - (D ++ [i]).length) + 1 by simp; omega, Lv.toldF, hnx] at h1
            exact h1)
          obtain ⟨L, hLL⟩ : ∃ L, us i = L := ⟨_, rfl⟩
          rw [hLL] at q61 HLc ⊢
          have HLm := Lib.hid (fun j => HCl.out i j hiN)
          rw [hLL] at HLm
          have HLL := Lib.hid hLL
          have hlL : L.length ≤ 1000000 := by have := HLn.out i hiN; rw [hLL] at this; omega
          have HS7 := Lib.hid (HS6.out.congr (wt' := fun j => ((Lv.cnt ms D j - (L.take 0).count j : Nat) : Int)) (fun k hk => by simp) (Sx_zero (L := L)))
          have Hq6 := Lib.hid q61
          clear hLL hri1 hri2 q61 q62 q63 hSB hO hF HS4 HS5 HS6 HO5 q0 hbb hbl hgl hsz
          go_loopw [13, 78] (fun _ j wr => ∃ (p n g cap : Nat), p ≤ L.length ∧ j = .int .i64 p ∧
              Hid (StB wr w.heap.size w.heap.size U hb g cap N n (fun j => ((Lv.cnt ms D j - (L.take p).count j : Nat) : Int)) us (Sx ms N D i L p) B (.slice (some ⟨g6, 0, none⟩) (D.length + 1) cap6) (D ++ [i])) ∧
              Hid (wr.cell? ⟨U, i, none⟩ = some (.slice Ai L.length ci)) ∧ Hid (Only w wr fun k => w.heap.size ≤ k)) (fun _ j _ => L.length - (intOf j).toNat)
          case atStart => exact ⟨0, m, g, cap, Nat.zero_le _, rfl, HS7, Hq6, HO6⟩
          case round =>
            obtain ⟨p, n7, g7, cap7, hp, rfl, hS, hq, hO⟩ := hrel
            by_cases hpl : p < L.length
            · have hI := hS.out.st.users.row hiN hq.out
              rw [HLL.out] at hI
              obtain ⟨b2, o2, rfl, hb2, hc2⟩ := hI.at_ hpl
              obtain ⟨k, hk⟩ : ∃ k, L.getD p 0 = k := ⟨_, rfl⟩
              have hkm : k ∈ L := by rw [← hk, List.getD_eq_getElem?_getD, List.getElem?_eq_getElem hpl]; exact List.getElem_mem _
              have hkN := HLm.out k hkm
              rw [hk] at hc2
              have hlt1 : (L.take p).count k < Lv.cnt ms D k := by
                have h1 := take_count hpl hk k
                rw [if_pos rfl] at h1
                have h2 := take_count_le L (p + 1) k
                have h3 := HLc.out k hkN
                omega
              obtain ⟨y, hy⟩ : ∃ y, Lv.cnt ms D k - (L.take p).count k = y := ⟨_, rfl⟩
              have xw : wr.cell? ⟨w.heap.size, k, none⟩ = some (.int .i64 ((Lv.cnt ms D k - (L.take p).count k : Nat) : Int)) := hS.out.st.wants.cell hkN
              rw [hy] at xw
              have fw := hS.out.st.wants.free k
              have lw := hS.out.st.wants.lt
              obtain ⟨hset1, hset2, hset3⟩ := hS.out.set hkN ((y : Int) - 1)
              have HS8 := Lib.hid (hset1.congr (wt' := fun j => ((Lv.cnt ms D j - (L.take (p + 1)).count j : Nat) : Int)) (fun j hj => by
                have h1 := take_count hpl hk j
                by_cases e : j = k
                · subst e; rw [if_pos rfl] at h1 ⊢; omega
                · rw [if_neg e] at h1 ⊢; rw [h1]; rfl) (fun x => Iff.rfl))
              have HO8 := Lib.hid (hO.out.trans hset2 (fun _ _ h => h))
              have Hq8 := Lib.hid ((hset3.cellB (i := i) hS.out.cellU.1 hS.out.cellU.2).trans hq.out)
              have hsz8 := HO8.out.size
              have hn7 : n7 ≤ N := hS.out.st.heap.few (fun x hx => by obtain ⟨j, h1, h2, _⟩ := hx; exact ⟨j, h1, h2⟩)
              have hy1 : 1 ≤ y := by omega
              have hy9 : y ≤ 1000 := by
                have h1 : Lv.cnt ms D k ≤ (Lv.row ms k).length := List.countP_le_length
                have := HR.out k
                omega
              have hcy : (L.take p).count k + y = Lv.cnt ms D k := by omega
              have Hcy := Lib.hid hcy
              have Hlt1 := Lib.hid hlt1
              have Hk := Lib.hid hk
              clear hset1 hset2 hset3 hI hy hcy hlt1 hkm hk
              by_cases hy2 : y = 1
              · subst hy2
                rw [show (((1 : Nat) : Int) - 1) = 0 by omega] at HS8 HO8 Hq8 hsz8
                have HP := Lib.hid (fun w' hbz h => push39 (w := w') (base := w.heap.size) (b := hb) (g := g7) (cap := cap7) (n := n7) (S := Sx ms N D i L p) h (by omega) hbz (k : Int) (Sx_not Hlt1.out))
                go_wp2_with (first
                  | (go_at_call 39; refine (HP.out _ hsz8 HS8.out.st.heap).mono ?_; intro e w9 hpp; obtain rfl := hpp.1; obtain ⟨g9, cap9, hS9, hO9, hN9⟩ := HS8.out.push hpp; have HS9 := Lib.hid (hS9.congr (fun _ _ => rfl) (Sx_push hpl Hk.out hkN Hcy.out)); have HO9 := Lib.hid (HO8.out.trans hO9 (fun _ _ h => h)); have Hq9 := Lib.hid ((hN9.cellB (i := i) HS8.out.cellU.1 HS8.out.cellU.2).trans Hq8.out); clear hpp hS9 hO9 hN9))
                go_roundw
                case rel => exact ⟨p + 1, n7 + 1, g9, cap9, by omega, by go_num, HS9, Hq9, HO9⟩
                case measure => simp [intOf]; omega
              · have hy3 : (((y : Int) - 1) == 0) = false := by rw [beq_eq_false_iff_ne]; omega
                have HS9 := Lib.hid (HS8.out.congr (fun _ _ => rfl) (Sx_stay hpl Hk.out (by have := Hcy.out; omega)))
                go_wp2_with fail
                go_roundw
                case rel => exact ⟨p + 1, n7, g7, cap7, by omega, by go_num, HS9, Hq8, HO8⟩
                case measure => simp [intOf]; omega
            · obtain rfl : p = L.length := by omega
              have HSe := Lib.hid (hS.out.congr (wt' := fun j => ((Lv.cnt ms (D ++ [i]) j : Nat) : Int)) (T := fun x => ∃ j, j < N ∧ x = (j : Nat) ∧ Lv.rdy ms (D ++ [i]) j = true) (fun j hj => by
                  have := HLc.out j hj
                  rw [List.take_length]
                  have : Lv.cnt ms D j - L.count j = Lv.cnt ms (D ++ [i]) j := by omega
                  rw [this]) (fun x => by
                  constructor
                  · rintro ⟨j, h1, h2, h3⟩
                    refine ⟨j, h1, h2, (Lv.rdy_step hG.out Hri.out j).2 (h3.imp id (fun h4 => ⟨h4.1, ?_⟩))⟩
                    have h5 := HC.out i j hiN h1
                    rw [HLL.out] at h5
                    rw [List.take_length] at h4
                    omega
                  · rintro ⟨j, h1, h2, h3⟩
                    refine ⟨j, h1, h2, ((Lv.rdy_step hG.out Hri.out j).1 h3).imp id (fun h4 => ⟨h4.1, ?_⟩)⟩
                    have h5 := HC.out i j hiN h1
                    rw [HLL.out] at h5
                    rw [List.take_length]
                    omega))
              go_wp2_with fail
              go_roundw
              case rel => exact ⟨D ++ [i], n7, g7, cap7, HSe, HG2, HF2, by simp; omega, hO⟩
              case measure => simp [lenOf]; omega
end Go.Proofs.Ytbdhjoanjlkggaa
