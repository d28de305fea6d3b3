/-
  No statement of the seat is proved here. heap.Push and heap.Pop over level.ready, for every heap of different things.
-/
import Derived.Test.YtbdhjoanjlkggaaDown
namespace Go.Proofs.Ytbdhjoanjlkggaa
open Go Go.RowKit Hp
set_option linter.unusedVariables false
/-- A heap of n different things: those of S. -/
structure WaitAt (w : World) (base b g n cap : Nat) (S : Int → Prop) : Prop where
  ex : ∃ f, HeapAt w base b g n cap f ∧ Ord n f ∧ Inj n f ∧ ∀ x, S x ↔ Has n f x
theorem WaitAt.only {w w' : World} {base b g n cap : Nat} {S : Int → Prop} {T : Nat → Prop} (h : WaitAt w base b g n cap S) (ho : Only w w' T) (hb : ¬ T b) (hg : ¬ T g) : WaitAt w' base b g n cap S := by
  obtain ⟨f, h1, h2⟩ := h.ex
  exact ⟨f, h1.only ho hb hg, h2⟩
theorem WaitAt.congr {w : World} {base b g n cap : Nat} {S T : Int → Prop} (h : WaitAt w base b g n cap S) (e : ∀ x, S x ↔ T x) : WaitAt w base b g n cap T := by
  obtain ⟨f, h1, h2, h3, h4⟩ := h.ex
  exact ⟨f, h1, h2, h3, fun x => (e x).symm.trans (h4 x)⟩
def PushPost (w : World) (base b g n : Nat) (S : Int → Prop) (x : Int) (e : Ending) (w' : World) : Prop :=
  e = .returned (.tuple #[]) ∧ ∃ g' cap', WaitAt w' base b g' (n + 1) cap' (fun y => S y ∨ y = x) ∧ Only w w' (fun k => k = b ∨ k = g) ∧ (g' = g ∨ w.heap.size ≤ g')
def PopPost (w : World) (base b g n cap : Nat) (S : Int → Prop) (e : Ending) (w' : World) : Prop :=
  ∃ x, e = .returned (.iface 3 (.int .i64 x)) ∧ S x ∧ (∀ y, S y → x ≤ y) ∧ WaitAt w' base b g n cap (fun y => S y ∧ y ≠ x) ∧ Only w w' (fun k => k = b ∨ k = g)
theorem up_of {n : Nat} {f : Nat → Int} (h : Ord n f) (x : Int) : UpAt (n + 1) n (fun k => if k = n then x else f k) := by
  refine ⟨fun k k1 k2 ke => ?_, fun k k1 k2 kp _ => by omega⟩
  show (if (k - 1) / 2 = n then x else f ((k - 1) / 2)) ≤ (if k = n then x else f k)
  rw [if_neg (by omega), if_neg ke]
  exact h k k1 (by omega)
theorem inj_snoc {n : Nat} {f : Nat → Int} {x : Int} (h : Inj n f) (hx : ¬ Has n f x) : Inj (n + 1) (fun k => if k = n then x else f k) := by
  intro i j hi hj e
  have e' : (if i = n then x else f i) = (if j = n then x else f j) := e
  by_cases a : i = n
  · by_cases c : j = n
    · omega
    · rw [if_pos a, if_neg c] at e'
      exact absurd ⟨j, by omega, e'.symm⟩ hx
  · by_cases c : j = n
    · rw [if_neg a, if_pos c] at e'
      exact absurd ⟨i, by omega, e'⟩ hx
    · rw [if_neg a, if_neg c] at e'
      exact h i j (by omega) (by omega) e'
theorem has_snoc {n : Nat} {f : Nat → Int} {x y : Int} : Has (n + 1) (fun k => if k = n then x else f k) y ↔ Has n f y ∨ y = x := by
  constructor
  · rintro ⟨k, hk, e⟩
    have e' : (if k = n then x else f k) = y := e
    by_cases a : k = n
    · rw [if_pos a] at e'; exact .inr e'.symm
    · rw [if_neg a] at e'; exact .inl ⟨k, by omega, e'⟩
  · rintro (⟨k, hk, e⟩ | e)
    · exact ⟨k, by omega, by show (if k = n then x else f k) = y; rw [if_neg (by omega)]; exact e⟩
    · exact ⟨n, by omega, by show (if n = n then x else f n) = y; rw [if_pos rfl]; exact e.symm⟩
set_option maxHeartbeats 2000000 in
theorem push39 {base b g n cap : Nat} {S : Int → Prop} {w : World} (h : WaitAt w base b g n cap S) (hn : n ≤ 10000) (hb0 : base ≤ w.heap.size) (x : Int) (hx : ¬ S x) :
    Calls Try.prog 39 #[.iface 61 (.pointer (some ⟨b, 0, none⟩)), .iface 3 (.int .i64 x)] w (PushPost w base b g n S x) := by
  obtain ⟨f, hH, hO, hI, hS⟩ := h.ex
  have hx' : ¬ Has n f x := fun e => hx ((hS x).2 e)
  have H := Lib.hid hH
  have HU := Lib.hid (up_of hO x)
  have HI := Lib.hid (inj_snoc hI hx')
  have HS := Lib.hid hS
  clear h hH hO hI hS hx hx'
  go_enter Try.func39, Try.ntmps39
  go_wp2_with (first
    | (go_at_call 62; refine (push62 H.out (by omega) hb0 x).mono ?_; rintro e w1 ⟨rfl, g1, cap1, hH1, hO1, hg1⟩; have q1 := hH1.box.cell; have mln := meth_len b (some ⟨g1, 0, none⟩) (n + 1) cap1; have HH1 := Lib.hid hH1; have HO1 := Lib.hid hO1; clear hH1 hO1)
    | (go_at_call 40; refine (len_any _ _ _ _).mono ?_; rintro e w2 ⟨rfl, g2, rfl⟩)
    | (go_at_call 42; refine (up42 (HH1.out.later ((Later.refl _).more _)) HU.out (by omega) (by omega)).mono ?_; rintro e w3 ⟨rfl, f3, hH3, hO3, hT3, hI3, hX3, hOn3⟩))
  go_end0
  refine ⟨rfl, g1, cap1, ⟨f3, hH3, hO3, hI3 HI.out, fun y => ?_⟩, (HO1.out.more _).trans hOn3 (fun i hi e => ?_), hg1⟩
  · rw [hX3 y, has_snoc, HS.out y]
  · rcases hg1 with hg1 | hg1
    · exact .inr (e.trans hg1)
    · omega
theorem down_of {n : Nat} {f : Nat → Int} (h : Ord (n + 1) f) : DownAt n 0 (swp f 0 n) := by
  refine ⟨fun k k1 k2 ke => ?_, fun k k1 k2 kp h0 => by omega⟩
  rw [swp_o f (show (k - 1) / 2 ≠ 0 from ke) (by omega), swp_o f (by omega) (by omega)]
  exact h k k1 (by omega)
theorem inj_cut {n : Nat} {f : Nat → Int} (h : Inj (n + 1) f) : Inj n f := fun i j hi hj e => h i j (by omega) (by omega) e
theorem has_cut {n : Nat} {f : Nat → Int} (h : Inj (n + 1) f) (y : Int) : Has n f y ↔ Has (n + 1) f y ∧ y ≠ f n := by
  constructor
  · rintro ⟨k, hk, e⟩
    exact ⟨⟨k, by omega, e⟩, fun h2 => by have := h k n (by omega) (by omega) (e.trans h2); omega⟩
  · rintro ⟨⟨k, hk, e⟩, h2⟩
    have : k ≠ n := fun hkn => h2 (by rw [← e, hkn])
    exact ⟨k, by omega, e⟩
set_option maxHeartbeats 2000000 in
theorem pop41 {base b g n cap : Nat} {S : Int → Prop} {w : World} (h : WaitAt w base b g (n + 1) cap S) (hn : n ≤ 10000) :
    Calls Try.prog 41 #[.iface 61 (.pointer (some ⟨b, 0, none⟩))] w (PopPost w base b g n cap S) := by
  obtain ⟨f, hH, hO, hI, hS⟩ := h.ex
  have H := Lib.hid hH
  have HD := Lib.hid (down_of hO)
  have HM := Lib.hid (ord_min hO)
  have HI := Lib.hid hI
  have HS := Lib.hid hS
  have q0 := hH.box.cell
  have q0l := hH.box.lt
  have mln := meth_len b (some ⟨g, 0, none⟩) (n + 1) cap
  have msw := meth_swap b (some ⟨g, 0, none⟩) (n + 1) cap
  clear h hH hO hI hS
  go_enter Try.func41, Try.ntmps41
  go_wp2_with (first
    | (go_at_call 40; refine (len_any _ _ _ _).mono ?_; rintro e w1 ⟨rfl, g1, rfl⟩)
    | (go_at_call 63; refine (swap_any (i := 0) (j := n) (H.out.row.later ((Later.refl _).more _)) (by omega) (by omega)).mono ?_; rintro e w2 hsw; obtain rfl := hsw.1; have Hsw := Lib.hid hsw; have HH2 := Lib.hid ((H.out.later ((Later.refl _).more _)).swapped hsw); clear hsw)
    | (go_at_call 43; refine (down43 HH2.out HD.out (by omega) (by omega)).mono ?_; rintro e w3 ⟨v3, rfl, f3, hH3, hO3, hT3, hI3, hX3, hOn3⟩; have HH3 := Lib.hid hH3; clear hH3)
    | (go_at_call 61; refine (pop61 HH3.out (by omega)).mono ?_; rintro e w4 ⟨rfl, hH4, hOn4⟩))
  go_ret
  have hIs : Inj (n + 1) (swp f 0 n) := inj_swp HI.out (by omega) (by omega)
  have e3 : swp f 0 n n = f 0 := swp_j f 0 n
  have hmin : ∀ y, S y → swp f 0 n n ≤ y := fun y hy => by
    obtain ⟨k, hk, rfl⟩ := (HS.out y).1 hy
    rw [e3]; exact HM.out k hk
  refine ⟨swp f 0 n n, rfl, (HS.out _).2 ⟨0, by omega, e3.symm⟩, hmin, ⟨f3, hH4, hO3, hI3 (inj_cut hIs), fun y => ?_⟩, ?_⟩
  · rw [hX3 y, has_cut hIs, has_swp (by omega) (by omega), HS.out y]
  · refine (((Only.of_later ((Later.refl w).more _) _).trans Hsw.out.2.2 (fun i _ e => .inr e)).trans hOn3 (fun i _ e => .inr e)).trans hOn4 (fun i _ e => e)
end Go.Proofs.Ytbdhjoanjlkggaa
