/-
  No statement of the seat is proved here. The methods of level.ready, for every heap.
-/
import Derived.Test.YtbdhjoanjlkggaaRw
import Derived.Deep.RegionHeldLaw
import Derived.Deep.RegionLaw
import Derived.Deep.AppendLies
import Derived.Deep.RegionWith
import Derived.Deep.Quiet
import Derived.Deep.QuietTactic
import Derived.BigQuiet
import Derived.Maps.AppendAt
import Derived.Lib.Hide
namespace Go.Proofs.Ytbdhjoanjlkggaa
open Go Go.RowKit
set_option linter.unusedVariables false
theorem len_any (A : Option Addr) (n c : Nat) (w : World) : Calls Try.prog 40 #[.slice A n c] w (Ret w (.int .i64 n)) := by
  go_enter Try.func40, Try.ntmps40
  go_wp2
  go_ret
  exact Ret.mk (Later.refl _)
theorem less_is {base g n cap : Nat} {f : Nat → Int} {w : World} {v : Bool} (h : Rw w base g n cap f) {i j : Nat} (hi : i < n) (hj : j < n) (hv : decide (f i < f j) = v) :
    Calls Try.prog 60 #[.slice (some ⟨g, 0, none⟩) n cap, .int .i64 i, .int .i64 j] w (Ret w (.bool v)) := by
  have ci := h.cell hi
  have cj := h.cell hj
  have hl := h.lt
  have hc := h.cap_ge
  have hm := h.cap_le
  generalize f i = x at *
  generalize f j = y at *
  have hi0 : (0 : Int) ≤ (i : Int) := by omega
  have hj0 : (0 : Int) ≤ (j : Int) := by omega
  have hi1 : (i : Int) < (n : Int) := by omega
  have hj1 : (j : Int) < (n : Int) := by omega
  clear h
  go_enter Try.func60, Try.ntmps60
  go_wp2_with fail
  refine wp_region_later (by kernel_rfl) (by kernel_rfl) ?_
  repeat (go_big_quiet_step (fail))
  refine wpQuiet_nil ?_
  rintro _ ⟨g1, rfl⟩
  go_wp2_with fail
  go_ret
  exact Ret.mk ((Later.refl _).more _)
/-- Two entries change places. -/
def swp (f : Nat → Int) (i j k : Nat) : Int := if k = i then f j else if k = j then f i else f k
theorem swp_eq (f : Nat → Int) (i j : Nat) {x y : Int} (hx : f i = x) (hy : f j = y) : (fun k => if k = j then x else if k = i then y else f k) = swp f i j := by
  funext k
  unfold swp
  rw [hy, hx]
  by_cases e1 : k = j
  · by_cases e2 : k = i
    · rw [if_pos e1, if_pos e2, ← hx, ← hy, ← e1, ← e2]
    · rw [if_pos e1, if_neg e2, if_pos e1]
  · rw [if_neg e1]
    by_cases e2 : k = i
    · rw [if_pos e2, if_pos e2]
    · rw [if_neg e2, if_neg e2, if_neg e1]
theorem owns_drew {w : World} {base : Nat} {e : TypeId} {size : Nat} {v : Value} {n : Nat} {xs : List Value} (h : w.ownsRow base e size v n xs) : w.drew.ownsRow base e size v n xs := h
theorem cell_one_drew (w : World) (x : Value) (t : TypeId) : ∀ j u, [x][j]? = some u → (w.alloc (.cells #[x] t)).drew.cell? ((⟨w.heap.size, 0, none⟩ : Addr).add j) = some u := cell_one_new w x t
def Swapped (w : World) (base g n cap : Nat) (f : Nat → Int) (i j : Nat) (e : Ending) (w' : World) : Prop :=
  e = .returned (.tuple #[]) ∧ Rw w' base g n cap (swp f i j) ∧ Only w w' fun k => k = g
theorem swapped_of {base g n cap : Nat} {f : Nat → Int} {w : World} {x y : Int} (h : Rw w base g n cap f) {i j : Nat} (hi : i < n) (hj : j < n) (hx : f i = x) (hy : f j = y) :
    Swapped w base g n cap f i j (.returned (.tuple #[])) ((w.setCell ⟨g, i, none⟩ (.int .i64 y)).setCell ⟨g, j, none⟩ (.int .i64 x)).drew := by
  have h2 : Rw ((w.setCell ⟨g, i, none⟩ (.int .i64 y)).setCell ⟨g, j, none⟩ (.int .i64 x)) base g n cap (swp f i j) := swp_eq f i j hx hy ▸ (h.set hi y).set hj x
  have h3 : Only w ((w.setCell ⟨g, i, none⟩ (.int .i64 y)).setCell ⟨g, j, none⟩ (.int .i64 x)) (fun k => k = g) := ((Only.refl w (fun k => k = g)).setCell (p := ⟨g, i, none⟩) (.inl rfl) _).setCell (p := ⟨g, j, none⟩) (.inl rfl) _
  exact ⟨rfl, h2.later (Later.refl _).drew, h3.drew⟩
set_option maxHeartbeats 1000000 in
theorem swap_any {base g n cap : Nat} {f : Nat → Int} {w : World} (h : Rw w base g n cap f) {i j : Nat} (hi : i < n) (hj : j < n) :
    Calls Try.prog 63 #[.slice (some ⟨g, 0, none⟩) n cap, .int .i64 i, .int .i64 j] w (Swapped w base g n cap f i j) := by
  have ci := h.cell hi
  have cj := h.cell hj
  have fi := h.free i
  have fj := h.free j
  have hl := h.lt
  have hc := h.cap_ge
  have hm := h.cap_le
  have H := Lib.hid h
  clear h
  obtain ⟨x, hx⟩ : ∃ x, f i = x := ⟨_, rfl⟩
  obtain ⟨y, hy⟩ : ∃ x, f j = x := ⟨_, rfl⟩
  rw [hx] at ci
  rw [hy] at cj
  have Hx := Lib.hid hx
  have Hy := Lib.hid hy
  have hi0 : (0 : Int) ≤ (i : Int) := by omega
  have hj0 : (0 : Int) ≤ (j : Int) := by omega
  have hi1 : (i : Int) < (n : Int) := by omega
  have hj1 : (j : Int) < (n : Int) := by omega
  clear hx hy
  by_cases hij : i = j
  · subst hij
    have hxy : x = y := by rw [← Hx.out, ← Hy.out]
    subst hxy
    clear cj fj hj hj0 hj1 Hy
    go_enter Try.func63, Try.ntmps63
    go_wp2_with fail
    go_region_with (fail)
    all_goals
      go_wp2_with fail
      go_end0
      exact swapped_of H.out hi hi Hx.out Hx.out
  · have hji : ¬ j = i := fun e => hij e.symm
    go_enter Try.func63, Try.ntmps63
    go_wp2_with fail
    go_region_with (fail)
    all_goals
      go_wp2_with fail
      go_end0
      exact swapped_of H.out hi hj Hx.out Hy.out
/-- The heap: a pointer's block, and the row of what waits. -/
structure HeapAt (w : World) (base b g n cap : Nat) (f : Nat → Int) : Prop where
  ge : base ≤ b
  box : Box w b 62 (.slice (some ⟨g, 0, none⟩) n cap)
  row : Rw w base g n cap f
/-- What a push or pop leaves. -/
def Pushed (w : World) (base b g n : Nat) (f : Nat → Int) (e : Ending) (w' : World) : Prop :=
  e = .returned (.tuple #[]) ∧ ∃ g' cap', HeapAt w' base b g' n cap' f ∧ Only w w' (fun k => k = b ∨ k = g) ∧ (g' = g ∨ w.heap.size ≤ g')
theorem heap_drew_alloc {w : World} (o : Obj) {b : Nat} (hb : b < w.heap.size) : (w.alloc o).drew.heap[b]? = w.heap[b]? := Below.heap_alloc w o b hb
theorem box_push {w w1 : World} {base b g n cap : Nat} {f : Nat → Int} (h : HeapAt w base b g n cap f) (o : Obj) (hg : (w.alloc o).drew.grownBy w1 (some g)) : Box w1 b 62 (.slice (some ⟨g, 0, none⟩) n cap) := by
  have hlt := h.box.lt
  refine h.box.kept ((hg.block b (by show b < (w.alloc o).heap.size; simp; omega) (fun e => ?_)).trans (heap_drew_alloc o hlt))
  injection e with e
  exact h.row.ne_box h.box e.symm
theorem pushed_of {w w1 : World} {base b g n cap g' cap' : Nat} {f : Nat → Int} {x : Int} {o : Obj} (h : HeapAt w base b g n cap f)
    (hown : w1.ownsRow base 3 1 (.slice (some ⟨g', 0, none⟩) (n + 1) cap') (n + 1) ((List.range n).map (fun k => Value.int .i64 (f k)) ++ [.int .i64 x])) (hg : (w.alloc o).drew.grownBy w1 (some g))
    (hat : (Value.slice (some ⟨g, 0, none⟩) n cap).ownBlock = some g' ∨ g' = w.heap.size + 1) :
    Pushed w base b g (n + 1) (fun k => if k = n then x else f k) (.returned (.tuple #[])) (w1.setCell ⟨b, 0, none⟩ (.slice (some ⟨g', 0, none⟩) (n + 1) cap')) := by
  have hb1 := box_push h o hg
  have hr1 : Rw w1 base g' (n + 1) cap' (fun k => if k = n then x else f k) := Rw.of_owns hown (range_snoc n f x)
  have hne : b ≠ g' := fun e => hr1.ne_box hb1 e.symm
  have ho : Only w w1 (fun k => k = b ∨ k = g) := ((Only.refl w _).alloc o).drew.trans (Only.grown hg) (fun i _ hi => by injection hi with hi; exact .inr hi.symm)
  refine ⟨rfl, g', cap', ⟨h.ge, hb1.set _, hr1.other hne _⟩, ho.setCell (.inl (.inl rfl)) _, ?_⟩
  rcases hat with hat | hat
  · left
    injection hat with hat
    exact hat.symm
  · right; omega
set_option maxHeartbeats 2000000 in
theorem push62 {base b g n cap : Nat} {f : Nat → Int} {w : World} (h : HeapAt w base b g n cap f) (hn : n ≤ 100000) (hb0 : base ≤ w.heap.size) (x : Int) :
    Calls Try.prog 62 #[.pointer (some ⟨b, 0, none⟩), .iface 3 (.int .i64 x)] w (Pushed w base b g (n + 1) (fun k => if k = n then x else f k)) := by
  obtain ⟨i0, hi, hz0, hz1, hz2⟩ := info_parts (P := Try.prog) (e := 3) (z := .int .i64 0) (size := 1) (bytes := 8) info3
  have hta : ∀ (x : Int) (w : World), (Instr.typeAssert (.iface 3 (.int .i64 x)) 20 3 false).run Try.prog w = .ok (.int .i64 x) w := fun _ _ => by kernel_rfl
  have hcell := h.box.cell
  have hfree := h.box.free
  have hlt := h.box.lt
  have hown := h.row.owns
  have H := Lib.hid h
  have HO := Lib.hid hown
  clear h hown
  go_enter Try.func62, Try.ntmps62
  go_wp2_with fail
  go_region_law
    ((refine step_append_lies _ (by rfl) _ _ _ (by rfl) base 3 i0 (.int .i64 0) 1 8 Try.underlying62 hi hz0 hz1 hz2 rfl (by decide) _ _ _ (by rfl) (owns_drew (HO.out.alloc _)) ⟨w.heap.size, 0, none⟩ 1 1 [.int .i64 x] (by rfl) rfl (cell_one_drew _ _ _) (fun x hx => by simp at hx; subst hx; rfl) (by omega) (by unfold maxLen; omega) (by omega) (by simp; omega) (w.heap.size + 1) (by simp) ?_; intro g' cap' w1 hown1 hgrow1 hat1 hlt1; have q1 := (box_push H.out _ hgrow1).cell; have q2 := (box_push H.out _ hgrow1).free))
  all_goals
    go_wp2_with fail
    go_end0
    exact pushed_of H.out hown1 hgrow1 hat1
/-- What a pop leaves. -/
def Popped (w : World) (base b g n cap : Nat) (f : Nat → Int) (x : Int) (e : Ending) (w' : World) : Prop :=
  e = .returned (.iface 3 (.int .i64 x)) ∧ HeapAt w' base b g n cap f ∧ Only w w' (fun k => k = b ∨ k = g)
theorem pop61 {base b g n cap : Nat} {f : Nat → Int} {w : World} (h : HeapAt w base b g (n + 1) cap f) (hn : n ≤ 100000) :
    Calls Try.prog 61 #[.pointer (some ⟨b, 0, none⟩)] w (Popped w base b g n cap f (f n)) := by
  have hcell := h.box.cell
  have hfree := h.box.free
  have hlt := h.box.lt
  have cn := h.row.cell (Nat.lt_succ_self n)
  have hc := h.row.cap_ge
  have hm := h.row.cap_le
  have H := Lib.hid h
  clear h
  obtain ⟨x, hx⟩ : ∃ x, f n = x := ⟨_, rfl⟩
  rw [hx] at cn ⊢
  clear hx
  go_enter Try.func61, Try.ntmps61
  go_wp2_with fail
  go_ret
  exact ⟨rfl, ⟨H.out.ge, H.out.box.set _, (H.out.row.cut (Nat.le_succ n)).other (fun e => H.out.row.ne_box H.out.box e.symm) _⟩, (Only.refl w _).setCell (.inl (.inl rfl)) _⟩
theorem meth_less0 (b : Nat) (w : World) : (method 190 61 (.pointer (some ⟨b, 0, none⟩)) "Less").run Try.prog w = ((do let v ← loadVar 62 ⟨b, 0, none⟩; pure ((60 : FuncId), v)) : Sem (FuncId × Value)).run Try.prog w := by kernel_rfl
theorem meth_less (b : Nat) (A : Option Addr) (n c : Nat) (w : World) (h : w.cell? ⟨b, 0, none⟩ = some (.slice A n c)) : (method 190 61 (.pointer (some ⟨b, 0, none⟩)) "Less").run Try.prog w = .ok (60, .slice A n c) w := by
  rw [meth_less0]
  go_simp
theorem meth_len0 (b : Nat) (w : World) : (method 190 61 (.pointer (some ⟨b, 0, none⟩)) "Len").run Try.prog w = ((do let v ← loadVar 62 ⟨b, 0, none⟩; pure ((40 : FuncId), v)) : Sem (FuncId × Value)).run Try.prog w := by kernel_rfl
theorem meth_len (b : Nat) (A : Option Addr) (n c : Nat) (w : World) (h : w.cell? ⟨b, 0, none⟩ = some (.slice A n c)) : (method 190 61 (.pointer (some ⟨b, 0, none⟩)) "Len").run Try.prog w = .ok (40, .slice A n c) w := by
  rw [meth_len0]
  go_simp
theorem meth_swap0 (b : Nat) (w : World) : (method 190 61 (.pointer (some ⟨b, 0, none⟩)) "Swap").run Try.prog w = ((do let v ← loadVar 62 ⟨b, 0, none⟩; pure ((63 : FuncId), v)) : Sem (FuncId × Value)).run Try.prog w := by kernel_rfl
theorem meth_swap (b : Nat) (A : Option Addr) (n c : Nat) (w : World) (h : w.cell? ⟨b, 0, none⟩ = some (.slice A n c)) : (method 190 61 (.pointer (some ⟨b, 0, none⟩)) "Swap").run Try.prog w = .ok (63, .slice A n c) w := by
  rw [meth_swap0]
  go_simp
end Go.Proofs.Ytbdhjoanjlkggaa
