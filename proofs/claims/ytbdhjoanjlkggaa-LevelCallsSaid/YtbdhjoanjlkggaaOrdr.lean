/-
  No statement of the seat is proved here. Contracts of level.Order and level.Depth, for every needs.
-/
import Derived.Test.YtbdhjoanjlkggaaSl
import Derived.StillTailTactics
import Derived.Laws.Cover1
namespace Go.Proofs.Ytbdhjoanjlkggaa
open Go Go.RowKit
set_option linter.unusedVariables false
namespace Lv
def orderE (ns : List (List Int)) : Int := if mayB ns = true then (if (told (nat ns)).length < ns.length then 35 else 0) else 1
def orderL (ns : List (List Int)) : List Nat := if mayB ns = true then (if (told (nat ns)).length < ns.length then [] else told (nat ns)) else []
def upd (d : Nat → Nat) (i x : Nat) : Nat → Nat := fun k => if k = i then x else d k
/-- One thing's depth, need by need. -/
def dRow (i : Nat) (r : List Nat) (d : Nat → Nat) : Nat → Nat := r.foldl (fun d k => upd d i (max (d i) (d k + 1))) d
def dAll (ms : List (List Nat)) (o : List Nat) (d : Nat → Nat) : Nat → Nat := o.foldl (fun d i => dRow i (row ms i) d) d
def depthF (ns : List (List Int)) : Nat → Nat := dAll (nat ns) (orderL ns) fun _ => 0
end Lv
def RetLE (w : World) (l : List Nat) (er : Int) (e : Ending) (w' : World) : Prop := ∃ v, e = .returned (.tuple #[v, .int .i64 er]) ∧ OwnL w' w.heap.size v l ∧ Later w w'
theorem OwnL.later {w w' : World} {base : Nat} {v : Value} {l : List Nat} (h : OwnL w base v l) (hl : Later w w') : OwnL w' base v l := h.only (Only.of_later hl fun _ => False) (fun _ _ => id)
theorem OwnL.mono {w : World} {base base' : Nat} {v : Value} {l : List Nat} (h : OwnL w base v l) (hb : base' ≤ base) : OwnL w base' v l :=
  ⟨h.1, h.2.imp id fun ⟨g, cap, cur, h1, h2, h3⟩ => ⟨g, cap, cur, h1, Nat.le_trans hb h2, h3⟩⟩
theorem OwnL.nil (w : World) (base : Nat) : OwnL w base (.slice none 0 0) [] := World.ownsRow_nil _ _ _ _
theorem nat_row_len (ns : List (List Int)) (i : Nat) : (Lv.row (Lv.nat ns) i).length = (ns.getD i []).length := by rw [Lv.nat_row, List.length_map]
theorem order_any (ns : List (List Int)) (A : Option Addr) (c : Nat) (w : World) (hN : NeedsR w A ns) (hn : ns.length ≤ 1000) (hr : ∀ i, (ns.getD i []).length ≤ 1000) :
    Calls Try.prog 14 #[.slice A ns.length c] w (RetLE w (Lv.orderL ns) (Lv.orderE ns)) := by
  have HN := Lib.hid hN
  cases hm : Lv.mayB ns
  · have HM := Lib.hid (fun w' h => may_is hm A c w' h hn hr)
    have e1 : Lv.orderE ns = 1 := by simp [Lv.orderE, hm]
    have e2 : Lv.orderL ns = [] := by simp [Lv.orderL, hm]
    rw [e1, e2]
    clear hm e1 e2 hN hr
    go_enter Try.func14, Try.ntmps14
    go_wp2_with (go_at_call 26; refine (HM.out _ HN.out).mono ?_; rintro e w' ⟨rfl, g, rfl⟩)
    go_ret2
    exact ⟨_, rfl, OwnL.nil _ _, (Later.refl _).more _⟩
  · have HM := Lib.hid (fun w' h => may_is hm A c w' h hn hr)
    have hT : ∀ w', NeedsR w' A ns → Calls Try.prog 32 #[.slice A ns.length c] w' (RetL w' (Lv.told (Lv.nat ns))) := fun w' h => by
      have := told_any (Lv.nat ns) A c w' (by rw [Lv.may_nat hm]; exact h) (Lv.may_lt hm) (by rw [Lv.nat_len]; exact hn) (fun i => by rw [nat_row_len]; exact hr i)
      rwa [Lv.nat_len] at this
    have HT := Lib.hid hT
    have e1 : Lv.orderE ns = if (Lv.told (Lv.nat ns)).length < ns.length then 35 else 0 := by simp [Lv.orderE, hm]
    have e2 : Lv.orderL ns = if (Lv.told (Lv.nat ns)).length < ns.length then [] else Lv.told (Lv.nat ns) := by simp [Lv.orderL, hm]
    rw [e1, e2]
    clear hm e1 e2 hN hr hT
    generalize Lv.told (Lv.nat ns) = T at *
    by_cases hlt : T.length < ns.length
    · rw [if_pos hlt, if_pos hlt]
      go_enter Try.func14, Try.ntmps14
      go_wp2_with (first
        | (go_at_call 26; refine (HM.out _ HN.out).mono ?_; rintro e w' ⟨rfl, g, rfl⟩)
        | (go_at_call 32; refine (HT.out _ (HN.out.later ((Later.refl _).more _))).mono ?_; rintro e w2 ⟨v, rfl, hO, hL⟩; obtain ⟨Av, cv, rfl, _, _⟩ := hO.form; have HO := Lib.hid hO; clear hO))
      go_ret2
      exact ⟨_, rfl, OwnL.nil _ _, ((Later.refl _).more _).trans hL⟩
    · rw [if_neg hlt, if_neg hlt]
      go_enter Try.func14, Try.ntmps14
      go_wp2_with (first
        | (go_at_call 26; refine (HM.out _ HN.out).mono ?_; rintro e w' ⟨rfl, g, rfl⟩)
        | (go_at_call 32; refine (HT.out _ (HN.out.later ((Later.refl _).more _))).mono ?_; rintro e w2 ⟨v, rfl, hO, hL⟩; obtain ⟨Av, cv, rfl, _, _⟩ := hO.form; have HO := Lib.hid hO; clear hO))
      go_ret2
      exact ⟨_, rfl, HO.out.mono (by simp), ((Later.refl _).more _).trans hL⟩
namespace Lv
theorem next_rdy {ns : List (List Nat)} {D : List Nat} {i : Nat} (h : next ns D = some i) : i < ns.length ∧ rdy ns D i = true := by
  unfold next at h
  have h1 := List.find?_some h
  have h2 := List.mem_of_find?_eq_some h
  exact ⟨List.mem_range.1 h2, h1⟩
theorem toldF_good {ns : List (List Nat)} : ∀ (n : Nat) (D : List Nat), Good ns D → Good ns (toldF ns n D)
  | 0, D, h => h
  | n + 1, D, h => by
    unfold toldF
    cases hx : next ns D with
    | none => exact h
    | some i =>
      obtain ⟨h1, h2⟩ := next_rdy hx
      exact toldF_good n _ (h.snoc h1 h2)
theorem told_good (ns : List (List Nat)) : Good ns (told ns) := toldF_good _ _ (Good.nil ns)
theorem dRow_next {i p k : Nat} {r : List Nat} {d : Nat → Nat} (hp : p < r.length) (hk : r.getD p 0 = k) : dRow i (r.take (p + 1)) d = upd (dRow i (r.take p) d) i (max (dRow i (r.take p) d i) (dRow i (r.take p) d k + 1)) := by
  have e : r[p] = k := by rw [← hk, List.getD_eq_getElem?_getD, List.getElem?_eq_getElem hp]; rfl
  unfold dRow
  rw [List.take_succ_eq_append_getElem hp, List.foldl_append, e]
  rfl
theorem dAll_next {ms : List (List Nat)} {q i : Nat} {o : List Nat} {d : Nat → Nat} (hq : q < o.length) (hi : o.getD q 0 = i) : dAll ms (o.take (q + 1)) d = dRow i (row ms i) (dAll ms (o.take q) d) := by
  have e : o[q] = i := by rw [← hi, List.getD_eq_getElem?_getD, List.getElem?_eq_getElem hq]; rfl
  unfold dAll
  rw [List.take_succ_eq_append_getElem hq, List.foldl_append, e]
  rfl
end Lv
theorem run_max2 {x y z : Nat} (h : z = max x (y + 1)) (ts : Array TypeId) (t : TypeId) (w : World) : (Builtin.max_ ts t #[.int .i64 x, .int .i64 ((y : Int) + 1)]).run Try.prog w = .ok (.int .i64 z) w := by
  rw [run_max_int2]
  congr 2
  subst h
  split <;> omega
/-- A row of numbers, as its list. -/
theorem Rw.ownL {w : World} {base g N : Nat} {d : Nat → Nat} (h : Rw w base g N N fun k => ((d k : Nat) : Int)) : OwnL w base (.slice (some ⟨g, 0, none⟩) N N) ((List.range N).map d) := by
  unfold OwnL
  have := h.owns
  rw [List.length_map, List.length_range, List.map_map]
  exact this
end Go.Proofs.Ytbdhjoanjlkggaa
