/-
  No statement of the seat is proved here. What is reached, as a plain law; rows of bools of the call's own; a row cut, a row appended to a row.
-/
import Derived.Test.YtbdhjoanjlkggaaLay
import Derived.Deep.Upon
namespace Go.Proofs.Ytbdhjoanjlkggaa
open Go Go.RowKit
set_option linter.unusedVariables false
set_option linter.unusedSimpArgs false
namespace Lv
/-- What is needed, of fr, again and again. -/
inductive Rch (ms : List (List Nat)) (fr : List Nat) : Nat → Prop
  | base {x : Nat} (h : x ∈ fr) : Rch ms fr x
  | step {i k : Nat} (h : Rch ms fr i) (hk : k ∈ row ms i) : Rch ms fr k
open Classical in
noncomputable def reachB (ms : List (List Nat)) (fr : List Nat) (k : Nat) : Bool := decide (Rch ms fr k)
noncomputable def reachL (ms : List (List Nat)) (fr : List Nat) : List Bool := (List.range ms.length).map (reachB ms fr)
theorem reachB_iff {ms : List (List Nat)} {fr : List Nat} {k : Nat} : reachB ms fr k = true ↔ Rch ms fr k := by simp [reachB]
/-- The search, half way. -/
structure Half (ms : List (List Nat)) (fr : List Nat) (wk : List Nat) (is : Nat → Bool) : Prop where
  i1 : ∀ x ∈ fr, is x = true ∨ x ∈ wk
  i2 : ∀ i, is i = true → ∀ k ∈ row ms i, is k = true ∨ k ∈ wk
  i3 : ∀ i, is i = true → Rch ms fr i
  i4 : ∀ x ∈ wk, Rch ms fr x
  lt : ∀ x ∈ wk, x < ms.length
  few : wk.length ≤ 1000000 + (List.range ms.length).countP is * 1000
theorem Half.done {ms : List (List Nat)} {fr : List Nat} {is : Nat → Bool} (h : Half ms fr [] is) (k : Nat) : is k = reachB ms fr k := by
  have : is k = true ↔ reachB ms fr k = true := by
    rw [reachB_iff]
    constructor
    · exact h.i3 k
    · intro hr
      induction hr with
      | base hx => exact (h.i1 _ hx).resolve_right (by simp)
      | step _ hk ih => exact (h.i2 _ ih _ hk).resolve_right (by simp)
  cases h1 : is k <;> cases h2 : reachB ms fr k <;> simp_all
theorem Half.old {ms : List (List Nat)} {fr wk : List Nat} {is : Nat → Bool} {i : Nat} (h : Half ms fr (wk ++ [i]) is) (hi : is i = true) : Half ms fr wk is := by
  refine ⟨fun x hx => ?_, fun j hj k hk => ?_, h.i3, fun x hx => h.i4 x (by simp [hx]), fun x hx => h.lt x (by simp [hx]), ?_⟩
  · rcases h.i1 x hx with h1 | h1
    · exact .inl h1
    · rcases List.mem_append.1 h1 with h1 | h1
      · exact .inr h1
      · simp at h1; subst h1; exact .inl hi
  · rcases h.i2 j hj k hk with h1 | h1
    · exact .inl h1
    · rcases List.mem_append.1 h1 with h1 | h1
      · exact .inr h1
      · simp at h1; subst h1; exact .inl hi
  · have := h.few
    simp at this
    omega
theorem countP_upd (is : Nat → Bool) (i : Nat) (hi : is i = false) : ∀ N, (List.range N).countP (fun k => if k = i then true else is k) = (List.range N).countP is + if i < N then 1 else 0
  | 0 => rfl
  | N + 1 => by
    rw [List.range_succ, List.countP_append, List.countP_append, countP_upd is i hi N]
    simp only [List.countP_cons, List.countP_nil, Nat.zero_add]
    by_cases e : N = i
    · subst e; simp [hi]
    · simp only [e, if_false]
      by_cases e2 : i < N
      · simp only [e2, if_true, show i < N + 1 by omega]; omega
      · simp only [e2, if_false, show ¬ i < N + 1 by omega]; omega
theorem countP_not (is : Nat → Bool) (N : Nat) : (List.range N).countP (fun k => !is k) + (List.range N).countP is = N := by
  have := List.length_eq_countP_add_countP (p := is) (l := List.range N)
  simp only [List.length_range] at this
  have e : (List.range N).countP (fun k => !is k) = (List.range N).countP (fun k => decide ¬ is k = true) := by
    congr 1
    funext k
    cases is k <;> rfl
  rw [e]
  omega
theorem Half.new {ms : List (List Nat)} {fr wk : List Nat} {is : Nat → Bool} {i : Nat} (h : Half ms fr (wk ++ [i]) is) (hi : is i = false) (hlt : ∀ k ∈ row ms i, k < ms.length) (hr : (row ms i).length ≤ 1000) :
    Half ms fr (wk ++ row ms i) (fun k => if k = i then true else is k) := by
  have hiN := h.lt i (by simp)
  have hri := h.i4 i (by simp)
  refine ⟨fun x hx => ?_, fun j hj k hk => ?_, fun j hj => ?_, fun x hx => ?_, fun x hx => ?_, ?_⟩
  · show (if x = i then true else is x) = true ∨ _
    by_cases e : x = i
    · rw [if_pos e]; exact .inl rfl
    · rw [if_neg e]
      rcases h.i1 x hx with h1 | h1
      · exact .inl h1
      · rcases List.mem_append.1 h1 with h1 | h1
        · exact .inr (by simp [h1])
        · simp at h1; exact absurd h1 e
  · show (if k = i then true else is k) = true ∨ _
    by_cases e : k = i
    · rw [if_pos e]; exact .inl rfl
    · rw [if_neg e]
      by_cases ej : j = i
      · subst ej; exact .inr (by simp [hk])
      · have hj' : is j = true := by simpa [ej] using hj
        rcases h.i2 j hj' k hk with h1 | h1
        · exact .inl h1
        · rcases List.mem_append.1 h1 with h1 | h1
          · exact .inr (by simp [h1])
          · simp at h1; exact absurd h1 e
  · by_cases ej : j = i
    · subst ej; exact hri
    · exact h.i3 j (by simpa [ej] using hj)
  · rcases List.mem_append.1 hx with h1 | h1
    · exact h.i4 x (by simp [h1])
    · exact .step hri h1
  · rcases List.mem_append.1 hx with h1 | h1
    · exact h.lt x (by simp [h1])
    · exact hlt x h1
  · rw [countP_upd is i hi, if_pos hiN, List.length_append]
    have := h.few
    simp at this
    omega
end Lv
/-- A row of bools of the call's own. -/
def BRow (w : World) (g N : Nat) (is : Nat → Bool) : Prop := ∃ cur : Array Value, w.heap[g]? = some (.cells cur 4 (0, 0)) ∧ cur.size = N ∧ ∀ k, k < N → cur[k]? = some (.bool (is k))
theorem BRow.lt {w : World} {g N : Nat} {is : Nat → Bool} (h : BRow w g N is) : g < w.heap.size := by
  obtain ⟨cur, hg, _⟩ := h
  exact (Array.getElem?_eq_some_iff.1 hg).1
theorem BRow.cell {w : World} {g N : Nat} {is : Nat → Bool} (h : BRow w g N is) {k : Nat} (hk : k < N) : w.cell? ⟨g, k, none⟩ = some (.bool (is k)) := by
  obtain ⟨cur, hg, _, hc⟩ := h
  unfold World.cell?
  simp only [hg]
  exact hc k hk
theorem BRow.free {w : World} {g N : Nat} {is : Nat → Bool} (h : BRow w g N is) (k : Nat) : w.frozen? ⟨g, k, none⟩ = false := by
  obtain ⟨cur, hg, _⟩ := h
  unfold World.frozen?
  simp only [hg]
  simp
theorem BRow.only {w w' : World} {g N : Nat} {is : Nat → Bool} {S : Nat → Prop} (h : BRow w g N is) (ho : Only w w' S) (hn : ¬ S g) : BRow w' g N is := by
  obtain ⟨cur, hg, h1, h2⟩ := h
  exact ⟨cur, (ho.block g (Array.getElem?_eq_some_iff.1 hg).1 hn).trans hg, h1, h2⟩
theorem BRow.set {w : World} {g N : Nat} {is : Nat → Bool} (h : BRow w g N is) {i : Nat} (hi : i < N) : BRow (w.setCell ⟨g, i, none⟩ (.bool true)) g N (fun k => if k = i then true else is k) := by
  obtain ⟨cur, hg, h1, h2⟩ := h
  refine ⟨cur.setIfInBounds i (.bool true), ?_, by simpa using h1, fun k hk => ?_⟩
  · unfold World.setCell
    simp only [Array.getElem?_modify, if_true]
    simp only [hg, Option.map_some]
    simp
  · rw [Array.getElem?_setIfInBounds]
    by_cases e : k = i
    · subst e; simp; omega
    · rw [if_neg (fun he => e he.symm), h2 k hk]
      simp only [e, if_false]
theorem BRow.make {w w' : World} {base N : Nat} (hown : w'.ownsRow base 4 1 (.slice (some ⟨w.heap.size, 0, none⟩) N N) N (madeCells (Value.bool false).cells (N * 1)).toList) : BRow w' w.heap.size N (fun _ => false) := by
  obtain ⟨_, hh | ⟨g', cap', cur, hv, hb, hg, hn, hm, hs, ht⟩⟩ := hown
  · exact absurd hh.1 (by simp)
  · simp only [Value.slice.injEq, Option.some.injEq, Addr.mk.injEq, and_true, true_and] at hv
    obtain ⟨rfl, rfl⟩ := hv
    refine ⟨cur, hg, by omega, fun k hk => ?_⟩
    have h1 := made_get (.bool false) rfl N k hk
    rw [← ht, List.getElem?_take, if_pos (by omega), Array.getElem?_toList] at h1
    exact h1
theorem BRow.bools {w : World} {g N : Nat} {is : Nat → Bool} (h : BRow w g N is) : BoolsR w (some ⟨g, 0, none⟩) ((List.range N).map is) := by
  intro p hp
  have hp' : p < N := by simpa using hp
  refine ⟨g, 0, rfl, h.lt, ?_⟩
  rw [Nat.zero_add, h.cell hp', List.getD_eq_getElem?_getD, List.getElem?_map, List.getElem?_range hp']
  rfl
/-- How many bools of a row are false. -/
def isF : Option Value → Bool
  | some (.bool b) => !b
  | _ => false
def nf (w : World) (g N : Nat) : Nat := (List.range N).countP fun k => isF (w.cell? ⟨g, k, none⟩)
theorem BRow.nf {w : World} {g N : Nat} {is : Nat → Bool} (h : BRow w g N is) : nf w g N = (List.range N).countP fun k => !is k := by
  unfold Ytbdhjoanjlkggaa.nf
  apply List.countP_congr
  intro k hk
  rw [h.cell (List.mem_range.1 hk)]
  rfl
theorem OwnL.cut {w : World} {base n c : Nat} {A : Option Addr} {l : List Nat} (h : OwnL w base (.slice A n c) l) {m : Nat} (hm : m ≤ l.length) (h0 : 0 < l.length) : OwnL w base (.slice A m c) (l.take m) := by
  have hlen : (l.take m).length = m := by rw [List.length_take]; omega
  obtain ⟨_, h2⟩ := h
  rcases h2 with h2 | ⟨g, cap, cur, hv, hb, hg, h3, h4, h5, h6⟩
  · exact absurd h2.2 (by omega)
  · injection hv with e1 e2 e3
    subst e1 e3
    refine ⟨by simp, .inr ⟨g, c, cur, by rw [hlen], hb, hg, by rw [hlen]; omega, h4, h5, ?_⟩⟩
    rw [hlen, List.map_take, ← h6, List.take_take]
    congr 1
    omega
/-- A row appended to a row of the call's own. -/
theorem wpList_append_nats {ops : Array Oper} {rest : List Oper} {o : Oper} {a : Act} {Q : Exit → Act → World → Prop} {w : World} (hgd : o.guard = none) (s x : Operand)
    (ho : o.op = .call { callee := .builtin .append, args := #[s, x], argTypes := #[26, 26] }) (base : Nat) (v : Value) (l : List Nat) (hs : a.eval s = v) (hown : OwnL w base v l)
    (A : Option Addr) (c : Nat) (r : List Nat) (hx : a.eval x = .slice A r.length c) (hI : IntsR w A (ints r)) (h63 : l.length + r.length ≤ 10000000) (hbase : base ≤ w.heap.size)
    (h : ∀ v' w', OwnL w' base v' (l ++ r) → w.grownBy w' v.ownBlock → (v'.ownBlock = v.ownBlock ∨ v'.ownBlock = some w.heap.size) → wpList Try.prog ops Q rest (a.put o.dst v') w') :
    wpList Try.prog ops Q (o :: rest) a w := by
  obtain ⟨i3, hi3, hz3, hs3, hy3⟩ := info_parts (P := Try.prog) (e := 3) (z := .int .i64 0) (size := 1) (bytes := 8) info3
  cases A with
  | none =>
    have h0 : r = [] := by
      rcases r with _ | ⟨b, r⟩
      · rfl
      · obtain ⟨_, _, h, _⟩ := hI 0 (by simp [ints]); cases h
    subst h0
    refine wpList_plain hgd fun K hK => ?_
    obtain ⟨A', c', hv, hform⟩ : ∃ A' c', v = .slice A' l.length c' ∧ l.length ≤ c' := by
      rcases hown.2 with ⟨h1, h2⟩ | ⟨g, cap, cur, hv, _, _, h3, _⟩
      · exact ⟨none, 0, by rw [h1, h2], by omega⟩
      · exact ⟨_, cap, hv, h3⟩
    have hr := run_append_nothing (P := Try.prog) w 26 26 o.type 3 i3 Try.underlying26 hi3 A' l.length c' hform (.slice none 0 c) (Src.ofNil w Try.underlying26 c)
    unfold Oper.wp execOp
    have hx' : a.eval x = .slice none 0 c := hx
    rw [hv] at hs
    simp only [ho, resolve, invoke, builtin, Sem.run_bind, Sem.run_pure, Result.andThen_ok, List.map_toArray, List.map_cons, List.map_nil, hs, hx', hr]
    rw [← hv]
    exact hK _ _ (h v w (by rw [List.append_nil]; exact hown) ⟨rfl, rfl, rfl, Nat.le_refl _, fun _ _ _ => rfl⟩ (.inl rfl))
  | some ad =>
    refine wpList_append_own_at w hgd s x 26 ho base 3 i3 (.int .i64 0) 1 8 Try.underlying26 hi3 hz3 hs3 hy3 rfl (by decide) v l.length _ hs hown ad r.length c ((ints r).map (Value.int .i64)) hx (by simp [ints]) (fun j u hu => ?_) one_of (by unfold maxLen; omega) (by omega) hbase ?_
    · have hj : j < (ints r).length := by
        have := (List.getElem?_eq_some_iff.1 hu).1
        simpa using this
      obtain ⟨b, off, e, _, hc⟩ := hI j hj
      injection e with e
      subst e
      rw [List.getElem?_map, List.getElem?_eq_getElem hj] at hu
      rw [List.getD_eq_getElem?_getD, List.getElem?_eq_getElem hj] at hc
      unfold Addr.add
      by_cases e : j = 0
      · subst e
        simp only [if_true]
        exact hc.trans hu
      · simp only [e, if_false]
        exact hc.trans hu
    intro v' w' h2 h3 h4 h5
    refine h v' w' ?_ h3 h5
    unfold OwnL
    rw [List.length_append, List.map_append]
    have e : (r.map fun k => Value.int .i64 (k : Nat)) = (ints r).map (Value.int .i64) := by unfold ints; rw [List.map_map]; rfl
    rw [e]
    exact h2
end Go.Proofs.Ytbdhjoanjlkggaa
