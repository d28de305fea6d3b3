/-
  No statement of the seat is proved here. Rows of rows of a call's own, appended to row by row. No condition.
-/
import Derived.Test.YtbdhjoanjlkggaaWk
namespace Go.Proofs.Ytbdhjoanjlkggaa
open Go Go.RowKit
set_option linter.unusedVariables false
theorem OwnI.only {w w' : World} {base : Nat} {v : Value} {l : List Int} {S : Nat → Prop} (h : OwnI w base v l) (ho : Only w w' S) (hn : ∀ b, v.ownBlock = some b → ¬ S b) : OwnI w' base v l := by
  refine ⟨h.1, ?_⟩
  rcases h.2 with h2 | ⟨g, cap, cur, hv, hb, hg, h3⟩
  · exact .inl h2
  · exact .inr ⟨g, cap, cur, hv, hb, (ho.block g (Array.getElem?_eq_some_iff.1 hg).1 (hn g (by rw [hv]; rfl))).trans hg, h3⟩
theorem OwnI.later {w w' : World} {base : Nat} {v : Value} {l : List Int} (h : OwnI w base v l) (hl : Later w w') : OwnI w' base v l := h.only (Only.of_later hl fun _ => False) (fun _ _ => id)
theorem OwnI.mono {w : World} {base base' : Nat} {v : Value} {l : List Int} (h : OwnI w base v l) (hb : base' ≤ base) : OwnI w base' v l :=
  ⟨h.1, h.2.imp id fun ⟨g, cap, cur, h1, h2, h3⟩ => ⟨g, cap, cur, h1, Nat.le_trans hb h2, h3⟩⟩
theorem OwnI.form {w : World} {base : Nat} {v : Value} {l : List Int} (h : OwnI w base v l) : ∃ A c, v = .slice A l.length c ∧ l.length ≤ c ∧ IntsR w A l ∧ (∀ a, A = some a → a.spot = none) ∧ (∀ b, v.ownBlock = some b → base ≤ b ∧ b < w.heap.size) := by
  rcases h.2 with ⟨rfl, h0⟩ | ⟨g, cap, cur, rfl, hb, hg, h1, h2, h3, h4⟩
  · exact ⟨none, 0, by rw [h0], by omega, (fun p hp => by omega), (fun a h => by cases h), (fun b hb => by cases hb)⟩
  · have hlt := (Array.getElem?_eq_some_iff.1 hg).1
    refine ⟨_, cap, rfl, h1, fun p hp => ⟨g, 0, rfl, hlt, ?_⟩, fun a h => by injection h with h; rw [← h], fun b hb' => by injection hb' with e; rw [← e]; exact ⟨hb, hlt⟩⟩
    rw [Nat.zero_add]
    have h5 := congrArg (fun x => x[p]?) h4
    simp only [List.getElem?_take, List.getElem?_map] at h5
    rw [if_pos (by omega), List.getElem?_eq_getElem hp, Array.getElem?_toList] at h5
    unfold World.cell?
    simp only [hg]
    rw [List.getD_eq_getElem?_getD, List.getElem?_eq_getElem hp]
    simpa using h5
/-- Values that are rows of ints of the call's own. -/
def RowsO (w : World) (base : Nat) : List Value → List (List Int) → Prop
  | [], [] => True
  | v :: vs, r :: rs => OwnI w base v r ∧ RowsO w base vs rs
  | _, _ => False
theorem RowsO.imp {w w' : World} {base base' : Nat} {P : Value → Prop} (hP : ∀ v r, P v → OwnI w base v r → OwnI w' base' v r) : ∀ {vs : List Value} {rs : List (List Int)}, (∀ v ∈ vs, P v) → RowsO w base vs rs → RowsO w' base' vs rs
  | [], [], _, _ => trivial
  | v :: vs, r :: rs, hv, h => ⟨hP v r (hv v (by simp)) h.1, RowsO.imp hP (fun u hu => hv u (by simp [hu])) h.2⟩
  | [], _ :: _, _, h => h.elim
  | _ :: _, [], _, h => h.elim
theorem RowsO.snoc {w : World} {base : Nat} {v : Value} {r : List Int} (hv : OwnI w base v r) : ∀ {vs : List Value} {rs : List (List Int)}, RowsO w base vs rs → RowsO w base (vs ++ [v]) (rs ++ [r])
  | [], [], _ => ⟨hv, trivial⟩
  | _ :: _, _ :: _, h => ⟨h.1, RowsO.snoc hv h.2⟩
  | [], _ :: _, h => h.elim
  | _ :: _, [], h => h.elim
theorem RowsO.length {w : World} {base : Nat} : ∀ {vs : List Value} {rs : List (List Int)}, RowsO w base vs rs → vs.length = rs.length
  | [], [], _ => rfl
  | _ :: _, _ :: _, h => by simp [RowsO.length h.2]
  | [], _ :: _, h => h.elim
  | _ :: _, [], h => h.elim
theorem RowsO.at_ {w : World} {base : Nat} : ∀ {vs : List Value} {rs : List (List Int)}, RowsO w base vs rs → ∀ i, i < rs.length → ∃ v, vs[i]? = some v ∧ OwnI w base v (rs.getD i [])
  | [], [], _, i, hi => absurd hi (by simp)
  | [], _ :: _, h, _, _ => h.elim
  | _ :: _, [], h, _, _ => h.elim
  | v :: vs, r :: rs, h, 0, _ => ⟨v, rfl, h.1⟩
  | v :: vs, r :: rs, h, i + 1, hi => by
    obtain ⟨u, h1, h2⟩ := RowsO.at_ h.2 i (by simpa using hi)
    exact ⟨u, by simpa using h1, by simpa using h2⟩
theorem RowsO.set {w : World} {base : Nat} {v : Value} {r : List Int} (hv : OwnI w base v r) : ∀ {vs : List Value} {rs : List (List Int)} (i : Nat), RowsO w base vs rs → RowsO w base (vs.set i v) (rs.set i r)
  | [], [], _, _ => trivial
  | _ :: _, _ :: _, 0, h => ⟨hv, h.2⟩
  | _ :: _, _ :: _, i + 1, h => ⟨h.1, RowsO.set hv i h.2⟩
  | [], _ :: _, _, h => h.elim
  | _ :: _, [], _, h => h.elim
/-- A row of rows of the call's own. -/
def OwnN (w : World) (base : Nat) (v : Value) (ns : List (List Int)) : Prop := ∃ vs, w.ownsRow base 26 1 v ns.length vs ∧ RowsO w base vs ns
theorem OwnN.nil (w : World) (base : Nat) : OwnN w base (.slice none 0 0) [] := ⟨[], World.ownsRow_nil _ _ _ _, trivial⟩
theorem owns_only {w w' : World} {base t n : Nat} {v : Value} {vs : List Value} {S : Nat → Prop} (h : w.ownsRow base t 1 v n vs) (ho : Only w w' S) (hn : ∀ b, v.ownBlock = some b → ¬ S b) : w'.ownsRow base t 1 v n vs := by
  refine ⟨h.1, ?_⟩
  rcases h.2 with h2 | ⟨g, cap, cur, hv, hb, hg, h3⟩
  · exact .inl h2
  · exact .inr ⟨g, cap, cur, hv, hb, (ho.block g (Array.getElem?_eq_some_iff.1 hg).1 (hn g (by rw [hv]; rfl))).trans hg, h3⟩
theorem OwnN.later {w w' : World} {base : Nat} {v : Value} {ns : List (List Int)} (h : OwnN w base v ns) (hl : Later w w') : OwnN w' base v ns := by
  obtain ⟨vs, h1, h2⟩ := h
  exact ⟨vs, owns_only h1 (Only.of_later hl fun _ => False) (fun _ _ => id), h2.imp (P := fun _ => True) (fun v r _ hO => hO.later hl) (fun _ _ => trivial)⟩
theorem OwnN.mono {w : World} {base base' : Nat} {v : Value} {ns : List (List Int)} (h : OwnN w base v ns) (hb : base' ≤ base) : OwnN w base' v ns := by
  obtain ⟨vs, h1, h2⟩ := h
  exact ⟨vs, ⟨h1.1, h1.2.imp id fun ⟨g, cap, cur, q1, q2, q3⟩ => ⟨g, cap, cur, q1, Nat.le_trans hb q2, q3⟩⟩, h2.imp (P := fun _ => True) (fun v r _ hO => hO.mono hb) (fun _ _ => trivial)⟩
/-- What is laid out as rows, and what as numbers, are two blocks. -/
theorem own_apart {w : World} {base base' n : Nat} {v u : Value} {vs : List Value} {l : List Int} (h : w.ownsRow base 26 1 v n vs) (k : OwnI w base' u l) (b : Nat) (hu : u.ownBlock = some b) : v.ownBlock ≠ some b := by
  intro hv
  rcases h.2 with ⟨rfl, _⟩ | ⟨g, cap, cur, rfl, _, hg, _⟩
  · cases hv
  · rcases k.2 with ⟨rfl, _⟩ | ⟨g', cap', cur', rfl, _, hg', _⟩
    · cases hu
    · injection hv with e1
      injection hu with e2
      have e1 : g = b := e1
      have e2 : g' = b := e2
      subst e1 e2
      rw [hg] at hg'
      injection hg' with h3
      injection h3 with _ h4 _
      exact absurd h4 (by decide)
theorem OwnN.snoc {w w' : World} {base : Nat} {v v' x : Value} {o : Obj} {ns : List (List Int)} {vs : List Value} {r : List Int} (h1 : w.ownsRow base 26 1 v ns.length vs) (h2 : RowsO w base vs ns) (hx : OwnI w base x r)
    (hown : w'.ownsRow base 26 1 v' (ns.length + 1) (vs ++ [x])) (hg : (w.alloc o).grownBy w' v.ownBlock) : OwnN w' base v' (ns ++ [r]) := by
  have ho : Only w w' fun k => v.ownBlock = some k := (Only.of_later ((Later.refl w).alloc o) _).trans (Only.grown hg) (fun _ _ h => h)
  refine ⟨vs ++ [x], by rw [List.length_append]; exact hown, ?_⟩
  refine RowsO.snoc (hx.only ho (fun b hb => own_apart h1 hx b hb)) ?_
  exact h2.imp (P := fun _ => True) (fun u r' _ hO => hO.only ho (fun b hb => own_apart h1 hO b hb)) (fun _ _ => trivial)
theorem OwnN.form {w : World} {base : Nat} {v : Value} {ns : List (List Int)} (h : OwnN w base v ns) : ∃ A c, v = .slice A ns.length c ∧ NeedsR w A ns ∧ (∀ b, v.ownBlock = some b → base ≤ b ∧ b < w.heap.size) := by
  obtain ⟨vs, h1, h2⟩ := h
  rcases h1.2 with ⟨rfl, h0⟩ | ⟨g, cap, cur, rfl, hb, hg, q1, q2, q3, q4⟩
  · exact ⟨none, 0, by rw [h0], (fun p hp => by omega), (fun b hb => by cases hb)⟩
  · have hlt := (Array.getElem?_eq_some_iff.1 hg).1
    refine ⟨_, cap, rfl, fun p hp => ?_, fun b hb' => by injection hb' with e; rw [← e]; exact ⟨hb, hlt⟩⟩
    obtain ⟨u, h5, hO⟩ := h2.at_ p hp
    obtain ⟨A, c, rfl, _, hI, _⟩ := hO.form
    refine ⟨g, 0, A, c, rfl, hlt, ?_, hI⟩
    rw [Nat.zero_add]
    rw [← q4, List.getElem?_take, if_pos (by omega), Array.getElem?_toList] at h5
    unfold World.cell?
    simp only [hg]
    exact h5
end Go.Proofs.Ytbdhjoanjlkggaa
