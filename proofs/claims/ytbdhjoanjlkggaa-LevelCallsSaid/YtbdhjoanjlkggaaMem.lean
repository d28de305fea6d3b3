/-
  No statement of the seat is proved here. Needs in memory; rows of rows of the call's own. No condition.
-/
import Derived.Test.YtbdhjoanjlkggaaRw
import Derived.Test.YtbdhjoanjlkggaaSpec
import Derived.Maps.AppendAt
import Derived.Deep.AppendLies
namespace Go.Proofs.Ytbdhjoanjlkggaa
open Go Go.RowKit
set_option linter.unusedVariables false
set_option linter.unusedSimpArgs false

/-- A row of ints that is read. -/
def IntsR (w : World) (A : Option Addr) (l : List Int) : Prop := ∀ p, p < l.length → ∃ b off, A = some ⟨b, off, none⟩ ∧ b < w.heap.size ∧ w.cell? ⟨b, off + p, none⟩ = some (.int .i64 (l.getD p 0))
theorem cell_later' {w w' : World} (hl : Later w w') {b o : Nat} (hb : b < w.heap.size) : w'.cell? ⟨b, o, none⟩ = w.cell? ⟨b, o, none⟩ := by
  obtain ⟨g, rfl⟩ := hl
  exact more_cell _ _ _ _ hb
theorem later_lt {w w' : World} (hl : Later w w') {b : Nat} (hb : b < w.heap.size) : b < w'.heap.size := Nat.lt_of_lt_of_le hb hl.below.size
theorem IntsR.later {w w' : World} {A : Option Addr} {l : List Int} (h : IntsR w A l) (hl : Later w w') : IntsR w' A l := by
  intro p hp
  obtain ⟨b, off, hA, hb, hc⟩ := h p hp
  exact ⟨b, off, hA, later_lt hl hb, by rw [cell_later' hl hb]; exact hc⟩
/-- Needs: a row of rows of ints. -/
def NeedsR (w : World) (A : Option Addr) (ns : List (List Int)) : Prop :=
  ∀ i, i < ns.length → ∃ b off Ai ci, A = some ⟨b, off, none⟩ ∧ b < w.heap.size ∧ w.cell? ⟨b, off + i, none⟩ = some (.slice Ai (ns.getD i []).length ci) ∧ IntsR w Ai (ns.getD i [])
theorem NeedsR.later {w w' : World} {A : Option Addr} {ns : List (List Int)} (h : NeedsR w A ns) (hl : Later w w') : NeedsR w' A ns := by
  intro i hi
  obtain ⟨b, off, Ai, ci, hA, hb, hc, hr⟩ := h i hi
  exact ⟨b, off, Ai, ci, hA, later_lt hl hb, by rw [cell_later' hl hb]; exact hc, hr.later hl⟩
/-- Numbers as ints. -/
def ints (l : List Nat) : List Int := l.map Int.ofNat
/-- Needs that may be, as numbers. -/
def toI (ms : List (List Nat)) : List (List Int) := ms.map ints
theorem toI_len (ms : List (List Nat)) : (toI ms).length = ms.length := by simp [toI]
theorem toI_row (ms : List (List Nat)) (i : Nat) : (toI ms).getD i [] = ints (Lv.row ms i) := by
  unfold toI Lv.row
  rw [List.getD_eq_getElem?_getD, List.getD_eq_getElem?_getD, List.getElem?_map]
  cases ms[i]? <;> rfl
theorem ints_len (l : List Nat) : (ints l).length = l.length := by simp [ints]
theorem map_getD (l : List Nat) (p : Nat) : (ints l).getD p 0 = ((l.getD p 0 : Nat) : Int) := by
  unfold ints
  rw [List.getD_eq_getElem?_getD, List.getD_eq_getElem?_getD, List.getElem?_map]
  cases l[p]? <;> rfl
theorem NeedsR.at_ {w : World} {A : Option Addr} {ms : List (List Nat)} (h : NeedsR w A (toI ms)) {i : Nat} (hi : i < ms.length) :
    ∃ b off Ai ci, A = some ⟨b, off, none⟩ ∧ b < w.heap.size ∧ w.cell? ⟨b, off + i, none⟩ = some (.slice Ai (Lv.row ms i).length ci) ∧ IntsR w Ai (ints (Lv.row ms i)) := by
  obtain ⟨b, off, Ai, ci, hA, hb, hc, hr⟩ := h i (by rw [toI_len]; exact hi)
  rw [toI_row] at hc hr
  rw [ints_len] at hc
  exact ⟨b, off, Ai, ci, hA, hb, hc, hr⟩
theorem IntsR.at_ {w : World} {A : Option Addr} {l : List Nat} (h : IntsR w A (ints l)) {p : Nat} (hp : p < l.length) :
    ∃ b off, A = some ⟨b, off, none⟩ ∧ b < w.heap.size ∧ w.cell? ⟨b, off + p, none⟩ = some (.int .i64 ((l.getD p 0 : Nat) : Int)) := by
  obtain ⟨b, off, hA, hb, hc⟩ := h p (by rw [ints_len]; exact hp)
  rw [map_getD] at hc
  exact ⟨b, off, hA, hb, hc⟩
/-- A row that a call owns, by its list. -/
def OwnL (w : World) (base : Nat) (v : Value) (l : List Nat) : Prop := w.ownsRow base 3 1 v l.length (l.map fun k => Value.int .i64 (k : Nat))
theorem OwnL.only {w w' : World} {base : Nat} {v : Value} {l : List Nat} {S : Nat → Prop} (h : OwnL w base v l) (ho : Only w w' S) (hn : ∀ b, v.ownBlock = some b → ¬ S b) : OwnL w' base v l := by
  refine ⟨h.1, ?_⟩
  rcases h.2 with h2 | ⟨g, cap, cur, hv, hb, hg, h3⟩
  · exact .inl h2
  · exact .inr ⟨g, cap, cur, hv, hb, (ho.block g (Array.getElem?_eq_some_iff.1 hg).1 (hn g (by rw [hv]; rfl))).trans hg, h3⟩
theorem OwnL.form {w : World} {base : Nat} {v : Value} {l : List Nat} (h : OwnL w base v l) : ∃ A c, v = .slice A l.length c ∧ IntsR w A (ints l) ∧ (∀ b, v.ownBlock = some b → base ≤ b ∧ b < w.heap.size) := by
  rcases h.2 with ⟨rfl, h0⟩ | ⟨g, cap, cur, rfl, hb, hg, h1, h2, h3, h4⟩
  · exact ⟨none, 0, by rw [h0], (fun p hp => by rw [ints_len] at hp; omega), (fun b hb => by cases hb)⟩
  · have hlt := (Array.getElem?_eq_some_iff.1 hg).1
    refine ⟨_, cap, rfl, fun p hp => ⟨g, 0, rfl, hlt, ?_⟩, fun b hb' => by injection hb' with e; rw [← e]; exact ⟨hb, hlt⟩⟩
    have hp' : p < l.length := by rw [ints_len] at hp; exact hp
    rw [Nat.zero_add, map_getD]
    have h5 := congrArg (fun x => x[p]?) h4
    simp only [List.getElem?_take, List.getElem?_map] at h5
    rw [if_pos (by omega), List.getElem?_eq_getElem hp', Array.getElem?_toList] at h5
    unfold World.cell?
    simp only [hg]
    rw [List.getD_eq_getElem?_getD, List.getElem?_eq_getElem hp']
    simpa using h5
/-- Rows of a call's own behind a row of the call's own: who uses what. -/
structure Users (w : World) (base U N : Nat) (us : Nat → List Nat) (B : Nat → Prop) : Prop where
  inB : B U
  fit : ∀ b, B b → base ≤ b ∧ b < w.heap.size
  ex : ∃ (cur : Array Value) (vs : Nat → Value), w.heap[U]? = some (.cells cur 26 (0, 0)) ∧ cur.size = N ∧ (∀ k, k < N → cur[k]? = some (vs k)) ∧ (∀ k, k < N → OwnL w base (vs k) (us k)) ∧
    (∀ k, k < N → ∀ b, (vs k).ownBlock = some b → B b ∧ b ≠ U) ∧ ∀ k k', k < N → k' < N → k ≠ k' → ∀ b, (vs k).ownBlock = some b → (vs k').ownBlock ≠ some b
theorem Users.only {w w' : World} {base U N : Nat} {us : Nat → List Nat} {B S : Nat → Prop} (h : Users w base U N us B) (ho : Only w w' S) (hn : ∀ b, B b → ¬ S b) : Users w' base U N us B := by
  obtain ⟨cur, vs, h1, h2, h3, h4, h5, h6⟩ := h.ex
  exact ⟨h.inB, fun b hb => ⟨(h.fit b hb).1, Nat.lt_of_lt_of_le (h.fit b hb).2 ho.size⟩, cur, vs, (ho.block U (h.fit U h.inB).2 (hn U h.inB)).trans h1, h2, h3,
    fun k hk => (h4 k hk).only ho (fun b hb => hn b (h5 k hk b hb).1), h5, h6⟩
theorem Users.congr {w : World} {base U N : Nat} {us us' : Nat → List Nat} {B : Nat → Prop} (h : Users w base U N us B) (e : ∀ k, k < N → us k = us' k) : Users w base U N us' B := by
  obtain ⟨cur, vs, h1, h2, h3, h4, h5, h6⟩ := h.ex
  exact ⟨h.inB, h.fit, cur, vs, h1, h2, h3, fun k hk => by rw [← e k hk]; exact h4 k hk, h5, h6⟩
/-- One of the rows. -/
theorem Users.at_ {w : World} {base U N : Nat} {us : Nat → List Nat} {B : Nat → Prop} (h : Users w base U N us B) {k : Nat} (hk : k < N) :
    ∃ v, w.cell? ⟨U, k, none⟩ = some v ∧ w.frozen? ⟨U, k, none⟩ = false ∧ U < w.heap.size ∧ OwnL w base v (us k) ∧ (∀ b, v.ownBlock = some b → B b ∧ b ≠ U) := by
  obtain ⟨cur, vs, h1, h2, h3, h4, h5, h6⟩ := h.ex
  refine ⟨vs k, ?_, ?_, (h.fit U h.inB).2, h4 k hk, h5 k hk⟩
  · unfold World.cell?
    simp only [h1]
    exact h3 k hk
  · unfold World.frozen?
    simp only [h1]
    simp
/-- A row, longer by one, and its header stored. -/
theorem Users.push {w w' : World} {base U N : Nat} {us : Nat → List Nat} {B : Nat → Prop} (h : Users w base U N us B) {k : Nat} (hk : k < N) {v v' : Value} (hv : w.cell? ⟨U, k, none⟩ = some v) {x : Nat}
    (hown : OwnL w' base v' (us k ++ [x])) (ho : Only w w' fun b => v.ownBlock = some b) (hat : v'.ownBlock = v.ownBlock ∨ ∃ b, v'.ownBlock = some b ∧ w.heap.size ≤ b ∧ b < w'.heap.size) (hbw : base ≤ w.heap.size) :
    Users (w'.setCell ⟨U, k, none⟩ v') base U N (fun i => if i = k then us k ++ [x] else us i) (fun b => B b ∨ (w.heap.size ≤ b ∧ b < w'.heap.size)) ∧ Only w (w'.setCell ⟨U, k, none⟩ v') B := by
  obtain ⟨cur, vs, h1, h2, h3, h4, h5, h6⟩ := h.ex
  have hvk : vs k = v := by
    have : w.cell? ⟨U, k, none⟩ = some (vs k) := by
      unfold World.cell?
      simp only [h1]
      exact h3 k hk
    rw [hv] at this
    injection this with this
    exact this.symm
  have hU := (h.fit U h.inB).2
  have hoB : Only w w' B := ho.mono (fun b hb => (h5 k hk b (by rw [hvk]; exact hb)).1)
  have hO2 : Only w (w'.setCell ⟨U, k, none⟩ v') B := hoB.setCell (.inl h.inB) v'
  have hU1 : w'.heap[U]? = some (.cells cur 26 (0, 0)) := (ho.block U hU (fun hb => (h5 k hk U (by rw [hvk]; exact hb)).2 rfl)).trans h1
  have hv'U : ∀ b, v'.ownBlock = some b → (B b ∨ (w.heap.size ≤ b ∧ b < w'.heap.size)) ∧ b ≠ U := by
    intro b hb
    rcases hat with hat | ⟨c, hc, hc2⟩
    · rw [hat, ← hvk] at hb
      exact ⟨.inl (h5 k hk b hb).1, (h5 k hk b hb).2⟩
    · rw [hc] at hb
      injection hb with hb
      subst hb
      exact ⟨.inr hc2, by omega⟩
  have hset : ∀ {v2 : Value} {l : List Nat}, OwnL w' base v2 l → (∀ b, v2.ownBlock = some b → b ≠ U) → OwnL (w'.setCell ⟨U, k, none⟩ v') base v2 l := fun hl hne =>
    hl.only ((Only.refl w' (fun b => b = U)).setCell (.inl rfl) v') (fun b hb e => hne b hb e)
  refine ⟨⟨.inl h.inB, fun b hb => ?_, cur.setIfInBounds k v', fun i => if i = k then v' else vs i, ?_, by simpa using h2, fun i hi => ?_, fun i hi => ?_, fun i hi b hb => ?_, fun i j hi hj hij b hb => ?_⟩, hO2⟩
  · rw [World.size_setCell]
    rcases hb with hb | hb
    · exact ⟨(h.fit b hb).1, Nat.lt_of_lt_of_le (h.fit b hb).2 ho.size⟩
    · exact ⟨by omega, hb.2⟩
  · unfold World.setCell
    simp only [Array.getElem?_modify, if_true]
    simp only [hU1, Option.map_some]
    simp
  · rw [Array.getElem?_setIfInBounds]
    by_cases e : i = k
    · subst e; simp; omega
    · rw [if_neg (fun he => e he.symm), h3 i hi]
      simp only [e, if_false]
  · by_cases e : i = k
    · simp only [e, if_true]
      exact hset hown (fun b hb => (hv'U b hb).2)
    · simp only [e, if_false]
      refine hset ((h4 i hi).only ho (fun b hb hb2 => ?_)) (fun b hb => (h5 i hi b hb).2)
      exact h6 i k hi hk e b hb (by rw [hvk]; exact hb2)
  · by_cases e : i = k
    · simp only [e, if_true] at hb
      exact hv'U b hb
    · simp only [e, if_false] at hb
      exact ⟨.inl (h5 i hi b hb).1, (h5 i hi b hb).2⟩
  · have key : ∀ m, m < N → m ≠ k → ∀ c, (vs m).ownBlock = some c → v'.ownBlock ≠ some c := by
      intro m hm hmk c hc hc2
      rcases hat with hat | ⟨d, hd, hd2⟩
      · rw [hat, ← hvk] at hc2
        exact h6 m k hm hk hmk c hc hc2
      · rw [hd] at hc2
        injection hc2 with hc2
        subst hc2
        have := (h.fit _ (h5 m hm _ hc).1).2
        omega
    by_cases e : i = k
    · have ej : ¬ j = k := fun e2 => hij (e.trans e2.symm)
      simp only [e, if_true] at hb
      simp only [ej, if_false]
      exact fun h2 => key j hj ej b h2 hb
    · simp only [e, if_false] at hb
      by_cases ej : j = k
      · simp only [ej, if_true]
        exact key i hi e b hb
      · simp only [ej, if_false]
        exact h6 i j hi hj hij b hb
end Go.Proofs.Ytbdhjoanjlkggaa
