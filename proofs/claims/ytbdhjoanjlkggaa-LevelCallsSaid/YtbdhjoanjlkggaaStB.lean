/-
  No statement of the seat is proved here. What level.told holds in its second half: the same, and what has been told. No condition.
-/
import Derived.Test.YtbdhjoanjlkggaaSt
namespace Go.Proofs.Ytbdhjoanjlkggaa
open Go Go.RowKit Hp
set_option linter.unusedVariables false
structure StB (w : World) (base W U b g cap N n : Nat) (wt : Nat → Int) (us : Nat → List Nat) (S : Int → Prop) (B : Nat → Prop) (v : Value) (D : List Nat) : Prop where
  st : St w base W U b g cap N n wt us S B
  out : OwnL w base v D
  ap : ∀ c, v.ownBlock = some c → ¬ B c ∧ c ≠ W ∧ c ≠ b ∧ c ≠ g
variable {w : World} {base W U b g cap N n : Nat} {wt : Nat → Int} {us : Nat → List Nat} {S : Int → Prop} {B : Nat → Prop} {v : Value} {D : List Nat}
theorem StB.later {w' : World} (h : StB w base W U b g cap N n wt us S B v D) (hl : Later w w') : StB w' base W U b g cap N n wt us S B v D :=
  ⟨h.st.later hl, h.out.only (Only.of_later hl fun _ => False) (fun _ _ => id), h.ap⟩
theorem StB.congr {wt' : Nat → Int} {T : Int → Prop} (h : StB w base W U b g cap N n wt us S B v D) (e1 : ∀ k, k < N → wt k = wt' k) (e3 : ∀ x, S x ↔ T x) : StB w base W U b g cap N n wt' us T B v D :=
  ⟨h.st.congr e1 (fun _ _ => rfl) e3, h.out, h.ap⟩
theorem StB.cellU (h : StB w base W U b g cap N n wt us S B v D) : B U ∧ U < w.heap.size := ⟨h.st.users.inB, (h.st.users.fit U h.st.users.inB).2⟩
theorem StB.set (h : StB w base W U b g cap N n wt us S B v D) {i : Nat} (hi : i < N) (x : Int) : StB (w.setCell ⟨W, i, none⟩ (.int .i64 x)) base W U b g cap N n (fun k => if k = i then x else wt k) us S B v D ∧ Only w (w.setCell ⟨W, i, none⟩ (.int .i64 x)) (fun k => base ≤ k) ∧ Only w (w.setCell ⟨W, i, none⟩ (.int .i64 x)) fun k => ¬ B k := by
  have ho : Only w (w.setCell ⟨W, i, none⟩ (.int .i64 x)) fun k => k = W := (Only.refl w (fun k => k = W)).setCell (p := ⟨W, i, none⟩) (.inl rfl) _
  obtain ⟨h1, h2⟩ := h.st.set hi x
  exact ⟨⟨h1, h.out.only ho (fun c hc e => (h.ap c hc).2.1 e), h.ap⟩, h2, ho.mono (fun k hk => by rw [hk]; exact h.st.nW)⟩
theorem StB.push {x : Int} {e : Ending} {w' : World} (h : StB w base W U b g cap N n wt us S B v D) (hp : PushPost w base b g n S x e w') :
    ∃ g' cap', StB w' base W U b g' cap' N (n + 1) wt us (fun y => S y ∨ y = x) B v D ∧ Only w w' (fun k => base ≤ k) ∧ Only w w' fun k => ¬ B k := by
  obtain ⟨he, g', cap', hw, ho, hg⟩ := hp
  obtain ⟨_, hb, _, _, hg2⟩ := h.st.heap.parts
  have hWl := h.st.wants.lt
  have hof := h.out.form
  obtain ⟨_, _, _, _, hfit⟩ := hof
  refine ⟨g', cap', ⟨⟨h.st.wants.only ho (fun e => e.elim h.st.Wb h.st.Wg), hw, h.st.users.only ho (fun c hc e => e.elim (fun e => h.st.nb (e ▸ hc)) (fun e => h.st.ng (e ▸ hc))), h.st.nW, h.st.nb, fun hB => ?_, h.st.Wb, fun e => ?_⟩,
    h.out.only ho (fun c hc e => e.elim (h.ap c hc).2.2.1 (h.ap c hc).2.2.2), fun c hc => ⟨(h.ap c hc).1, (h.ap c hc).2.1, (h.ap c hc).2.2.1, fun e => ?_⟩⟩, ho.mono (fun k hk => hk.elim (fun e => by omega) (fun e => by omega)), ho.mono (fun k hk hB => hk.elim (fun e => h.st.nb (e ▸ hB)) (fun e => h.st.ng (e ▸ hB)))⟩
  · rcases hg with hg | hg
    · exact h.st.ng (hg ▸ hB)
    · have := (h.st.users.fit _ hB).2; omega
  · rcases hg with hg | hg
    · exact h.st.Wg (e.trans hg)
    · omega
  · have := (hfit c hc).2
    rcases hg with hg | hg
    · exact (h.ap c hc).2.2.2 (e.trans hg)
    · omega
theorem StB.pop {e : Ending} {w' : World} (h : StB w base W U b g cap N (n + 1) wt us S B v D) (hp : PopPost w base b g n cap S e w') :
    ∃ x, e = .returned (.iface 3 (.int .i64 x)) ∧ S x ∧ (∀ y, S y → x ≤ y) ∧ StB w' base W U b g cap N n wt us (fun y => S y ∧ y ≠ x) B v D ∧ Only w w' fun k => base ≤ k := by
  have hp2 := hp
  obtain ⟨x0, _, _, _, _, ho⟩ := hp2
  obtain ⟨x, he, hx, hm, hs, ho2⟩ := h.st.pop hp
  exact ⟨x, he, hx, hm, ⟨hs, h.out.only ho (fun c hc e => e.elim (h.ap c hc).2.2.1 (h.ap c hc).2.2.2), h.ap⟩, ho2⟩
theorem StB.emit {w' : World} {o : Obj} {v' : Value} {x : Nat} (h : StB w base W U b g cap N n wt us S B v D)
    (hown : w'.ownsRow base 3 1 v' (D.length + 1) ((D.map fun k => Value.int .i64 (k : Nat)) ++ [.int .i64 (x : Nat)])) (hg : (w.alloc o).grownBy w' v.ownBlock) (hat : v'.ownBlock = v.ownBlock ∨ v'.ownBlock = some (w.alloc o).heap.size) :
    StB w' base W U b g cap N n wt us S B v' (D ++ [x]) ∧ Only w w' fun k => base ≤ k := by
  have ho : Only w w' fun c => v.ownBlock = some c := ((Only.refl w _).alloc o).trans (Only.grown hg) (fun _ _ h => h)
  obtain ⟨_, hb, hbl, hgl, hg2⟩ := h.st.heap.parts
  have hWl := h.st.wants.lt
  obtain ⟨_, _, _, _, hfit⟩ := h.out.form
  refine ⟨⟨⟨h.st.wants.only ho (fun e => (h.ap W e).2.1 rfl), h.st.heap.only ho (fun e => (h.ap b e).2.2.1 rfl) (fun e => (h.ap g e).2.2.2 rfl), h.st.users.only ho (fun c hc e => (h.ap c e).1 hc), h.st.nW, h.st.nb, h.st.ng, h.st.Wb, h.st.Wg⟩, OwnL.snoc hown, fun c hc => ?_⟩, ho.mono (fun k hk => (hfit k hk).1)⟩
  rcases hat with hat | hat
  · exact h.ap c (by rw [← hat]; exact hc)
  · rw [hat] at hc
    injection hc with hc
    have hs : (w.alloc o).heap.size = w.heap.size + 1 := by simp
    exact ⟨fun hB => by have := (h.st.users.fit c hB).2; omega, by omega, by omega, by omega⟩
/-- No more wait than there are. -/
theorem WaitAt.few (h : WaitAt w base b g n cap S) (hS : ∀ x, S x → ∃ j, j < N ∧ x = (j : Nat)) : n ≤ N := by
  obtain ⟨f, _, _, hI, hX⟩ := h.ex
  have hp := Lv.pigeon N ((List.range n).map fun k => (f k).toNat) ?_ ?_
  · simpa using hp
  · unfold List.Nodup
    rw [List.pairwise_map]
    refine List.Pairwise.imp_of_mem ?_ List.pairwise_lt_range
    intro a c ha hc hac e
    have ha' := List.mem_range.1 ha
    have hc' := List.mem_range.1 hc
    obtain ⟨j1, _, e1⟩ := hS (f a) ((hX _).2 ⟨a, ha', rfl⟩)
    obtain ⟨j2, _, e2⟩ := hS (f c) ((hX _).2 ⟨c, hc', rfl⟩)
    have := hI a c ha' hc' (by omega)
    omega
  · intro x hx
    obtain ⟨k, hk, rfl⟩ := List.mem_map.1 hx
    obtain ⟨j1, h1, e1⟩ := hS (f k) ((hX _).2 ⟨k, List.mem_range.1 hk, rfl⟩)
    omega
end Go.Proofs.Ytbdhjoanjlkggaa
