/-
  No statement of the seat is proved here. What level.told holds on its way: wants, users, and the heap of what can come. No condition.
-/
import Derived.Test.YtbdhjoanjlkggaaMem
import Derived.Test.YtbdhjoanjlkggaaWait
namespace Go.Proofs.Ytbdhjoanjlkggaa
open Go Go.RowKit Hp
set_option linter.unusedVariables false
/-- The three, apart from each other. -/
structure St (w : World) (base W U b g cap N n : Nat) (wt : Nat → Int) (us : Nat → List Nat) (S : Int → Prop) (B : Nat → Prop) : Prop where
  wants : Rw w base W N N wt
  heap : WaitAt w base b g n cap S
  users : Users w base U N us B
  nW : ¬ B W
  nb : ¬ B b
  ng : ¬ B g
  Wb : W ≠ b
  Wg : W ≠ g
variable {w : World} {base W U b g cap N n : Nat} {wt : Nat → Int} {us : Nat → List Nat} {S : Int → Prop} {B : Nat → Prop}
theorem St.later {w' : World} (h : St w base W U b g cap N n wt us S B) (hl : Later w w') : St w' base W U b g cap N n wt us S B :=
  have ho := Only.of_later hl fun _ => False
  ⟨h.wants.only ho id, h.heap.only ho id id, h.users.only ho (fun _ _ => id), h.nW, h.nb, h.ng, h.Wb, h.Wg⟩
theorem WaitAt.parts (h : WaitAt w base b g n cap S) : Box w b 62 (.slice (some ⟨g, 0, none⟩) n cap) ∧ base ≤ b ∧ b < w.heap.size ∧ g < w.heap.size ∧ base ≤ g := by
  obtain ⟨f, h1, _⟩ := h.ex
  exact ⟨h1.box, h1.ge, h1.box.lt, h1.row.lt, h1.row.ge⟩
theorem St.set (h : St w base W U b g cap N n wt us S B) {i : Nat} (hi : i < N) (x : Int) : St (w.setCell ⟨W, i, none⟩ (.int .i64 x)) base W U b g cap N n (fun k => if k = i then x else wt k) us S B ∧ Only w (w.setCell ⟨W, i, none⟩ (.int .i64 x)) fun k => base ≤ k := by
  have ho : Only w (w.setCell ⟨W, i, none⟩ (.int .i64 x)) fun k => k = W := (Only.refl w (fun k => k = W)).setCell (p := ⟨W, i, none⟩) (.inl rfl) _
  exact ⟨⟨h.wants.set hi x, h.heap.only ho (fun e => h.Wb e.symm) (fun e => h.Wg e.symm), h.users.only ho (fun c hc e => h.nW (e ▸ hc)), h.nW, h.nb, h.ng, h.Wb, h.Wg⟩, ho.mono (fun k hk => by rw [hk]; exact h.wants.ge)⟩
theorem St.congr {wt' : Nat → Int} {us' : Nat → List Nat} {T : Int → Prop} (h : St w base W U b g cap N n wt us S B) (e1 : ∀ k, k < N → wt k = wt' k) (e2 : ∀ k, k < N → us k = us' k) (e3 : ∀ x, S x ↔ T x) : St w base W U b g cap N n wt' us' T B :=
  ⟨h.wants.congr e1, h.heap.congr e3, h.users.congr e2, h.nW, h.nb, h.ng, h.Wb, h.Wg⟩
theorem St.push {x : Int} {e : Ending} {w' : World} (h : St w base W U b g cap N n wt us S B) (hp : PushPost w base b g n S x e w') :
    ∃ g' cap', St w' base W U b g' cap' N (n + 1) wt us (fun y => S y ∨ y = x) B ∧ Only w w' fun k => base ≤ k := by
  obtain ⟨_, g', cap', hw, ho, hg⟩ := hp
  obtain ⟨_, hb, _, _, hg2⟩ := h.heap.parts
  have hWl := h.wants.lt
  refine ⟨g', cap', ⟨h.wants.only ho (fun e => e.elim h.Wb h.Wg), hw, h.users.only ho (fun c hc e => e.elim (fun e => h.nb (e ▸ hc)) (fun e => h.ng (e ▸ hc))), h.nW, h.nb, fun hB => ?_, h.Wb, fun e => ?_⟩, ho.mono (fun k hk => hk.elim (fun e => by omega) (fun e => by omega))⟩
  · rcases hg with hg | hg
    · exact h.ng (hg ▸ hB)
    · have := (h.users.fit _ hB).2; omega
  · rcases hg with hg | hg
    · exact h.Wg (e.trans hg)
    · omega
theorem St.pop {e : Ending} {w' : World} (h : St w base W U b g cap N (n + 1) wt us S B) (hp : PopPost w base b g n cap S e w') :
    ∃ x, e = .returned (.iface 3 (.int .i64 x)) ∧ S x ∧ (∀ y, S y → x ≤ y) ∧ St w' base W U b g cap N n wt us (fun y => S y ∧ y ≠ x) B ∧ Only w w' fun k => base ≤ k := by
  obtain ⟨x, he, hx, hm, hw, ho⟩ := hp
  obtain ⟨_, hb, _, _, hg2⟩ := h.heap.parts
  exact ⟨x, he, hx, hm, ⟨h.wants.only ho (fun e => e.elim h.Wb h.Wg), hw, h.users.only ho (fun c hc e => e.elim (fun e => h.nb (e ▸ hc)) (fun e => h.ng (e ▸ hc))), h.nW, h.nb, h.ng, h.Wb, h.Wg⟩, ho.mono (fun k hk => hk.elim (fun e => by omega) (fun e => by omega))⟩
theorem OwnL.snoc {w' : World} {v' : Value} {l : List Nat} {x : Nat} (h : w'.ownsRow base 3 1 v' (l.length + 1) ((l.map fun k => Value.int .i64 (k : Nat)) ++ [.int .i64 (x : Nat)])) : OwnL w' base v' (l ++ [x]) := by
  unfold OwnL
  rw [List.length_append, List.map_append]
  exact h
theorem St.use {w' : World} {o : Obj} {k x : Nat} {v v' : Value} (h : St w base W U b g cap N n wt us S B) (hk : k < N) (hv : w.cell? ⟨U, k, none⟩ = some v)
    (hown : w'.ownsRow base 3 1 v' ((us k).length + 1) (((us k).map fun k => Value.int .i64 (k : Nat)) ++ [.int .i64 (x : Nat)])) (hg : (w.alloc o).grownBy w' v.ownBlock) (hat : v'.ownBlock = v.ownBlock ∨ v'.ownBlock = some (w.alloc o).heap.size) (hb : base ≤ w.heap.size) :
    ∃ B', St (w'.setCell ⟨U, k, none⟩ v') base W U b g cap N n wt (fun i => if i = k then us k ++ [x] else us i) S B' ∧ Only w (w'.setCell ⟨U, k, none⟩ v') fun k => base ≤ k := by
  have ho : Only w w' fun c => v.ownBlock = some c := ((Only.refl w _).alloc o).trans (Only.grown hg) (fun _ _ h => h)
  have hown' := OwnL.snoc hown
  have hat' : v'.ownBlock = v.ownBlock ∨ ∃ c, v'.ownBlock = some c ∧ w.heap.size ≤ c ∧ c < w'.heap.size := by
    rcases hat with hat | hat
    · exact .inl hat
    · refine .inr ⟨_, hat, by simp, (hown.lt _ hat).2⟩
  obtain ⟨hU, hO⟩ := h.users.push hk hv hown' ho hat' hb
  obtain ⟨_, _, hbl, hgl, _⟩ := h.heap.parts
  have hWl := h.wants.lt
  refine ⟨_, ⟨h.wants.only hO h.nW, h.heap.only hO h.nb h.ng, hU, ?_, ?_, ?_, h.Wb, h.Wg⟩, hO.mono (fun c hc => (h.users.fit c hc).1)⟩
  · rintro (e | e)
    · exact h.nW e
    · omega
  · rintro (e | e)
    · exact h.nb e
    · omega
  · rintro (e | e)
    · exact h.ng e
    · omega
theorem made_get (z : Value) (hz : z.cells = #[z]) (n : Nat) : ∀ k, k < n → (madeCells z.cells (n * 1)).toList[k]? = some z := by
  intro k hk
  rw [Nat.mul_one, hz, toList_madeCells_one]
  simp [hk]
/-- At the start. -/
theorem St.init {w w1 w2 : World} {N : Nat} (hown1 : w1.ownsRow w.heap.size 3 1 (.slice (some ⟨w.heap.size, 0, none⟩) N N) N (madeCells (Value.int .i64 0).cells (N * 1)).toList) (hg1 : w.grownBy w1 none)
    (hown2 : w2.ownsRow w.heap.size 26 1 (.slice (some ⟨w1.heap.size, 0, none⟩) N N) N (madeCells (Value.slice none 0 0).cells (N * 1)).toList) (hg2 : w1.grownBy w2 none) :
    St ((w2.alloc (.cells #[] 3)).alloc (.cells #[.slice (some ⟨w2.heap.size, 0, none⟩) 0 0] 62)) w.heap.size w.heap.size w1.heap.size (w2.heap.size + 1) w2.heap.size 0 N 0 (fun _ => 0) (fun _ => []) (fun _ => False) (fun k => k = w1.heap.size) ∧
    Only w ((w2.alloc (.cells #[] 3)).alloc (.cells #[.slice (some ⟨w2.heap.size, 0, none⟩) 0 0] 62)) fun k => w.heap.size ≤ k := by
  have hR1 : Rw w1 w.heap.size w.heap.size N N (fun _ => 0) := Rw.of_owns hown1 (made_get _ rfl N)
  have l12 : Later w1 w2 := Later.of_below ⟨hg2.os, hg2.tape, hg2.output, hg2.size, fun k hk => hg2.block k hk (by simp)⟩
  have l01 : Later w w1 := Later.of_below ⟨hg1.os, hg1.tape, hg1.output, hg1.size, fun k hk => hg1.block k hk (by simp)⟩
  have l23 : Later w2 ((w2.alloc (.cells #[] 3)).alloc (.cells #[.slice (some ⟨w2.heap.size, 0, none⟩) 0 0] 62)) := ((Later.refl w2).alloc _).alloc _
  have h1 := hR1.lt
  have h2 : w1.heap.size < w2.heap.size := (hown2.lt _ rfl).2
  have hU : Users w2 w.heap.size w1.heap.size N (fun _ => []) (fun k => k = w1.heap.size) := by
    obtain ⟨_, hh | ⟨g', cap', cur, hv, hb, hg, hn, hm, hs, ht⟩⟩ := hown2
    · exact absurd hh.1 (by simp)
    · simp only [Value.slice.injEq, Option.some.injEq, Addr.mk.injEq, and_true, true_and] at hv
      obtain ⟨rfl, rfl⟩ := hv
      refine ⟨rfl, fun b hb' => by rw [hb']; exact ⟨by omega, h2⟩, cur, fun _ => .slice none 0 0, hg, by omega, fun k hk => ?_, fun k hk => World.ownsRow_nil _ _ _ _, (fun k hk b hb' => by cases hb'), (fun k k' _ _ _ b hb' => by cases hb')⟩
      have h1 := made_get (.slice none 0 0) rfl N k hk
      rw [← ht, List.getElem?_take, if_pos (by omega), Array.getElem?_toList] at h1
      exact h1
  have hs2 := hg2.size
  have hs1 := hg1.size
  refine ⟨⟨(hR1.later l12).later l23, ⟨⟨fun _ => 0, ⟨by omega, ?_, ⟨by omega, #[], ?_, Nat.le_refl _, by unfold maxLen; omega, rfl, fun k hk => by omega⟩⟩, fun k _ hk => by omega, fun i j hi => by omega, fun x => ⟨False.elim, fun ⟨k, hk, _⟩ => by omega⟩⟩⟩,
    hU.only (Only.of_later l23 fun _ => False) (fun _ _ => id), by omega, by omega, by omega, by omega, by omega⟩, (Only.of_later ((l01.trans l12).trans l23) _)⟩
  · have := Box.new (w2.alloc (.cells #[] 3)) 62 (.slice (some ⟨w2.heap.size, 0, none⟩) 0 0)
    simpa using this
  · rw [Below.heap_alloc _ _ _ (by simp)]
    exact heap_alloc_new _ _
theorem Users.keep {w' : World} {o : Obj} {k : Nat} {v : Value} (h : Users w base U N us B) (hk : k < N) (hv : w.cell? ⟨U, k, none⟩ = some v) (hg : (w.alloc o).grownBy w' v.ownBlock) : w'.cell? ⟨U, k, none⟩ = some v ∧ w'.frozen? ⟨U, k, none⟩ = false := by
  obtain ⟨v2, h1, h2, h3, _, h5⟩ := h.at_ hk
  rw [hv] at h1
  injection h1 with h1
  subst h1
  have hb : w'.heap[U]? = w.heap[U]? := (hg.block U (by simp; omega) (fun e => (h5 U e.symm).2 rfl)).trans (Below.heap_alloc w o U h3)
  exact ⟨(World.cell?_of_block (w := w) (a := ⟨U, k, none⟩) hb).trans hv, (World.frozen?_of_block (w := w) (a := ⟨U, k, none⟩) hb).trans h2⟩
end Go.Proofs.Ytbdhjoanjlkggaa
