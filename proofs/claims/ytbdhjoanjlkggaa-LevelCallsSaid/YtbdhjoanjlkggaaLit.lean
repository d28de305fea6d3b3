/-
  No statement of the seat is proved here. Rows that the law's own text lays, read as lists; the contracts at lists that are known. No condition.
-/
import Derived.Test.YtbdhjoanjlkggaaRnd
namespace Go.Proofs.Ytbdhjoanjlkggaa
open Go Go.RowKit
set_option linter.unusedVariables false
theorem block_lit {w w' : World} {C : Array Value} {t : TypeId} (h : Later (w.alloc (.cells C t)) w') : w'.heap[w.heap.size]? = some (.cells C t (0, 0)) := by
  have e : (w.alloc (.cells C t)).heap[w.heap.size]? = some (.cells C t (0, 0)) := Array.getElem?_push_size
  rw [h.below.block _ (by simp), e]
theorem lit_lt {w w' : World} {o : Obj} (h : Later (w.alloc o) w') : w.heap.size < w'.heap.size := by
  have := h.below.size
  rw [World.size_alloc] at this
  omega
theorem cell_lit {w w' : World} {C : Array Value} {t : TypeId} (h : Later (w.alloc (.cells C t)) w') (i : Nat) : w'.cell? ⟨w.heap.size, i, none⟩ = C[i]? := by
  unfold World.cell?
  simp [block_lit h]
/-- A literal row of ints. -/
theorem ints_lit {w w' : World} {C : Array Value} {b : Nat} {l : List Int} (h : Later (w.alloc (.cells C 3)) w') (hb : b = w.heap.size) (hC : C = (l.map (Value.int .i64)).toArray) : IntsR w' (some ⟨b, 0, none⟩) l := by
  subst hb hC
  intro p hp
  refine ⟨_, 0, rfl, lit_lt h, ?_⟩
  rw [Nat.zero_add, cell_lit h, List.getElem?_toArray, List.getElem?_map, List.getElem?_eq_getElem hp, List.getD_eq_getElem?_getD, List.getElem?_eq_getElem hp]
  rfl
theorem ints_nil (w : World) (A : Option Addr) : IntsR w A [] := fun p hp => absurd hp (by simp)
/-- A literal row of bools. -/
theorem bools_lit {w w' : World} {C : Array Value} {b : Nat} {l : List Bool} (h : Later (w.alloc (.cells C 4)) w') (hb : b = w.heap.size) (hC : C = (l.map Value.bool).toArray) : BoolsR w' (some ⟨b, 0, none⟩) l := by
  subst hb hC
  intro p hp
  refine ⟨_, 0, rfl, lit_lt h, ?_⟩
  rw [Nat.zero_add, cell_lit h, List.getElem?_toArray, List.getElem?_map, List.getElem?_eq_getElem hp, List.getD_eq_getElem?_getD, List.getElem?_eq_getElem hp]
  rfl
/-- Values that read as rows of ints. -/
def RowsAre (w : World) : List Value → List (List Int) → Prop
  | [], [] => True
  | v :: vs, r :: rs => (∃ A c, v = .slice A r.length c ∧ IntsR w A r) ∧ RowsAre w vs rs
  | _, _ => False
theorem RowsAre.at_ {w : World} : ∀ {vs : List Value} {rs : List (List Int)}, RowsAre w vs rs → ∀ i, i < rs.length → ∃ A c, vs[i]? = some (.slice A (rs.getD i []).length c) ∧ IntsR w A (rs.getD i [])
  | [], [], _, i, hi => absurd hi (by simp)
  | [], _ :: _, h, _, _ => h.elim
  | _ :: _, [], h, _, _ => h.elim
  | v :: vs, r :: rs, h, i, hi => by
    obtain ⟨⟨A, c, rfl, hI⟩, h2⟩ := h
    cases i with
    | zero => exact ⟨A, c, rfl, hI⟩
    | succ i =>
      obtain ⟨A', c', h3, h4⟩ := RowsAre.at_ h2 i (by simpa using hi)
      exact ⟨A', c', by simpa using h3, by simpa using h4⟩
/-- A literal row of rows. -/
theorem needs_lit {w w' : World} {C : Array Value} {b : Nat} {ns : List (List Int)} (h : Later (w.alloc (.cells C 26)) w') (hb : b = w.heap.size) (hC : RowsAre w' C.toList ns) : NeedsR w' (some ⟨b, 0, none⟩) ns := by
  subst hb
  intro i hi
  obtain ⟨A, c, h1, h2⟩ := hC.at_ i hi
  refine ⟨_, 0, A, c, rfl, lit_lt h, ?_, h2⟩
  rw [Nat.zero_add, cell_lit h, ← Array.getElem?_toList, h1]
/-- Short rows. -/
theorem short {ns : List (List Int)} (h : ns.all (fun r => decide (r.length ≤ 1000)) = true) (i : Nat) : (ns.getD i []).length ≤ 1000 := by
  rw [List.getD_eq_getElem?_getD]
  by_cases hi : i < ns.length
  · rw [List.getElem?_eq_getElem hi]
    have := List.all_eq_true.1 h _ (List.getElem_mem hi)
    simpa using this
  · rw [List.getElem?_eq_none (by omega)]
    simp
theorem order_is {ns : List (List Int)} {l : List Nat} {e : Int} (h : Lv.orderL ns = l ∧ Lv.orderE ns = e) {A : Option Addr} {n c : Nat} {w : World} (hl : n = ns.length) (hn : ns.length ≤ 1000) (hr : ns.all (fun r => decide (r.length ≤ 1000)) = true) (hN : NeedsR w A ns) :
    Calls Try.prog 14 #[.slice A n c] w (RetLE w l e) := by
  subst hl
  rw [← h.1, ← h.2]
  exact order_any ns A c w hN hn (short hr)
theorem depth_is {ns : List (List Int)} {l : List Nat} {e : Int} (h : Lv.depthL ns = l ∧ Lv.orderE ns = e) {A : Option Addr} {n c : Nat} {w : World} (hl : n = ns.length) (hn : ns.length ≤ 1000) (hr : ns.all (fun r => decide (r.length ≤ 1000)) = true) (hN : NeedsR w A ns) :
    Calls Try.prog 16 #[.slice A n c] w (RetLE w l e) := by
  subst hl
  rw [← h.1, ← h.2]
  exact depth_any ns A c w hN hn (short hr)
theorem round_is {ns : List (List Int)} {l : List Nat} {b : Bool} (h : Lv.roundL ns = l ∧ Lv.roundB ns = b) {A : Option Addr} {n c : Nat} {w : World} (hl : n = ns.length) (hn : ns.length ≤ 1000) (hr : ns.all (fun r => decide (r.length ≤ 1000)) = true) (hN : NeedsR w A ns) :
    Calls Try.prog 18 #[.slice A n c] w (RetLB w l b) := by
  subst hl
  rw [← h.1, ← h.2]
  exact round_any ns A c w hN hn (short hr)
theorem equal21_is {l l' : List Int} {v : Bool} (h : decide (l = l') = v) {A B : Option Addr} {c d n m : Nat} {w : World} (h1 : n = l.length) (h2 : m = l'.length) (hn : n ≤ 1000) (hm : m ≤ 1000) (hA : IntsR w A l) (hB : IntsR w B l') :
    Calls Try.prog 21 #[.slice A n c, .slice B m d] w (Ret w (.bool v)) := by
  subst h1 h2 h
  exact equal21 l l' A B c d w hA hB (by omega) (by omega)
theorem layers_is {l : List Int} {rs : List (List Int)} (h : Lv.layersL l = rs) {A : Option Addr} {c n : Nat} {w : World} (h1 : n = l.length) (hn : n ≤ 1000) (hb : l.all (fun x => decide (-1000 ≤ x) && decide (x ≤ 1000)) = true) (hI : IntsR w A l) :
    Calls Try.prog 24 #[.slice A n c] w (RetN w rs) := by
  subst h1
  rw [← h]
  refine layers24 l A c w hI hn (fun i hi => ?_)
  have := List.all_eq_true.1 hb _ (List.getElem_mem hi)
  rw [List.getD_eq_getElem?_getD, List.getElem?_eq_getElem hi]
  simpa using this
theorem wk1 : Lv.orderL [[2], [], [1]] = [1, 2, 0] ∧ Lv.orderE [[2], [], [1]] = 0 := by decide +kernel
theorem wk2 : Lv.depthL [[2], [], [1]] = [2, 0, 1] ∧ Lv.orderE [[2], [], [1]] = 0 := by decide +kernel
theorem wk3 : Lv.orderL [[1], [2, 0], []] = [] ∧ Lv.orderE [[1], [2, 0], []] = 35 := by decide +kernel
theorem wk4 : Lv.roundL [[1], [2, 0], []] = [0, 1] ∧ Lv.roundB [[1], [2, 0], []] = true := by decide +kernel
theorem wk5 : Lv.roundL [[0]] = [0] ∧ Lv.roundB [[0]] = true := by decide +kernel
theorem wk6 : Lv.layersL [2, 0, 1] = [[1], [2], [0]] := by decide +kernel
end Go.Proofs.Ytbdhjoanjlkggaa
