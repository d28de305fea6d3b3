/-
  No statement of the seat is proved here. Arrays of 64 numbers as values and in memory, read whole, written whole, compared. No condition.
-/
import Derived.Test.YtmhmnjeimjjipaaMore
import Derived.Handy
import Derived.Deep.MidRow
import Derived.Deep.WholeRow
import Derived.ChangeKeysEq
import Derived.Test.YtmhmnjeimjjipaaProg
namespace Go.Proofs.Ytmhmnjeimjjipaa
open Go Go.RowKit

/-- 64 numbers as an array's cells. -/
def arr (f : Nat → Int) : Array Value := ((List.range 64).map fun i => Value.int .u64 (f i)).toArray
theorem arr_size (f : Nat → Int) : (arr f).size = 64 := by simp [arr]
theorem arr_get (f : Nat → Int) (i : Nat) (h : i < 64) : (arr f)[i]? = some (.int .u64 (f i)) := by
  simp [arr, List.getElem?_range h]
theorem arr_getElem (f : Nat → Int) (i : Nat) (h : i < (arr f).size) : (arr f)[i] = .int .u64 (f i) := by simp [arr]
theorem arr_congr {f h : Nat → Int} (e : ∀ i, i < 64 → f i = h i) : arr f = arr h := by
  unfold arr
  rw [List.map_congr_left (fun i hi => by rw [e i (List.mem_range.1 hi)])]
theorem arr_ext {C : Array Value} {f : Nat → Int} (hs : C.size = 64) (hc : ∀ i, i < 64 → C[i]? = some (.int .u64 (f i))) : C = arr f := by
  apply Array.ext_getElem?
  intro i
  by_cases h : i < 64
  · rw [hc i h, arr_get f i h]
  · rw [Array.getElem?_eq_none (by omega), Array.getElem?_eq_none (by rw [arr_size]; omega)]
theorem arr_set (f : Nat → Int) (i : Nat) (x : Int) (_h : i < 64) : (arr f).setIfInBounds i (.int .u64 x) = arr (fun k => if k = i then x else f k) := by
  refine arr_ext (by simp [arr_size]) fun k hk => ?_
  rw [Array.getElem?_setIfInBounds]
  by_cases e : i = k
  · subst e; simp [arr_size, hk]
  · rw [if_neg e, arr_get f k hk, if_neg (fun h => e h.symm)]
theorem arr_one (f : Nat → Int) : (arr f).all (·.oneCell') = true := by
  rw [Array.all_eq_true_iff_forall_mem]
  intro v hv
  obtain ⟨i, hi, rfl⟩ := Array.mem_iff_getElem.1 hv
  have := arr_get f i (by rw [arr_size] at hi; exact hi)
  rw [Array.getElem?_eq_getElem hi] at this
  injection this with this
  rw [this]
  rfl
theorem arr_of_list {zs : List Int} (h : zs.length = 64) : (zs.map (Value.int .u64)).toArray = arr (fun i => zs.getD i 0) :=
  arr_ext (by simp [h]) fun i hi => by
    have hi' : i < zs.length := by omega
    simp [List.getElem?_eq_getElem hi', List.getD_eq_getElem?_getD]
theorem zeros_eq : (#[.int .u64 0, .int .u64 0, .int .u64 0, .int .u64 0, .int .u64 0, .int .u64 0, .int .u64 0, .int .u64 0, .int .u64 0, .int .u64 0, .int .u64 0, .int .u64 0, .int .u64 0, .int .u64 0, .int .u64 0, .int .u64 0, .int .u64 0, .int .u64 0, .int .u64 0, .int .u64 0, .int .u64 0, .int .u64 0, .int .u64 0, .int .u64 0, .int .u64 0, .int .u64 0, .int .u64 0, .int .u64 0, .int .u64 0, .int .u64 0, .int .u64 0, .int .u64 0, .int .u64 0, .int .u64 0, .int .u64 0, .int .u64 0, .int .u64 0, .int .u64 0, .int .u64 0, .int .u64 0, .int .u64 0, .int .u64 0, .int .u64 0, .int .u64 0, .int .u64 0, .int .u64 0, .int .u64 0, .int .u64 0, .int .u64 0, .int .u64 0, .int .u64 0, .int .u64 0, .int .u64 0, .int .u64 0, .int .u64 0, .int .u64 0, .int .u64 0, .int .u64 0, .int .u64 0, .int .u64 0, .int .u64 0, .int .u64 0, .int .u64 0, .int .u64 0] : Array Value) = arr (fun _ => 0) := by rfl

/-- Are two rows of 64 numbers the same? -/
def arrEq (f h : Nat → Int) : Bool := decide (∀ i ∈ List.range 64, f i = h i)
theorem arrEq_self (f : Nat → Int) : arrEq f f = true := by simp [arrEq]
theorem arrEq_of {f h : Nat → Int} (e : ∀ i, i < 64 → f i = h i) : arrEq f h = true := by simp only [arrEq, decide_eq_true_eq]; exact fun i hi => e i (List.mem_range.1 hi)
theorem run_part22 (w : World) (f : Nat → Int) (i : Nat) (h : i < 64) : (part 22 (arr f) i).run Try.prog w = .ok (.int .u64 (f i)) w := by
  have hagg : (isAgg 22).run Try.prog w = .ok false w := by
    unfold isAgg
    rw [Sem.run_bind, run_underlying Try.underlying22 w]
    rfl
  simp [part, Sem.run_bind, hagg, arr_get f i h]
theorem cells22 : Try.prog.cellsOf 22 = 1 := by kernel_rfl
theorem run_items (w : World) (d : Nat) (f h : Nat → Int) : ∀ (is : List Nat), (∀ i ∈ is, i < 64) → (Op.eqItems (d + 1) 22 1 (arr f) (arr h) is).run Try.prog w = .ok (decide (∀ i ∈ is, f i = h i)) w
  | [], _ => by simp [Op.eqItems]
  | i :: is, hi => by
    have hlt : i < 64 := hi i (by simp)
    simp only [Op.eqItems, Nat.mul_one, Sem.run_bind, run_part22 w f i hlt, run_part22 w h i hlt, Result.andThen_ok, run_equalIn_int w d 22 .u64 .u64 (f i) (h i) Try.underlying22]
    by_cases e : f i = h i
    · have := run_items w d f h is (fun j hj => hi j (by simp [hj]))
      simp [e, this]
    · simp [e]
theorem info22 : ∃ i, Try.prog.info? 22 = some i := by
  cases h : Try.prog.info? 22 with
  | none => exact absurd h (by have h2 : (Try.prog.info? 22).isSome = true := by kernel_rfl
                               intro h3; rw [h3] at h2; cases h2)
  | some i => exact ⟨i, rfl⟩
theorem run_equalIn_arr (w : World) (f h : Nat → Int) : (Op.equalIn 10000 23 (.agg (arr f)) (.agg (arr h))).run Try.prog w = .ok (arrEq f h) w := by
  obtain ⟨i, hi⟩ := info22
  rw [run_equalIn_array w 9999 (arr f) (arr h) Try.underlying23 hi, cells22, run_items w 9998 f h (List.range 64) (fun j hj => List.mem_range.1 hj)]
  rfl

theorem size23 : (Try.prog.info? 23).map (·.size) = some 64 := by kernel_rfl
theorem row23 : Try.prog.underlying 23 = some (.array 64 22) := Try.underlying23

/-! ### Whole arrays in and out of a block -/
def ptrBlock : Value → Nat
  | .pointer (some ⟨b, 0, none⟩) => b
  | _ => 0
def isHead : Value → Bool
  | .pointer (some ⟨_, 0, none⟩) => true
  | _ => false
def isSq : Value → Bool
  | .agg C => C.size == 64 && C.all (·.oneCell')
  | _ => false
def sqOf : Value → Array Value
  | .agg C => C
  | _ => #[]
/-- The cells of a block that may be written. -/
def blockCells (w : World) (b : Nat) : Array Value :=
  match w.heap[b]? with
  | some (.cells C _ (0, 0)) => C
  | _ => #[]
theorem isHead_ptr (b : Nat) : isHead (.pointer (some ⟨b, 0, none⟩)) = true := rfl
theorem ptrBlock_ptr (b : Nat) : ptrBlock (.pointer (some ⟨b, 0, none⟩)) = b := rfl
theorem isSq_arr (f : Nat → Int) : isSq (.agg (arr f)) = true := by
  show ((arr f).size == 64 && (arr f).all (·.oneCell')) = true
  rw [arr_one, arr_size]; rfl
theorem sqOf_arr (f : Nat → Int) : sqOf (.agg (arr f)) = arr f := rfl
theorem heap_of_cells {w : World} {b : Nat} (h : (blockCells w b).size = 64) : ∃ t, w.heap[b]? = some (.cells (blockCells w b) t (0, 0)) := by
  unfold blockCells at h ⊢
  split
  · rename_i C t hb; exact ⟨t, hb⟩
  · rename_i hn; split at h
    · rename_i C t hb; exact absurd hb (hn _ _)
    · simp at h
theorem blockCells_at (w : World) (c : Array Value) (t : TypeId) (n : Nat) (hn : n = w.heap.size) : blockCells (w.alloc (.cells c t)) n = c := by
  subst hn
  unfold blockCells
  rw [heap_alloc_last]
  rfl
theorem blockCells_past (w : World) (o : Obj) (n : Nat) (hn : n < w.heap.size) : blockCells (w.alloc o) n = blockCells w n := by
  unfold blockCells
  rw [Below.heap_alloc w o n hn]
theorem blockCells_more (w : World) (g : Grow) (n : Nat) (hn : n < w.heap.size) : blockCells (more w g) n = blockCells w n := by
  unfold blockCells
  rw [more_heap_lt w g n hn]
theorem bc_1_0_0 (w : World) (c : Array Value) (t : TypeId) : blockCells (w.alloc (.cells c t)) w.heap.size = c := by
  exact blockCells_at _ _ _ _ (by simp)
theorem bc_1_0_1 (w : World) (c : Array Value) (t : TypeId) (g : Grow) : blockCells (more (w.alloc (.cells c t)) g) w.heap.size = c := by
  rw [blockCells_more _ _ _ (by first | (simp; done) | (simp; omega))]
  exact blockCells_at _ _ _ _ (by simp)
theorem bc_2_0_0 (w : World) (c : Array Value) (t : TypeId) (o1 : Obj) : blockCells ((w.alloc (.cells c t)).alloc o1) w.heap.size = c := by
  rw [blockCells_past _ _ _ (by first | (simp; done) | (simp; omega))]
  exact blockCells_at _ _ _ _ (by simp)
theorem bc_2_0_1 (w : World) (c : Array Value) (t : TypeId) (o1 : Obj) (g : Grow) : blockCells (more ((w.alloc (.cells c t)).alloc o1) g) w.heap.size = c := by
  rw [blockCells_more _ _ _ (by first | (simp; done) | (simp; omega))]
  rw [blockCells_past _ _ _ (by first | (simp; done) | (simp; omega))]
  exact blockCells_at _ _ _ _ (by simp)
theorem bc_2_1_0 (w : World) (c : Array Value) (t : TypeId) (o0 : Obj) : blockCells ((w.alloc o0).alloc (.cells c t)) (w.heap.size + 1) = c := by
  exact blockCells_at _ _ _ _ (by simp)
theorem bc_2_1_1 (w : World) (c : Array Value) (t : TypeId) (o0 : Obj) (g : Grow) : blockCells (more ((w.alloc o0).alloc (.cells c t)) g) (w.heap.size + 1) = c := by
  rw [blockCells_more _ _ _ (by first | (simp; done) | (simp; omega))]
  exact blockCells_at _ _ _ _ (by simp)
theorem bc_3_0_0 (w : World) (c : Array Value) (t : TypeId) (o1 : Obj) (o2 : Obj) : blockCells (((w.alloc (.cells c t)).alloc o1).alloc o2) w.heap.size = c := by
  rw [blockCells_past _ _ _ (by first | (simp; done) | (simp; omega))]
  rw [blockCells_past _ _ _ (by first | (simp; done) | (simp; omega))]
  exact blockCells_at _ _ _ _ (by simp)
theorem bc_3_0_1 (w : World) (c : Array Value) (t : TypeId) (o1 : Obj) (o2 : Obj) (g : Grow) : blockCells (more (((w.alloc (.cells c t)).alloc o1).alloc o2) g) w.heap.size = c := by
  rw [blockCells_more _ _ _ (by first | (simp; done) | (simp; omega))]
  rw [blockCells_past _ _ _ (by first | (simp; done) | (simp; omega))]
  rw [blockCells_past _ _ _ (by first | (simp; done) | (simp; omega))]
  exact blockCells_at _ _ _ _ (by simp)
theorem bc_3_1_0 (w : World) (c : Array Value) (t : TypeId) (o0 : Obj) (o2 : Obj) : blockCells (((w.alloc o0).alloc (.cells c t)).alloc o2) (w.heap.size + 1) = c := by
  rw [blockCells_past _ _ _ (by first | (simp; done) | (simp; omega))]
  exact blockCells_at _ _ _ _ (by simp)
theorem bc_3_1_1 (w : World) (c : Array Value) (t : TypeId) (o0 : Obj) (o2 : Obj) (g : Grow) : blockCells (more (((w.alloc o0).alloc (.cells c t)).alloc o2) g) (w.heap.size + 1) = c := by
  rw [blockCells_more _ _ _ (by first | (simp; done) | (simp; omega))]
  rw [blockCells_past _ _ _ (by first | (simp; done) | (simp; omega))]
  exact blockCells_at _ _ _ _ (by simp)
theorem bc_3_2_0 (w : World) (c : Array Value) (t : TypeId) (o0 : Obj) (o1 : Obj) : blockCells (((w.alloc o0).alloc o1).alloc (.cells c t)) (w.heap.size + 1 + 1) = c := by
  exact blockCells_at _ _ _ _ (by simp)
theorem bc_3_2_1 (w : World) (c : Array Value) (t : TypeId) (o0 : Obj) (o1 : Obj) (g : Grow) : blockCells (more (((w.alloc o0).alloc o1).alloc (.cells c t)) g) (w.heap.size + 1 + 1) = c := by
  rw [blockCells_more _ _ _ (by first | (simp; done) | (simp; omega))]
  exact blockCells_at _ _ _ _ (by simp)
theorem bc_4_0_0 (w : World) (c : Array Value) (t : TypeId) (o1 : Obj) (o2 : Obj) (o3 : Obj) : blockCells ((((w.alloc (.cells c t)).alloc o1).alloc o2).alloc o3) w.heap.size = c := by
  rw [blockCells_past _ _ _ (by first | (simp; done) | (simp; omega))]
  rw [blockCells_past _ _ _ (by first | (simp; done) | (simp; omega))]
  rw [blockCells_past _ _ _ (by first | (simp; done) | (simp; omega))]
  exact blockCells_at _ _ _ _ (by simp)
theorem bc_4_0_1 (w : World) (c : Array Value) (t : TypeId) (o1 : Obj) (o2 : Obj) (o3 : Obj) (g : Grow) : blockCells (more ((((w.alloc (.cells c t)).alloc o1).alloc o2).alloc o3) g) w.heap.size = c := by
  rw [blockCells_more _ _ _ (by first | (simp; done) | (simp; omega))]
  rw [blockCells_past _ _ _ (by first | (simp; done) | (simp; omega))]
  rw [blockCells_past _ _ _ (by first | (simp; done) | (simp; omega))]
  rw [blockCells_past _ _ _ (by first | (simp; done) | (simp; omega))]
  exact blockCells_at _ _ _ _ (by simp)
theorem bc_4_1_0 (w : World) (c : Array Value) (t : TypeId) (o0 : Obj) (o2 : Obj) (o3 : Obj) : blockCells ((((w.alloc o0).alloc (.cells c t)).alloc o2).alloc o3) (w.heap.size + 1) = c := by
  rw [blockCells_past _ _ _ (by first | (simp; done) | (simp; omega))]
  rw [blockCells_past _ _ _ (by first | (simp; done) | (simp; omega))]
  exact blockCells_at _ _ _ _ (by simp)
theorem bc_4_1_1 (w : World) (c : Array Value) (t : TypeId) (o0 : Obj) (o2 : Obj) (o3 : Obj) (g : Grow) : blockCells (more ((((w.alloc o0).alloc (.cells c t)).alloc o2).alloc o3) g) (w.heap.size + 1) = c := by
  rw [blockCells_more _ _ _ (by first | (simp; done) | (simp; omega))]
  rw [blockCells_past _ _ _ (by first | (simp; done) | (simp; omega))]
  rw [blockCells_past _ _ _ (by first | (simp; done) | (simp; omega))]
  exact blockCells_at _ _ _ _ (by simp)
theorem bc_4_2_0 (w : World) (c : Array Value) (t : TypeId) (o0 : Obj) (o1 : Obj) (o3 : Obj) : blockCells ((((w.alloc o0).alloc o1).alloc (.cells c t)).alloc o3) (w.heap.size + 1 + 1) = c := by
  rw [blockCells_past _ _ _ (by first | (simp; done) | (simp; omega))]
  exact blockCells_at _ _ _ _ (by simp)
theorem bc_4_2_1 (w : World) (c : Array Value) (t : TypeId) (o0 : Obj) (o1 : Obj) (o3 : Obj) (g : Grow) : blockCells (more ((((w.alloc o0).alloc o1).alloc (.cells c t)).alloc o3) g) (w.heap.size + 1 + 1) = c := by
  rw [blockCells_more _ _ _ (by first | (simp; done) | (simp; omega))]
  rw [blockCells_past _ _ _ (by first | (simp; done) | (simp; omega))]
  exact blockCells_at _ _ _ _ (by simp)
theorem bc_4_3_0 (w : World) (c : Array Value) (t : TypeId) (o0 : Obj) (o1 : Obj) (o2 : Obj) : blockCells ((((w.alloc o0).alloc o1).alloc o2).alloc (.cells c t)) (w.heap.size + 1 + 1 + 1) = c := by
  exact blockCells_at _ _ _ _ (by simp)
theorem bc_4_3_1 (w : World) (c : Array Value) (t : TypeId) (o0 : Obj) (o1 : Obj) (o2 : Obj) (g : Grow) : blockCells (more ((((w.alloc o0).alloc o1).alloc o2).alloc (.cells c t)) g) (w.heap.size + 1 + 1 + 1) = c := by
  rw [blockCells_more _ _ _ (by first | (simp; done) | (simp; omega))]
  exact blockCells_at _ _ _ _ (by simp)
theorem setRow_at (w : World) (c c' : Array Value) (t : TypeId) (n : Nat) (hn : n = w.heap.size) : (w.alloc (.cells c t)).setRow n c' = w.alloc (.cells c' t) := by
  subst hn
  exact World.setRow_alloc_new w c c' t
theorem setRow_past (w : World) (o : Obj) (c' : Array Value) (n : Nat) (hn : n < w.heap.size) : (w.alloc o).setRow n c' = (w.setRow n c').alloc o := by
  unfold World.setRow World.alloc
  congr 1
  apply Array.ext_getElem?
  intro k
  simp only [Array.getElem?_modify, Array.getElem?_push, Array.size_modify]
  by_cases hk : k = w.heap.size
  · subst hk
    simp [Nat.ne_of_lt hn]
  · simp [hk]
theorem setRow_more (w : World) (g : Grow) (c' : Array Value) (n : Nat) (hn : n < w.heap.size) : (more w g).setRow n c' = more (w.setRow n c') g := by
  unfold World.setRow more
  congr 1
  apply Array.ext_getElem?
  intro k
  by_cases hk : k < w.heap.size
  · rw [Array.getElem?_append_left (by simpa using hk)]
    simp only [Array.getElem?_modify]
    rw [Array.getElem?_append_left hk]
  · rw [Array.getElem?_append_right (by first | (simp; done) | (simp; omega))]
    simp only [Array.getElem?_modify, Array.size_modify]
    rw [if_neg (by omega), Array.getElem?_append_right (by omega)]

theorem run_load23 (r : Operand → Value) (d : Option Tmp) (x : Operand) (ty : TypeId) (pos : String) (af : Array Edge) (gd : Option (Nat × Bool)) (w : World)
    (h1 : isHead (r x) = true) (h2 : (blockCells w (ptrBlock (r x))).size = 64) :
    (execOp r ⟨d, .load 23 x, ty, pos, af, gd⟩).run Try.prog w = .ok (.value (.agg (blockCells w (ptrBlock (r x))))) w := by
  obtain ⟨b, hb⟩ : ∃ b, r x = .pointer (some ⟨b, 0, none⟩) := by
    unfold isHead at h1
    split at h1
    · exact ⟨_, by assumption⟩
    · cases h1
  rw [hb, ptrBlock_ptr] at h2 ⊢
  obtain ⟨t, ht⟩ := heap_of_cells h2
  unfold execOp
  simp only [hb, Instr.loadAt, Instr.sureAddr, Sem.run_bind, Sem.run_pure, Result.andThen_ok, run_loadVar_row w b t 23 _ (0, 0) _ ht row23 rfl (by rw [size23, h2])]
theorem run_store23 (r : Operand → Value) (d : Option Tmp) (x y : Operand) (ty : TypeId) (pos : String) (af : Array Edge) (gd : Option (Nat × Bool)) (w : World)
    (h1 : isHead (r x) = true) (h2 : (blockCells w (ptrBlock (r x))).size = 64) (h3 : isSq (r y) = true) :
    (execOp r ⟨d, .store 23 x y, ty, pos, af, gd⟩).run Try.prog w = .ok .skip (w.setRow (ptrBlock (r x)) (sqOf (r y))) := by
  obtain ⟨b, hb⟩ : ∃ b, r x = .pointer (some ⟨b, 0, none⟩) := by
    unfold isHead at h1
    split at h1
    · exact ⟨_, by assumption⟩
    · cases h1
  obtain ⟨C, hC, hs, ho⟩ : ∃ C, r y = .agg C ∧ C.size = 64 ∧ C.all (·.oneCell') = true := by
    unfold isSq at h3
    split at h3
    · rename_i C hC
      simp only [Bool.and_eq_true, beq_iff_eq] at h3
      exact ⟨C, hC, h3.1, h3.2⟩
    · cases h3
  rw [hb, ptrBlock_ptr] at h2 ⊢
  obtain ⟨t, ht⟩ := heap_of_cells h2
  unfold execOp
  simp only [hb, hC, sqOf, Instr.storeAt, Instr.sureAddr, Sem.run_bind, Sem.run_pure, Result.andThen_ok, run_storeVar_row w b t 23 _ C ht (by rw [size23, hs]) (by rw [h2, hs]) ho]

/-- The operations. -/
theorem wp_load23 (d : Option Tmp) (x : Operand) (ty : TypeId) (pos : String) (af : Array Edge) (gd : Option (Nat × Bool)) (a : Act) (w : World) (K : Act → World → Prop) (Q : Exit → Act → World → Prop)
    (h1 : isHead (a.eval x) = true) (h2 : (blockCells w (ptrBlock (a.eval x))).size = 64) :
    Oper.wp Try.prog ⟨d, .load 23 x, ty, pos, af, gd⟩ a w K Q = K (a.put d (.agg (blockCells w (ptrBlock (a.eval x))))) w := by
  unfold Oper.wp
  rw [run_load23 a.eval d x ty pos af gd w h1 h2]
  rfl
theorem wp_store23 (d : Option Tmp) (x y : Operand) (ty : TypeId) (pos : String) (af : Array Edge) (gd : Option (Nat × Bool)) (a : Act) (w : World) (K : Act → World → Prop) (Q : Exit → Act → World → Prop)
    (h1 : isHead (a.eval x) = true) (h2 : (blockCells w (ptrBlock (a.eval x))).size = 64) (h3 : isSq (a.eval y) = true) :
    Oper.wp Try.prog ⟨d, .store 23 x y, ty, pos, af, gd⟩ a w K Q = K (a.put d undef) (w.setRow (ptrBlock (a.eval x)) (sqOf (a.eval y))) := by
  unfold Oper.wp
  rw [run_store23 a.eval d x y ty pos af gd w h1 h2 h3]
  rfl
/-- In a region that draws: the load of a whole array out of a block of w. -/
theorem quiet_load23 (d : Option Tmp) (x : Operand) (ty : TypeId) (pos : String) (af : Array Edge) (gd : Option (Nat × Bool)) (a : Act) (w : World) (K : Act → Prop)
    (h1 : isHead (a.eval x) = true) (hb : ptrBlock (a.eval x) < w.heap.size) (h2 : (blockCells w (ptrBlock (a.eval x))).size = 64) :
    Oper.quiet Try.prog ⟨d, .load 23 x, ty, pos, af, gd⟩ a (fun w' => ∃ g, w' = more w g) K = K (a.put d (.agg (blockCells w (ptrBlock (a.eval x))))) := by
  have key : ∀ g, (execOp a.eval ⟨d, .load 23 x, ty, pos, af, gd⟩).run Try.prog (more w g) = .ok (.value (.agg (blockCells w (ptrBlock (a.eval x))))) (more w g) := fun g => by
    rw [run_load23 a.eval d x ty pos af gd (more w g) h1 (by rw [blockCells_more w g _ hb]; exact h2), blockCells_more w g _ hb]
  apply propext
  constructor
  · rintro ⟨v, hv, hk⟩
    have h := hv (more w ⟨#[], 0⟩) ⟨_, rfl⟩
    unfold Oper.quietAt at h
    rw [key] at h
    obtain ⟨_, rfl⟩ := h
    exact hk
  · intro hk
    refine ⟨_, ?_, hk⟩
    rintro _ ⟨g, rfl⟩
    unfold Oper.quietAt
    rw [key]
    exact ⟨rfl, rfl⟩

attribute [go_sem] arr_get arr_getElem arr_set zeros_eq arrEq_self run_equalIn_arr arr_size isHead_ptr ptrBlock_ptr isSq_arr sqOf_arr blockCells_at blockCells_past blockCells_more bc_1_0_0 bc_1_0_1 bc_2_0_0 bc_2_0_1 bc_2_1_0 bc_2_1_1 bc_3_0_0 bc_3_0_1 bc_3_1_0 bc_3_1_1 bc_3_2_0 bc_3_2_1 bc_4_0_0 bc_4_0_1 bc_4_1_0 bc_4_1_1 bc_4_2_0 bc_4_2_1 bc_4_3_0 bc_4_3_1 setRow_at setRow_past setRow_more
attribute [go_sem ↓] wp_load23 wp_store23 quiet_load23
attribute [irreducible] arr
end Go.Proofs.Ytmhmnjeimjjipaa
