/-
  No statement of the seat is proved here. Rows of numbers of a call's own, slices.Clone and slices.Equal, for every row.
-/
import Derived.Test.YtmhmnjeimjjipaaFits
import Derived.Shelf.SlicesE.Clone
import Derived.OwnWalk
import Derived.Laws.CopyOwn
namespace Go.Proofs.Ytmhmnjeimjjipaa
open Go Go.RowKit Go.Shelf
set_option linter.unusedVariables false

/-- A row of numbers at the head of a block, that may be written. -/
def Own (w : World) (b n : Nat) (f : Nat → Int) : Prop :=
  b < w.heap.size ∧ ∀ k, k < n → w.cell? ⟨b, k, none⟩ = some (.int .u64 (f k)) ∧ w.frozen? ⟨b, k, none⟩ = false
theorem Own.later {w w' : World} {b n : Nat} {f : Nat → Int} (h : Own w b n f) (hl : Later w w') : Own w' b n f := by
  obtain ⟨g, rfl⟩ := hl
  exact ⟨by rw [more_size]; have := h.1; omega, fun k hk => ⟨by rw [more_cell _ _ _ _ h.1]; exact (h.2 k hk).1, by rw [more_frozen _ _ _ _ h.1]; exact (h.2 k hk).2⟩⟩
theorem Own.set {w : World} {b n : Nat} {f : Nat → Int} (h : Own w b n f) {i : Nat} (hi : i < n) (x : Int) : Own (w.setCell ⟨b, i, none⟩ (.int .u64 x)) b n (fun k => if k = i then x else f k) := by
  refine ⟨by rw [World.size_setCell]; exact h.1, fun k hk => ⟨?_, by rw [World.frozen?_setCell]; exact (h.2 k hk).2⟩⟩
  by_cases e : k = i
  · subst e
    rw [World.cell?_setCell_same _ _ _ (h.2 k hk).1]
    simp
  · rw [World.cell?_setCell_other _ _ _ _ (fun he => e (by injection he with h1 h2; exact h2.symm)), (h.2 k hk).1]
    simp [e]
theorem Own.congr {w : World} {b n : Nat} {f h : Nat → Int} (H : Own w b n f) (e : ∀ k, k < n → f k = h k) : Own w b n h :=
  ⟨H.1, fun k hk => by rw [← e k hk]; exact H.2 k hk⟩
theorem Own.nums {w : World} {b n : Nat} {f : Nat → Int} (h : Own w b n f) : Nums w (some ⟨b, 0, none⟩) n f := fun k hk => ⟨b, 0, rfl, h.1, by rw [Nat.zero_add]; exact (h.2 k hk).1⟩
/-- What a row owned is, as the kit says it. -/
theorem Own.of_row {w : World} {base n : Nat} {e : TypeId} {v : Value} {f : Nat → Int} {xs : List Value} (h : w.ownsRow base e 1 v n xs) (hx : ∀ k, k < n → xs[k]? = some (.int .u64 (f k))) (hv : v ≠ .slice none 0 0) :
    ∃ b c, v = .slice (some ⟨b, 0, none⟩) n c ∧ base ≤ b ∧ Own w b n f := by
  obtain ⟨hl, h | ⟨g, cap, cur, rfl, hb, hg, hn, hm, hs, ht⟩⟩ := h
  · exact absurd h.1 hv
  · refine ⟨g, cap, rfl, hb, (Array.getElem?_eq_some_iff.1 hg).1, fun k hk => ⟨?_, ?_⟩⟩
    · have h1 := hx k hk
      rw [← ht, List.getElem?_take] at h1
      rw [if_pos (by omega)] at h1
      unfold World.cell?
      simp only [hg]
      simpa using h1
    · unfold World.frozen?
      simp only [hg]
      simp
def Mine (base : Nat) (w : World) (A : Option Addr) (n : Nat) (f : Nat → Int) : Prop := (A = none ∧ n = 0) ∨ ∃ b, A = some ⟨b, 0, none⟩ ∧ base ≤ b ∧ Own w b n f
theorem Mine.later {base : Nat} {w w' : World} {A : Option Addr} {n : Nat} {f : Nat → Int} (h : Mine base w A n f) (hl : Later w w') : Mine base w' A n f := by
  rcases h with h | ⟨b, h1, h2, h3⟩
  · exact .inl h
  · exact .inr ⟨b, h1, h2, h3.later hl⟩
theorem Mine.nums {base : Nat} {w : World} {A : Option Addr} {n : Nat} {f : Nat → Int} (h : Mine base w A n f) : Nums w A n f := by
  rcases h with ⟨_, rfl⟩ | ⟨b, rfl, _, h3⟩
  · exact Nums.none _ _ _
  · exact h3.nums
theorem Mine.congr {base : Nat} {w : World} {A : Option Addr} {n : Nat} {f h : Nat → Int} (H : Mine base w A n f) (e : ∀ k, k < n → f k = h k) : Mine base w A n h := by
  rcases H with H | ⟨b, h1, h2, h3⟩
  · exact .inl H
  · exact .inr ⟨b, h1, h2, h3.congr e⟩
theorem Mine.base {base base' : Nat} {w : World} {A : Option Addr} {n : Nat} {f : Nat → Int} (H : Mine base w A n f) (e : base' ≤ base) : Mine base' w A n f := by
  rcases H with H | ⟨b, h1, h2, h3⟩
  · exact .inl H
  · exact .inr ⟨b, h1, by omega, h3⟩
theorem Mine.spot {base : Nat} {w : World} {A : Option Addr} {n : Nat} {f : Nat → Int} (H : Mine base w A n f) : ∀ a, A = some a → a.spot = none := by
  rcases H with ⟨rfl, _⟩ | ⟨b, rfl, _⟩
  · intro a h; cases h
  · intro a h; injection h with h; rw [← h]
theorem Later.of_grown {w w' : World} (h : w.grownBy w' none) : Later w w' := Later.of_below ⟨h.os, h.tape, h.output, h.size, fun k hk => h.block k hk (by simp)⟩

/-! ### slices.Clone -/
def Try.lClone_ren : Go.Shelf.Ren := ⟨fun | 41 => 12 | n => n, fun | 22 => 29 | 23 => 22 | 4 => 4 | n => n, fun | n => n⟩
theorem Try.lClone : SlLaysE0.n41 Try.prog Try.lClone_ren := {
  mixed := by kernel_rfl
  f41 := ⟨Try.f12.name, by decide, Try.func12.trans (congrArg some (by kernel_rfl))⟩
  t4 := Try.underlying4
  a4 := Try.isAgg4
  z4 := Try.sizeOf4
  v4 := Try.zeroValue4
  t22 := Try.underlying29
  a22 := Try.isAgg29
  z22 := Try.sizeOf29
  v22 := Try.zeroValue29 }
def RetS (w : World) (n : Nat) (f : Nat → Int) (e : Ending) (w' : World) : Prop := ∃ A c, e = .returned (.slice A n c) ∧ Later w w' ∧ Mine w.heap.size w' A n f
theorem listed {w : World} {b off n : Nat} {f : Nat → Int} (h : Nums w (some ⟨b, off, none⟩) n f) : ∀ j u, ((List.range n).map fun i => Value.int .u64 (f i))[j]? = some u → w.cell? ⟨b, off + j, none⟩ = some u := by
  intro j u hu
  have hj : j < n := by
    have := (List.getElem?_eq_some_iff.1 hu).1
    simpa using this
  rw [List.getElem?_map, List.getElem?_range hj] at hu
  obtain ⟨b', off', hA, _, hc⟩ := h j hj
  injection hA with hA
  injection hA with h1 h2
  subst h1 h2
  rw [hc]
  simpa using hu
theorem listed_one {n : Nat} {f : Nat → Int} : ∀ u ∈ ((List.range n).map fun i => Value.int .u64 (f i)), u.oneCell' = true := by
  intro u hu
  obtain ⟨i, _, rfl⟩ := List.mem_map.1 hu
  rfl
theorem clone_any (A : Option Addr) (n c : Nat) (f : Nat → Int) (w : World) (hN : Nums w A n f) (hn : n ≤ 1000) (hz : ∀ a, A = some a → a.spot = none) :
    Calls Try.prog 12 #[.slice A n c] w (RetS w n f) := by
  cases A with
  | none =>
    have h0 : n = 0 := by
      rcases n with _ | n
      · rfl
      · obtain ⟨_, _, h, _⟩ := hN 0 (by omega); cases h
    subst h0
    have hcon := AnyE.slices_Clone_nil Try.lClone 0 c w
    change Calls Try.prog 12 _ _ _ at hcon
    exact hcon.mono fun e w' ⟨he, hw⟩ => ⟨none, 0, he, hw ▸ Later.refl w, .inl ⟨rfl, rfl⟩⟩
  | some a =>
    obtain ⟨b, off, sp⟩ := a
    obtain rfl : sp = none := hz _ rfl
    obtain ⟨i0, hi⟩ := info22
    have hcon := AnyE.slices_Clone Try.lClone i0 (.int .u64 0) 1 8 hi ?_ ?_ ?_ rfl (by omega) (fun w => ?_) b off n c ((List.range n).map fun i => Value.int .u64 (f i)) w (by simp) (by unfold maxLen; omega) (by omega) (listed hN) listed_one
    change Calls Try.prog 12 _ _ _ at hcon
    · refine hcon.mono fun e w' ⟨v, he, hown, hv, hbl⟩ => ?_
      obtain ⟨b', c', rfl, hb, hO⟩ := Own.of_row (f := f) hown (fun k hk => by simp [List.getElem?_range hk]) hv
      exact ⟨_, _, he, Later.of_below hbl, .inr ⟨b', rfl, hb, hO⟩⟩
    · have h : (Try.prog.info? 22).map (·.zero) = some (some (.int .u64 0)) := by kernel_rfl
      rw [hi] at h; simpa using h
    · have h : (Try.prog.info? 22).map (·.size) = some 1 := by kernel_rfl
      rw [hi] at h; simpa using h
    · have h : (Try.prog.info? 22).map (·.bytes) = some 8 := by kernel_rfl
      rw [hi] at h; simpa using h
    · kernel_rfl

/-! ### slices.Equal, of what is the same -/
set_option maxHeartbeats 1000000 in
theorem equal_yes (A B : Option Addr) (n c d : Nat) (f h : Nat → Int) (w : World) (hn : n ≤ 1000) (hA : Nums w A n f) (hB : Nums w B n h) (e : ∀ k, k < n → f k = h k) :
    Calls Try.prog 23 #[.slice A n c, .slice B n d] w (Ret w (.bool true)) := by
  have HA := Lib.hid hA
  have HB := Lib.hid (hB.congr fun k hk => (e k hk).symm)
  clear hA hB e
  go_enter Try.func23, Try.ntmps23
  go_wp2_with fail
  go_loopw [13] (fun i wr => ∃ (k : Nat) (g : Grow), k ≤ n ∧ i = .int .i64 k ∧ wr = more w g) (fun i _ => n - (intOf i).toNat)
  case atStart => exact ⟨0, ⟨#[], w.drawn⟩, Nat.zero_le _, rfl, by simp [more]⟩
  case round =>
    obtain ⟨k, g, hk, rfl, rfl⟩ := hrel
    by_cases hlt : k < n
    · obtain ⟨b1, o1, rfl, hb1, hc1⟩ := HA.out k hlt
      obtain ⟨b2, o2, rfl, hb2, hc2⟩ := HB.out k hlt
      generalize f k = x at *
      go_wp2_with fail
      refine wp_region_more (by kernel_rfl) (by kernel_rfl) ?_
      repeat (go_big_quiet_step (fail))
      refine wpQuiet_nil ?_
      rintro _ ⟨g2, rfl⟩
      go_wp2_with fail
      go_roundw
      case rel => exact ⟨k + 1, _, by omega, by go_num, rfl⟩
      case measure => simp [intOf]; omega
    · obtain rfl : k = n := by omega
      go_wp2_with fail
      go_ret
      exact Ret.mk ((Later.refl _).more _)

/-! ### copy, into a square of the call's own -/
def over (n : Nat) (f h : Nat → Int) (k : Nat) : Int := if k < n then f k else h k
theorem wpList_copy_sq {ops : Array Oper} {rest : List Oper} {o : Oper} {a : Act} {w : World} {Q : Exit → Act → World → Prop} (hgd : o.guard = none) (d s : Operand)
    (ho : o.op = .call { callee := .builtin .copy, args := #[d, s], argTypes := #[29, 29] }) (g dc : Nat) (A : Option Addr) (n c : Nat) (hd : a.eval d = .slice (some ⟨g, 0, none⟩) 64 dc) (hs : a.eval s = .slice A n c)
    (hz : ∀ a, A = some a → a.spot = none) (h : Nat → Int) (hg : w.heap[g]? = some (.cells (arr h) 23 (0, 0))) (f : Nat → Int) (hN : Nums w A n f) (hn : n ≤ 64)
    (hK : wpList Try.prog ops Q rest (a.put o.dst (goInt n)) (w.setRow g (arr (over n f h)))) : wpList Try.prog ops Q (o :: rest) a w := by
  cases A with
  | none =>
    have h0 : n = 0 := by
      rcases n with _ | n
      · rfl
      · obtain ⟨_, _, h, _⟩ := hN 0 (by omega); cases h
    subst h0
    refine wpList_copy_nothing hgd d s 29 29 ho 22 Try.underlying29 (by kernel_rfl) _ _ 64 dc 0 c hd hs (by simp) ?_
    have e : over 0 f h = h := by funext k; simp [over]
    rw [e, setRow_self w g (arr h) 23 (0, 0) hg] at hK
    exact hK
  | some ad =>
    obtain ⟨b, off, sp⟩ := ad
    obtain rfl : sp = none := hz _ rfl
    refine wpList_copy_own hgd d s 29 29 ho 22 Try.underlying29 (by kernel_rfl) g 0 64 dc _ n c hd hs (arr h) 23 hg ((List.range n).map fun i => Value.int .u64 (f i)) (by rw [List.length_map, List.length_range]; exact (Nat.min_eq_left hn).symm) ?_ (by simp [arr_size]; omega) listed_one ?_
    · intro j v hv
      have := listed hN j v hv
      rw [show (⟨b, off, none⟩ : Addr).add j = ⟨b, off + j, none⟩ by unfold Addr.add; split <;> simp_all]
      exact this
    · rw [List.length_map, List.length_range]
      have e : ((arr h).toList.take 0 ++ (((List.range n).map fun i => Value.int .u64 (f i)) ++ (arr h).toList.drop (0 + n))).toArray = arr (over n f h) := by
        refine arr_ext (by simp [arr_size]; omega) fun i hi => ?_
        simp only [List.take_zero, List.nil_append, List.getElem?_toArray, List.getElem?_append, List.length_map, List.length_range, List.getElem?_map, List.getElem?_drop, Array.getElem?_toList, Nat.zero_add]
        split
        · rename_i hlt; rw [List.getElem?_range hlt]; simp [over, hlt]
        · rename_i hlt; rw [show n + (i - n) = i by omega, arr_get h i hi]; simp [over, hlt]
      rw [e]
      exact hK
end Go.Proofs.Ytmhmnjeimjjipaa
