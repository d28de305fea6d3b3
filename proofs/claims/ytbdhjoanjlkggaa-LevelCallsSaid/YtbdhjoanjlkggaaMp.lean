/-
  No statement of the seat is proved here. A map of ints as a set; what level.Round computes, as a plain function.
-/
import Derived.Test.YtbdhjoanjlkggaaRchW
import Derived.Maps.RangeWalk
import Derived.Maps.OwnSet
import Derived.Maps.OwnOps
namespace Go.Proofs.Ytbdhjoanjlkggaa
open Go Go.RowKit Go.Maps
set_option linter.unusedVariables false
set_option linter.unusedSimpArgs false
theorem law3 : Keyed Try.prog 3 := int_keyed Try.underlying3
/-- A map that holds 1 at just the keys of S. -/
structure MapS (D : DataW Unit) (S : Int → Bool) (s : Nat) : Prop where
  tidy : Tidy D
  has : ∀ x : Int, Maps.has D (.int .i64 x) = S x
  one : ∀ x : Int, S x = true → ∀ z, D.atKey (.int .i64 x) z = .lit (.int .i64 1)
  size : Maps.size D = s
theorem MapS.nil : MapS (.map []) (fun _ => false) 0 := ⟨tidy_empty, fun _ => rfl, fun _ h => (by cases h), rfl⟩
theorem lit_ne {x y : Int} (h : y ≠ x) : Lit.int .i64 y ≠ Lit.int .i64 x := fun e => h (by injection e)
theorem MapS.put {D : DataW Unit} {S : Int → Bool} {s : Nat} (h : MapS D S s) {x : Int} (hx : S x = false) : MapS (D.put (.int .i64 x) (.lit (.int .i64 1))) (fun y => if y = x then true else S y) (s + 1) := by
  refine ⟨h.tidy.put (show WideAt.IsKeyLit (.int .i64 x) from trivial) _, fun y => ?_, fun y hy z => ?_, ?_⟩
  · by_cases e : y = x
    · subst e; rw [if_pos rfl]; exact has_put_same h.tidy.isMap (show WideAt.IsKeyLit (.int .i64 y) from trivial) _
    · rw [if_neg e, has_put_other (lit_ne e)]; exact h.has y
  · by_cases e : y = x
    · subst e; exact atKey_put_same h.tidy.isMap (show WideAt.IsKeyLit (.int .i64 y) from trivial) _ _
    · rw [if_neg e] at hy
      rw [atKey_put_other (lit_ne e)]; exact h.one y hy z
  · rw [size_put h.tidy, h.has x, hx, h.size]; rfl
theorem MapS.del {D : DataW Unit} {S : Int → Bool} {s : Nat} (h : MapS D S (s + 1)) {x : Int} (hx : S x = true) : MapS (D.del (.int .i64 x)) (fun y => if y = x then false else S y) s := by
  refine ⟨h.tidy.del _, fun y => ?_, fun y hy z => ?_, ?_⟩
  · by_cases e : y = x
    · subst e; rw [if_pos rfl]; exact has_del_same
    · rw [if_neg e, has_del_other (lit_ne e)]; exact h.has y
  · by_cases e : y = x
    · subst e; rw [if_pos rfl] at hy; cases hy
    · rw [if_neg e] at hy
      rw [atKey_del_other (lit_ne e)]; exact h.one y hy z
  · have := size_del (k := .int .i64 x) h.tidy
    rw [h.has x, hx, h.size] at this
    simp at this
    omega
theorem MapS.at_ {D : DataW Unit} {S : Int → Bool} {s : Nat} (h : MapS D S s) (x : Int) : D.atKey (.int .i64 x) (.lit (.int .i64 0)) = .lit (.int .i64 (if S x = true then 1 else 0)) := by
  cases hx : S x
  · rw [atKey_of_not_has (by rw [h.has x]; exact hx)]; simp
  · rw [h.one x hx]; simp
theorem MapS.congr {D : DataW Unit} {S S' : Int → Bool} {s : Nat} (h : MapS D S s) (e : ∀ x, S x = S' x) : MapS D S' s := by
  have : S = S' := funext e
  rw [← this]; exact h
namespace Lv
/-- Is it a thing of N, and none of the first p of T? -/
def leftB (N : Nat) (T : List Nat) (x : Int) : Bool := decide (0 ≤ x) && decide (x < N) && !T.contains x.toNat
/-- Is it a thing that cannot be told? -/
def unt (ms : List (List Nat)) (k : Nat) : Bool := leftB ms.length (told ms) k
def first (U : Nat → Bool) (N : Nat) : Nat := ((List.range N).find? U).getD N
def minNeed (N : Nat) (U : Nat → Bool) (r : List Nat) : Nat := r.foldl (fun m k => if U k = true then min m k else m) N
/-- From thing to thing until one comes again. -/
def walkF (ms : List (List Nat)) (U : Nat → Bool) : Nat → List Nat → Nat → List Nat
  | 0, p, _ => p
  | f + 1, p, a => if 0 ≤ idx (ints (p ++ [a])) (minNeed ms.length U (row ms a) : Nat) then (p ++ [a]).drop (idx (ints (p ++ [a])) (minNeed ms.length U (row ms a) : Nat)).toNat
    else walkF ms U f (p ++ [a]) (minNeed ms.length U (row ms a))
def roundB (ns : List (List Int)) : Bool := mayB ns && decide ((told (nat ns)).length < ns.length)
def roundL (ns : List (List Int)) : List Nat := if roundB ns = true then walkF (nat ns) (unt (nat ns)) (ns.length + 1) [] (first (unt (nat ns)) ns.length) else []
theorem leftB_zero {N : Nat} (x : Int) : (decide (0 ≤ x) && decide (x < N)) = leftB N [] x := by simp [leftB]
theorem leftB_step {N p i : Nat} {T : List Nat} (hp : p < T.length) (hi : T.getD p 0 = i) (x : Int) : (if x = (i : Nat) then false else leftB N (T.take p) x) = leftB N (T.take (p + 1)) x := by
  have e : T[p] = i := by rw [← hi, List.getD_eq_getElem?_getD, List.getElem?_eq_getElem hp]; rfl
  unfold leftB
  rw [List.take_succ_eq_append_getElem hp, e]
  by_cases hx : x = (i : Nat)
  · subst hx; simp
  · rw [if_neg hx]
    by_cases h0 : 0 ≤ x
    · have : x.toNat ≠ i := by omega
      simp [h0, this]
    · simp [h0]
theorem leftB_yes {N p i : Nat} {T : List Nat} (hp : p < T.length) (hi : T.getD p 0 = i) (hd : T.Nodup) (hN : i < N) : leftB N (T.take p) (i : Nat) = true := by
  have e : T[p] = i := by rw [← hi, List.getD_eq_getElem?_getD, List.getElem?_eq_getElem hp]; rfl
  have : i ∉ T.take p := by
    intro hm
    obtain ⟨j, hj, hje⟩ := List.mem_iff_getElem.1 hm
    rw [List.getElem_take] at hje
    have hj' : j < p := by rw [List.length_take] at hj; omega
    exact (List.pairwise_iff_getElem.1 hd) j p (by omega) hp hj' (hje.trans e.symm)
  simp [leftB, hN, this]
theorem leftB_put {k : Nat} (x : Int) : (if x = (k : Nat) then true else (decide (0 ≤ x) && decide (x < k))) = (decide (0 ≤ x) && decide (x < ((k + 1 : Nat) : Int))) := by
  by_cases hx : x = (k : Nat)
  · subst hx; simp; omega
  · rw [if_neg hx]
    congr 1
    rw [decide_eq_decide]
    omega
theorem first_is {U : Nat → Bool} {N m : Nat} (hm : m < N) (h : U m = true) (hl : ∀ k, k < m → U k = false) : first U N = m := by
  unfold first
  rw [List.find?_range_eq_some.2 ⟨h, by simpa using hm, fun j hj => by simp [hl j hj]⟩]
  rfl
theorem minNeed_next {N p k : Nat} {U : Nat → Bool} {r : List Nat} (hp : p < r.length) (hk : r.getD p 0 = k) : minNeed N U (r.take (p + 1)) = if U k = true then min (minNeed N U (r.take p)) k else minNeed N U (r.take p) := by
  have e : r[p] = k := by rw [← hk, List.getD_eq_getElem?_getD, List.getElem?_eq_getElem hp]; rfl
  unfold minNeed
  rw [List.take_succ_eq_append_getElem hp, List.foldl_append, e]
  rfl
theorem minNeed_spec {N : Nat} {U : Nat → Bool} : ∀ (r : List Nat) (m : Nat), (m < N → U m = true) → m ≤ N →
    (r.foldl (fun m k => if U k = true then min m k else m) m ≤ m) ∧ ((∃ k ∈ r, U k = true ∧ k < N) → r.foldl (fun m k => if U k = true then min m k else m) m < N) ∧ (r.foldl (fun m k => if U k = true then min m k else m) m < N → U (r.foldl (fun m k => if U k = true then min m k else m) m) = true ∧ (r.foldl (fun m k => if U k = true then min m k else m) m = m ∨ r.foldl (fun m k => if U k = true then min m k else m) m ∈ r))
  | [], m, hm, hN => ⟨Nat.le_refl _, fun ⟨k, hk, _⟩ => by simp at hk, fun h => ⟨hm h, .inl rfl⟩⟩
  | a :: r, m, hm, hN => by
    rw [List.foldl_cons]
    by_cases ha : U a = true
    · rw [if_pos ha]
      obtain ⟨h1, h2, h3⟩ := minNeed_spec (N := N) (U := U) r (min m a) (fun h => by
        rcases Nat.le_total m a with e | e
        · rw [Nat.min_eq_left e] at h ⊢; exact hm h
        · rw [Nat.min_eq_right e]; exact ha) (by omega)
      refine ⟨by omega, fun ⟨k, hk, hu, hkN⟩ => ?_, fun h => ⟨(h3 h).1, ?_⟩⟩
      · rcases List.mem_cons.1 hk with rfl | hk
        · omega
        · exact h2 ⟨k, hk, hu, hkN⟩
      · rcases (h3 h).2 with e | e
        · rcases Nat.le_total m a with e2 | e2
          · rw [Nat.min_eq_left e2] at e; exact .inl (by rw [Nat.min_eq_left e2]; exact e)
          · rw [Nat.min_eq_right e2] at e; exact .inr (by rw [Nat.min_eq_right e2, e]; simp)
        · exact .inr (List.mem_cons_of_mem _ e)
    · rw [if_neg ha]
      obtain ⟨h1, h2, h3⟩ := minNeed_spec (N := N) (U := U) r m hm hN
      refine ⟨h1, fun ⟨k, hk, hu, hkN⟩ => ?_, fun h => ⟨(h3 h).1, (h3 h).2.imp id (fun e => List.mem_cons_of_mem _ e)⟩⟩
      rcases List.mem_cons.1 hk with rfl | hk
      · exact absurd hu ha
      · exact h2 ⟨k, hk, hu, hkN⟩
theorem toldF_end {ns : List (List Nat)} : ∀ (n : Nat) (D : List Nat), next ns (toldF ns n D) = none ∨ (toldF ns n D).length = D.length + n
  | 0, D => .inr rfl
  | n + 1, D => by
    unfold toldF
    cases hx : next ns D with
    | none => exact .inl hx
    | some i =>
      rcases toldF_end n (D ++ [i]) with h | h
      · exact .inl h
      · exact .inr (by simp only; rw [h, List.length_append]; simp; omega)
/-- What is not told needs something that is not told. -/
theorem told_stuck {ns : List (List Nat)} {i : Nat} (hi : i < ns.length) (hn : i ∉ told ns) : ∃ k ∈ row ns i, k ∉ told ns := by
  have hr : rdy ns (told ns) i = false := by
    rcases toldF_end (ns := ns) ns.length [] with h | h
    · have h' : next ns (told ns) = none := h
      unfold next at h'
      rw [List.find?_eq_none] at h'
      have := h' i (List.mem_range.2 hi)
      simpa using this
    · exfalso
      have hg := told_good ns
      have := pigeon ns.length (told ns ++ [i]) (by
        rw [List.nodup_append]
        exact ⟨hg.nodup, by simp, fun a ha b hb => by simp at hb; subst hb; exact fun e => hn (e ▸ ha)⟩) (fun x hx => by
        rcases List.mem_append.1 hx with hx | hx
        · exact hg.lt x hx
        · simp at hx; omega)
      have h' : (told ns).length = 0 + ns.length := h
      simp at this
      omega
  by_cases hc : cnt ns (told ns) i = 0
  · have := rdy_iff.2 ⟨hn, hc⟩
    rw [this] at hr; cases hr
  · rw [cnt_zero] at hc
    simpa using hc
theorem unt_iff {ms : List (List Nat)} {k : Nat} : unt ms k = true ↔ k < ms.length ∧ k ∉ told ms := by
  simp [unt, leftB]
end Lv
end Go.Proofs.Ytbdhjoanjlkggaa
