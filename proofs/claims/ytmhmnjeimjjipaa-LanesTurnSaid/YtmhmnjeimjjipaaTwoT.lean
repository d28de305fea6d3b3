/-
  No statement of the seat is proved here. 'a, b := Turn(x), Turn(y)', both kept in memory, in whatever order it is drawn.
-/
import Derived.Test.YtmhmnjeimjjipaaSq
import Derived.Test.YtmhmnjeimjjipaaInv
import Derived.Laws.CopyOwn
namespace Go.Proofs.Ytmhmnjeimjjipaa
open Go Go.RowKit
set_option linter.unusedVariables false
set_option linter.unusedSimpArgs false

theorem eval_put_same {a : Act} {d : Nat} (v : Value) (h : d < a.tmps.size) : (a.put (some d) v).eval (.tmp d) = v := by
  simp [Act.put, Act.eval, h]
theorem eval_put_ne {a : Act} {d k : Nat} (v : Value) (h : d ≠ k) : (a.put (some d) v).eval (.tmp k) = a.eval (.tmp k) := by
  simp [Act.put, Act.eval, Array.getElem?_setIfInBounds_ne h]
theorem put_get_ne {a : Act} {d k : Nat} (v : Value) (h : d ≠ k) : (a.put (some d) v).tmps[k]? = a.tmps[k]? := by
  simp [Act.put, Array.getElem?_setIfInBounds_ne h]
theorem put_size {a : Act} {d : Nat} (v : Value) : (a.put (some d) v).tmps.size = a.tmps.size := by simp [Act.put]
theorem put_defers {a : Act} {d : Nat} (v : Value) : (a.put (some d) v).defers = a.defers := by simp [Act.put]
theorem put_none {a : Act} (v : Value) : a.put none v = a := by simp [Act.put]
theorem put_get_same {a : Act} {d : Nat} (v : Value) (h : d < a.tmps.size) : (a.put (some d) v).tmps[d]? = some v := by simp [Act.put, h]
theorem get_of_eval {a : Act} {k : Nat} {v : Value} (h : a.eval (.tmp k) = v) (hk : k < a.tmps.size) : a.tmps[k]? = some v := by
  simp only [Act.eval] at h
  rw [← h]
  simp [hk]
theorem act_ext {a b : Act} (h : ∀ k : Nat, a.tmps[k]? = b.tmps[k]?) (hd : a.defers = b.defers) : a = b := by
  cases a; cases b
  simp only at h hd
  subst hd
  congr 1
  exact Array.ext_getElem? h
def ordB (ops : Array Oper) : Bool := ops.toList.zipIdx.all fun x => x.1.after.all fun e => decide (e.on < x.2)
theorem ord_of {ops : Array Oper} (h : ordB ops = true) (j : Nat) (o : Oper) (ho : ops[j]? = some o) (e : _) (he : e ∈ o.after) : e.on < j := by
  unfold ordB at h
  have h1 := List.all_eq_true.1 h (o, j) (by rw [List.mem_zipIdx_iff_getElem?]; simpa using ho)
  simpa using Array.all_eq_true_iff_forall_mem.1 h1 e he
theorem Sq.row {w : World} {b : Nat} {f : Nat → Int} (h : Sq w b f) (g : Nat → Int) : Sq (w.setRow b (arr g)) b g := setRow_heap w b (arr f) (arr g) 23 (0, 0) h
theorem Sq.row_other {w : World} {b b' : Nat} {f : Nat → Int} (h : Sq w b f) (hne : b' ≠ b) (g : Array Value) : Sq (w.setRow b' g) b f := by
  unfold Sq
  rw [setRow_other w b' b g (fun e => hne e.symm)]
  exact h
theorem Later.row {a w : World} (h : Later a w) {b : Nat} (hb : a.heap.size ≤ b) (cs : Array Value) : Later a (w.setRow b cs) := Later.of_below (below_setRow h.below hb cs)
theorem wp_alloc23 {o : Oper} {a : Act} {w : World} {K : Act → World → Prop} {Q : Exit → Act → World → Prop} (ho : o.op = .alloc 23)
    (h : K (a.put o.dst (.pointer (some ⟨w.heap.size, 0, none⟩))) (w.alloc (.cells (arr fun _ => 0) 23))) : o.wp Try.prog a w K Q := by
  unfold Oper.wp execOp
  rw [ho]
  go_simp
  exact h
theorem wp_call9 {o : Oper} {a : Act} {w : World} {K : Act → World → Prop} {Q : Exit → Act → World → Prop} {l : Nat} (ho : o.op = .call { callee := .value (.func 9), args := #[.tmp l], argTypes := #[23] }) (x y : Value) (hx : a.eval (.tmp l) = x)
    (hc : Calls Try.prog 9 #[x] w (Ret w y)) (h : ∀ w', Later w w' → K (a.put o.dst y) w') : o.wp Try.prog a w K Q := by
  unfold Oper.wp execOp
  rw [ho]
  simp only [resolve, invoke, Sem.run_bind, List.map_toArray, List.map_cons, List.map_nil, hx, Oper.upon]
  exact hc.mono fun e w' ⟨he, hl⟩ => by subst he; exact h w' hl

theorem wpOp_here {P : Program} {ops : Array Oper} {Q : Exit → Act → World → Prop} {i : Nat} {o : Oper} {K : Act → World → Prop} {a : Act} {w : World} (ho : ops[i]? = some o) (hg : o.guard = none) (h : o.wp P a w K Q) : wpOp P ops Q i K a w := by
  unfold wpOp
  rw [ho]
  simp only [Region.wanted, hg, if_true]
  exact .inl h
/-- The operations, whatever their slots. -/
def ttOps (ps : String) (p q l0 c1 l2 c3 d4 d5 : Nat) : Array Oper :=
  #[{ dst := some l0, op := Op.load 23 (Operand.tmp p), type := 23, pos := ps, after := #[], guard := none },
    { dst := some c1, op := Op.call { callee := Callee.value (Operand.func 9), args := #[Operand.tmp l0], argTypes := #[23] }, type := 23, pos := ps, after := #[{ on := 0, ground := Ground.data }], guard := none },
    { dst := some l2, op := Op.load 23 (Operand.tmp q), type := 23, pos := ps, after := #[], guard := none },
    { dst := some c3, op := Op.call { callee := Callee.value (Operand.func 9), args := #[Operand.tmp l2], argTypes := #[23] }, type := 23, pos := ps, after := #[{ on := 2, ground := Ground.data }, { on := 1, ground := Ground.chain }], guard := none },
    { dst := some d4, op := Op.alloc 23, type := 0, pos := ps, after := #[], guard := none },
    { dst := some d5, op := Op.alloc 23, type := 0, pos := ps, after := #[], guard := none },
    { dst := none, op := Op.store 23 (Operand.tmp d4) (Operand.tmp c1), type := 0, pos := ps,
      after := #[{ on := 4, ground := Ground.data }, { on := 1, ground := Ground.data }, { on := 3, ground := Ground.chain }, { on := 0, ground := Ground.phase },
        { on := 1, ground := Ground.phase }, { on := 2, ground := Ground.textOnly Departure.lateStores }, { on := 3, ground := Ground.textOnly Departure.lateStoresUnsure },
        { on := 4, ground := Ground.phase }, { on := 5, ground := Ground.phase }], guard := none },
    { dst := none, op := Op.store 23 (Operand.tmp d5) (Operand.tmp c3), type := 0, pos := ps,
      after := #[{ on := 5, ground := Ground.data }, { on := 3, ground := Ground.data }, { on := 6, ground := Ground.chain }, { on := 0, ground := Ground.phase },
        { on := 1, ground := Ground.phase }, { on := 2, ground := Ground.phase }, { on := 3, ground := Ground.phase }, { on := 4, ground := Ground.phase },
        { on := 5, ground := Ground.phase }, { on := 6, ground := Ground.phase }], guard := none }]

/-- What holds on the way. -/
structure TT (a0 : Act) (w0 : World) (l0 c1 l2 c3 d4 d5 : Nat) (s t u v : Nat → Int) (L : Nat → Bool) (a : Act) (w : World) : Prop where
  same : ∀ k, k ≠ l0 → k ≠ c1 → k ≠ l2 → k ≠ c3 → k ≠ d4 → k ≠ d5 → a.tmps[k]? = a0.tmps[k]?
  size : a.tmps.size = a0.tmps.size
  defers : a.defers = a0.defers
  later : Later w0 w
  e0 : L 0 = true → a.eval (.tmp l0) = .agg (arr s)
  e1 : L 1 = true → a.eval (.tmp c1) = .agg (arr t)
  e2 : L 2 = true → a.eval (.tmp l2) = .agg (arr u)
  e3 : L 3 = true → a.eval (.tmp c3) = .agg (arr v)
  e4 : L 4 = true → ∃ b, a.eval (.tmp d4) = .pointer (some ⟨b, 0, none⟩) ∧ w0.heap.size ≤ b ∧ Sq w b (if L 6 then t else fun _ => 0)
  e5 : L 5 = true → ∃ b, a.eval (.tmp d5) = .pointer (some ⟨b, 0, none⟩) ∧ w0.heap.size ≤ b ∧ Sq w b (if L 7 then v else fun _ => 0)
  f6 : L 6 = true → L 4 = true
  f7 : L 7 = true → L 5 = true
  apart : L 4 = true → L 5 = true → ∀ b b', a.eval (.tmp d4) = .pointer (some ⟨b, 0, none⟩) → a.eval (.tmp d5) = .pointer (some ⟨b', 0, none⟩) → b ≠ b'

theorem two_turns {id : Nat} {ps : String} {p q l0 c1 l2 c3 d4 d5 : Nat} {a0 : Act} {w0 : World} {Q : Exit → Act → World → Prop} {s t u v : Nat → Int} {bp bq : Nat}
    (hne : l0 ≠ c1 ∧ l0 ≠ l2 ∧ l0 ≠ c3 ∧ l0 ≠ d4 ∧ l0 ≠ d5 ∧ c1 ≠ l2 ∧ c1 ≠ c3 ∧ c1 ≠ d4 ∧ c1 ≠ d5 ∧ l2 ≠ c3 ∧ l2 ≠ d4 ∧ l2 ≠ d5 ∧ c3 ≠ d4 ∧ c3 ≠ d5 ∧ d4 ≠ d5)
    (hpn : p ≠ l0 ∧ p ≠ c1 ∧ p ≠ l2 ∧ p ≠ c3 ∧ p ≠ d4 ∧ p ≠ d5) (hqn : q ≠ l0 ∧ q ≠ c1 ∧ q ≠ l2 ∧ q ≠ c3 ∧ q ≠ d4 ∧ q ≠ d5)
    (hsz : l0 < a0.tmps.size ∧ c1 < a0.tmps.size ∧ l2 < a0.tmps.size ∧ c3 < a0.tmps.size ∧ d4 < a0.tmps.size ∧ d5 < a0.tmps.size)
    (hp : a0.eval (.tmp p) = .pointer (some ⟨bp, 0, none⟩)) (hq : a0.eval (.tmp q) = .pointer (some ⟨bq, 0, none⟩)) (hbp : Sq w0 bp s) (hbq : Sq w0 bq u)
    (H1 : ∀ w, Calls Try.prog 9 #[.agg (arr s)] w (Ret w (.agg (arr t)))) (H2 : ∀ w, Calls Try.prog 9 #[.agg (arr u)] w (Ret w (.agg (arr v))))
    (hK : ∀ b b' w', b ≠ b' → w0.heap.size ≤ b → w0.heap.size ≤ b' → Sq w' b t → Sq w' b' v → Later w0 w' →
      Q .normal ((((((a0.put (some l0) (.agg (arr s))).put (some c1) (.agg (arr t))).put (some l2) (.agg (arr u))).put (some c3) (.agg (arr v))).put (some d4) (.pointer (some ⟨b, 0, none⟩))).put (some d5) (.pointer (some ⟨b', 0, none⟩))) w') :
    (Code.region id (ttOps ps p q l0 c1 l2 c3 d4 d5) true).wp Try.prog Q a0 w0 := by
  obtain ⟨n1, n2, n3, n4, n5, n6, n7, n8, n9, n10, n11, n12, n13, n14, n15⟩ := hne
  obtain ⟨p1, p2, p3, p4, p5, p6⟩ := hpn
  obtain ⟨q1, q2, q3, q4, q5, q6⟩ := hqn
  obtain ⟨s1, s2, s3, s4, s5, s6⟩ := hsz
  refine wp_region_inv (by kernel_rfl) ?_ (TT a0 w0 l0 c1 l2 c3 d4 d5 s t u v) ?_ ?_ ?_
  · exact ord_of (by simp [ordB, ttOps])
  · exact ⟨fun _ _ _ _ _ _ _ => rfl, rfl, rfl, (Later.refl _).drew, by simp, by simp, by simp, by simp, by simp, by simp, by simp, by simp, by simp⟩
  · intro L a w i o ho hLi ha hI
    have hi : i < (ttOps ps p q l0 c1 l2 c3 d4 d5).size := (Array.getElem?_eq_some_iff.1 ho).1
    have hep : a.eval (.tmp p) = .pointer (some ⟨bp, 0, none⟩) := by rw [← hp]; simp only [Act.eval, Array.getD_eq_getD_getElem?, hI.same p p1 p2 p3 p4 p5 p6]
    have heq : a.eval (.tmp q) = .pointer (some ⟨bq, 0, none⟩) := by rw [← hq]; simp only [Act.eval, Array.getD_eq_getD_getElem?, hI.same q q1 q2 q3 q4 q5 q6]
    rcases i with _ | _ | _ | _ | _ | _ | _ | _ | i
    · have ho2 := ho
      simp only [ttOps, List.getElem?_toArray, Nat.reduceAdd, List.getElem?_cons_zero, List.getElem?_cons_succ, Option.some.injEq] at ho2
      subst ho2
      refine wpOp_here ho rfl (wp_load_row (P := Try.prog) 23 _ rfl bp hep 23 (arr s) (0, 0) _ (hbp.later hI.later) row23 rfl (by rw [size23, arr_size]) ?_)
      exact { same := (fun k h1 h2 h3 h4 h5 h6 => by rw [put_get_ne _ (Ne.symm h1)]; exact hI.same k h1 h2 h3 h4 h5 h6),
                size := (by rw [put_size]; exact hI.size),
                defers := (by rw [put_defers]; exact hI.defers),
                later := (hI.later),
                e0 := (fun _ => eval_put_same _ (by rw [hI.size]; exact s1)),
                e1 := (fun h => by rw [eval_put_ne _ n1]; exact hI.e1 (by simpa using h)),
                e2 := (fun h => by rw [eval_put_ne _ n2]; exact hI.e2 (by simpa using h)),
                e3 := (fun h => by rw [eval_put_ne _ n3]; exact hI.e3 (by simpa using h)),
                e4 := (fun h => by obtain ⟨b, hb1, hb2, hb3⟩ := hI.e4 (by simpa using h); exact ⟨b, by rw [eval_put_ne _ n4]; exact hb1, hb2, by simpa using hb3⟩),
                e5 := (fun h => by obtain ⟨b, hb1, hb2, hb3⟩ := hI.e5 (by simpa using h); exact ⟨b, by rw [eval_put_ne _ n5]; exact hb1, hb2, by simpa using hb3⟩),
                apart := (fun h4 h5 b b' x4 x5 => by rw [eval_put_ne _ n4] at x4; rw [eval_put_ne _ n5] at x5; exact hI.apart (by simpa using h4) (by simpa using h5) b b' x4 x5),
                f6 := (fun h => by simpa using hI.f6 (by simpa using h)),
                f7 := (fun h => by simpa using hI.f7 (by simpa using h)) }
    · have ho2 := ho
      simp only [ttOps, List.getElem?_toArray, Nat.reduceAdd, List.getElem?_cons_zero, List.getElem?_cons_succ, Option.some.injEq] at ho2
      subst ho2
      have ha0 : L 0 = true := ha ⟨0, .data⟩ (by simp) rfl
      refine wpOp_here ho rfl (wp_call9 rfl _ _ (hI.e0 (ha0)) (H1 w) fun w' hl => ?_)
      exact { same := (fun k h1 h2 h3 h4 h5 h6 => by rw [put_get_ne _ (Ne.symm h2)]; exact hI.same k h1 h2 h3 h4 h5 h6),
                size := (by rw [put_size]; exact hI.size),
                defers := (by rw [put_defers]; exact hI.defers),
                later := (hI.later.trans hl),
                e0 := (fun h => by rw [eval_put_ne _ (Ne.symm n1)]; exact hI.e0 (by simpa using h)),
                e1 := (fun _ => eval_put_same _ (by rw [hI.size]; exact s2)),
                e2 := (fun h => by rw [eval_put_ne _ n6]; exact hI.e2 (by simpa using h)),
                e3 := (fun h => by rw [eval_put_ne _ n7]; exact hI.e3 (by simpa using h)),
                e4 := (fun h => by obtain ⟨b, hb1, hb2, hb3⟩ := hI.e4 (by simpa using h); exact ⟨b, by rw [eval_put_ne _ n8]; exact hb1, hb2, by simpa using hb3.later hl⟩),
                e5 := (fun h => by obtain ⟨b, hb1, hb2, hb3⟩ := hI.e5 (by simpa using h); exact ⟨b, by rw [eval_put_ne _ n9]; exact hb1, hb2, by simpa using hb3.later hl⟩),
                apart := (fun h4 h5 b b' x4 x5 => by rw [eval_put_ne _ n8] at x4; rw [eval_put_ne _ n9] at x5; exact hI.apart (by simpa using h4) (by simpa using h5) b b' x4 x5),
                f6 := (fun h => by simpa using hI.f6 (by simpa using h)),
                f7 := (fun h => by simpa using hI.f7 (by simpa using h)) }
    · have ho2 := ho
      simp only [ttOps, List.getElem?_toArray, Nat.reduceAdd, List.getElem?_cons_zero, List.getElem?_cons_succ, Option.some.injEq] at ho2
      subst ho2
      refine wpOp_here ho rfl (wp_load_row (P := Try.prog) 23 _ rfl bq heq 23 (arr u) (0, 0) _ (hbq.later hI.later) row23 rfl (by rw [size23, arr_size]) ?_)
      exact { same := (fun k h1 h2 h3 h4 h5 h6 => by rw [put_get_ne _ (Ne.symm h3)]; exact hI.same k h1 h2 h3 h4 h5 h6),
                size := (by rw [put_size]; exact hI.size),
                defers := (by rw [put_defers]; exact hI.defers),
                later := (hI.later),
                e0 := (fun h => by rw [eval_put_ne _ (Ne.symm n2)]; exact hI.e0 (by simpa using h)),
                e1 := (fun h => by rw [eval_put_ne _ (Ne.symm n6)]; exact hI.e1 (by simpa using h)),
                e2 := (fun _ => eval_put_same _ (by rw [hI.size]; exact s3)),
                e3 := (fun h => by rw [eval_put_ne _ n10]; exact hI.e3 (by simpa using h)),
                e4 := (fun h => by obtain ⟨b, hb1, hb2, hb3⟩ := hI.e4 (by simpa using h); exact ⟨b, by rw [eval_put_ne _ n11]; exact hb1, hb2, by simpa using hb3⟩),
                e5 := (fun h => by obtain ⟨b, hb1, hb2, hb3⟩ := hI.e5 (by simpa using h); exact ⟨b, by rw [eval_put_ne _ n12]; exact hb1, hb2, by simpa using hb3⟩),
                apart := (fun h4 h5 b b' x4 x5 => by rw [eval_put_ne _ n11] at x4; rw [eval_put_ne _ n12] at x5; exact hI.apart (by simpa using h4) (by simpa using h5) b b' x4 x5),
                f6 := (fun h => by simpa using hI.f6 (by simpa using h)),
                f7 := (fun h => by simpa using hI.f7 (by simpa using h)) }
    · have ho2 := ho
      simp only [ttOps, List.getElem?_toArray, Nat.reduceAdd, List.getElem?_cons_zero, List.getElem?_cons_succ, Option.some.injEq] at ho2
      subst ho2
      have ha0 : L 2 = true := ha ⟨2, .data⟩ (by simp) rfl
      refine wpOp_here ho rfl (wp_call9 rfl _ _ (hI.e2 (ha0)) (H2 w) fun w' hl => ?_)
      exact { same := (fun k h1 h2 h3 h4 h5 h6 => by rw [put_get_ne _ (Ne.symm h4)]; exact hI.same k h1 h2 h3 h4 h5 h6),
                size := (by rw [put_size]; exact hI.size),
                defers := (by rw [put_defers]; exact hI.defers),
                later := (hI.later.trans hl),
                e0 := (fun h => by rw [eval_put_ne _ (Ne.symm n3)]; exact hI.e0 (by simpa using h)),
                e1 := (fun h => by rw [eval_put_ne _ (Ne.symm n7)]; exact hI.e1 (by simpa using h)),
                e2 := (fun h => by rw [eval_put_ne _ (Ne.symm n10)]; exact hI.e2 (by simpa using h)),
                e3 := (fun _ => eval_put_same _ (by rw [hI.size]; exact s4)),
                e4 := (fun h => by obtain ⟨b, hb1, hb2, hb3⟩ := hI.e4 (by simpa using h); exact ⟨b, by rw [eval_put_ne _ n13]; exact hb1, hb2, by simpa using hb3.later hl⟩),
                e5 := (fun h => by obtain ⟨b, hb1, hb2, hb3⟩ := hI.e5 (by simpa using h); exact ⟨b, by rw [eval_put_ne _ n14]; exact hb1, hb2, by simpa using hb3.later hl⟩),
                apart := (fun h4 h5 b b' x4 x5 => by rw [eval_put_ne _ n13] at x4; rw [eval_put_ne _ n14] at x5; exact hI.apart (by simpa using h4) (by simpa using h5) b b' x4 x5),
                f6 := (fun h => by simpa using hI.f6 (by simpa using h)),
                f7 := (fun h => by simpa using hI.f7 (by simpa using h)) }
    · have ho2 := ho
      simp only [ttOps, List.getElem?_toArray, Nat.reduceAdd, List.getElem?_cons_zero, List.getElem?_cons_succ, Option.some.injEq] at ho2
      subst ho2
      have h6n : L 6 = false := Bool.eq_false_iff.2 (fun h => by have := hI.f6 h; rw [this] at hLi; cases hLi)
      refine wpOp_here ho rfl (wp_alloc23 rfl ?_)
      exact { same := (fun k h1 h2 h3 h4 h5 h6 => by rw [put_get_ne _ (Ne.symm h5)]; exact hI.same k h1 h2 h3 h4 h5 h6),
                size := (by rw [put_size]; exact hI.size),
                defers := (by rw [put_defers]; exact hI.defers),
                later := (hI.later.alloc _),
                e0 := (fun h => by rw [eval_put_ne _ (Ne.symm n4)]; exact hI.e0 (by simpa using h)),
                e1 := (fun h => by rw [eval_put_ne _ (Ne.symm n8)]; exact hI.e1 (by simpa using h)),
                e2 := (fun h => by rw [eval_put_ne _ (Ne.symm n11)]; exact hI.e2 (by simpa using h)),
                e3 := (fun h => by rw [eval_put_ne _ (Ne.symm n13)]; exact hI.e3 (by simpa using h)),
                e4 := (fun _ => ⟨w.heap.size, eval_put_same _ (by rw [hI.size]; exact s5), hI.later.below.size, by simpa [h6n] using Sq.new w (fun _ => 0)⟩),
                e5 := (fun h => by obtain ⟨b, hb1, hb2, hb3⟩ := hI.e5 (by simpa using h); exact ⟨b, by rw [eval_put_ne _ n15]; exact hb1, hb2, by simpa using hb3.old _⟩),
                apart := (fun h4 h5 b b' x4 x5 => by rw [eval_put_same _ (by rw [hI.size]; exact s5)] at x4; rw [eval_put_ne _ n15] at x5; obtain ⟨c, hc1, _, hc3⟩ := hI.e5 (by simpa using h5); have hlt := hc3.lt; rw [hc1] at x5; injection x4 with x4; injection x4 with x4; injection x4 with x4; injection x5 with x5; injection x5 with x5; injection x5 with x5; omega),
                f6 := (fun _ => by simp),
                f7 := (fun h => by simpa using hI.f7 (by simpa using h)) }
    · have ho2 := ho
      simp only [ttOps, List.getElem?_toArray, Nat.reduceAdd, List.getElem?_cons_zero, List.getElem?_cons_succ, Option.some.injEq] at ho2
      subst ho2
      have h6n : L 7 = false := Bool.eq_false_iff.2 (fun h => by have := hI.f7 h; rw [this] at hLi; cases hLi)
      refine wpOp_here ho rfl (wp_alloc23 rfl ?_)
      exact { same := (fun k h1 h2 h3 h4 h5 h6 => by rw [put_get_ne _ (Ne.symm h6)]; exact hI.same k h1 h2 h3 h4 h5 h6),
                size := (by rw [put_size]; exact hI.size),
                defers := (by rw [put_defers]; exact hI.defers),
                later := (hI.later.alloc _),
                e0 := (fun h => by rw [eval_put_ne _ (Ne.symm n5)]; exact hI.e0 (by simpa using h)),
                e1 := (fun h => by rw [eval_put_ne _ (Ne.symm n9)]; exact hI.e1 (by simpa using h)),
                e2 := (fun h => by rw [eval_put_ne _ (Ne.symm n12)]; exact hI.e2 (by simpa using h)),
                e3 := (fun h => by rw [eval_put_ne _ (Ne.symm n14)]; exact hI.e3 (by simpa using h)),
                e4 := (fun h => by obtain ⟨b, hb1, hb2, hb3⟩ := hI.e4 (by simpa using h); exact ⟨b, by rw [eval_put_ne _ (Ne.symm n15)]; exact hb1, hb2, by simpa using hb3.old _⟩),
                e5 := (fun _ => ⟨w.heap.size, eval_put_same _ (by rw [hI.size]; exact s6), hI.later.below.size, by simpa [h6n] using Sq.new w (fun _ => 0)⟩),
                apart := (fun h4 h5 b b' x4 x5 => by rw [eval_put_same _ (by rw [hI.size]; exact s6)] at x5; rw [eval_put_ne _ (Ne.symm n15)] at x4; obtain ⟨c, hc1, _, hc3⟩ := hI.e4 (by simpa using h4); have hlt := hc3.lt; rw [hc1] at x4; injection x4 with x4; injection x4 with x4; injection x4 with x4; injection x5 with x5; injection x5 with x5; injection x5 with x5; omega),
                f6 := (fun h => by simpa using hI.f6 (by simpa using h)),
                f7 := (fun _ => by simp) }
    · have ho2 := ho
      simp only [ttOps, List.getElem?_toArray, Nat.reduceAdd, List.getElem?_cons_zero, List.getElem?_cons_succ, Option.some.injEq] at ho2
      subst ho2
      have ha4 : L 4 = true := ha ⟨4, .data⟩ (by simp) rfl
      have ha1 : L 1 = true := ha ⟨1, .data⟩ (by simp) rfl
      obtain ⟨b, hb1, hb2, hb3⟩ := hI.e4 ha4
      refine wpOp_here ho rfl (wp_store_row (P := Try.prog) 23 _ _ rfl b (arr t) hb1 (hI.e1 ha1) 23 _ hb3 (by rw [size23, arr_size]) (by rw [arr_size, arr_size]) (arr_one t) ?_)
      exact { same := (fun k h1 h2 h3 h4 h5 h6 => hI.same k h1 h2 h3 h4 h5 h6),
                size := (hI.size),
                defers := (hI.defers),
                later := (hI.later.row hb2 _),
                e0 := (fun h => hI.e0 (by simpa using h)),
                e1 := (fun h => hI.e1 (by simpa using h)),
                e2 := (fun h => hI.e2 (by simpa using h)),
                e3 := (fun h => hI.e3 (by simpa using h)),
                e4 := (fun h => ⟨b, hb1, hb2, by simpa using hb3.row t⟩),
                e5 := (fun h => by obtain ⟨c, hc1, hc2, hc3⟩ := hI.e5 (by simpa using h); exact ⟨c, hc1, hc2, by simpa using hc3.row_other (hI.apart ha4 (by simpa using h) b c hb1 hc1) _⟩),
                apart := (fun h4 h5 b b' x4 x5 => by exact hI.apart (by simpa using h4) (by simpa using h5) b b' x4 x5),
                f6 := (fun _ => by simpa using ha4),
                f7 := (fun h => by simpa using hI.f7 (by simpa using h)) }
    · have ho2 := ho
      simp only [ttOps, List.getElem?_toArray, Nat.reduceAdd, List.getElem?_cons_zero, List.getElem?_cons_succ, Option.some.injEq] at ho2
      subst ho2
      have ha4 : L 5 = true := ha ⟨5, .data⟩ (by simp) rfl
      have ha1 : L 3 = true := ha ⟨3, .data⟩ (by simp) rfl
      obtain ⟨b, hb1, hb2, hb3⟩ := hI.e5 ha4
      refine wpOp_here ho rfl (wp_store_row (P := Try.prog) 23 _ _ rfl b (arr v) hb1 (hI.e3 ha1) 23 _ hb3 (by rw [size23, arr_size]) (by rw [arr_size, arr_size]) (arr_one v) ?_)
      exact { same := (fun k h1 h2 h3 h4 h5 h6 => hI.same k h1 h2 h3 h4 h5 h6),
                size := (hI.size),
                defers := (hI.defers),
                later := (hI.later.row hb2 _),
                e0 := (fun h => hI.e0 (by simpa using h)),
                e1 := (fun h => hI.e1 (by simpa using h)),
                e2 := (fun h => hI.e2 (by simpa using h)),
                e3 := (fun h => hI.e3 (by simpa using h)),
                e4 := (fun h => by obtain ⟨c, hc1, hc2, hc3⟩ := hI.e4 (by simpa using h); exact ⟨c, hc1, hc2, by simpa using hc3.row_other ((fun e => (hI.apart (by simpa using h) ha4 c b hc1 hb1) e.symm)) _⟩),
                e5 := (fun h => ⟨b, hb1, hb2, by simpa using hb3.row v⟩),
                apart := (fun h4 h5 b b' x4 x5 => by exact hI.apart (by simpa using h4) (by simpa using h5) b b' x4 x5),
                f6 := (fun h => by simpa using hI.f6 (by simpa using h)),
                f7 := (fun _ => by simpa using ha4) }
    · simp only [ttOps, List.size_toArray, List.length_cons, List.length_nil] at hi; omega
  · intro L a w hall hI
    have hA : ∀ i, i < 8 → L i = true := fun i hi => hall i hi
    obtain ⟨b, hb1, hb2, hb3⟩ := hI.e4 (hA 4 (by omega))
    obtain ⟨b', hb1', hb2', hb3'⟩ := hI.e5 (hA 5 (by omega))
    rw [hA 6 (by omega), if_pos rfl] at hb3
    rw [hA 7 (by omega), if_pos rfl] at hb3'
    have ha : a = ((((((a0.put (some l0) (.agg (arr s))).put (some c1) (.agg (arr t))).put (some l2) (.agg (arr u))).put (some c3) (.agg (arr v))).put (some d4) (.pointer (some ⟨b, 0, none⟩))).put (some d5) (.pointer (some ⟨b', 0, none⟩))) := by
      have hz := hI.size
      refine act_ext ?_ (by simp only [put_defers]; exact hI.defers)
      intro k
      by_cases k5 : k = d5
      · subst k5; rw [put_get_same _ (by simp only [put_size]; exact s6)]; exact get_of_eval hb1' (by omega)
      rw [put_get_ne _ (Ne.symm k5)]
      by_cases k4 : k = d4
      · subst k4; rw [put_get_same _ (by simp only [put_size]; exact s5)]; exact get_of_eval hb1 (by omega)
      rw [put_get_ne _ (Ne.symm k4)]
      by_cases k3 : k = c3
      · subst k3; rw [put_get_same _ (by simp only [put_size]; exact s4)]; exact get_of_eval (hI.e3 (hA 3 (by omega))) (by omega)
      rw [put_get_ne _ (Ne.symm k3)]
      by_cases k2 : k = l2
      · subst k2; rw [put_get_same _ (by simp only [put_size]; exact s3)]; exact get_of_eval (hI.e2 (hA 2 (by omega))) (by omega)
      rw [put_get_ne _ (Ne.symm k2)]
      by_cases k1 : k = c1
      · subst k1; rw [put_get_same _ (by simp only [put_size]; exact s2)]; exact get_of_eval (hI.e1 (hA 1 (by omega))) (by omega)
      rw [put_get_ne _ (Ne.symm k1)]
      by_cases k0 : k = l0
      · subst k0; rw [put_get_same _ s1]; exact get_of_eval (hI.e0 (hA 0 (by omega))) (by omega)
      rw [put_get_ne _ (Ne.symm k0)]
      exact hI.same k k0 k1 k2 k3 k4 k5
    rw [ha]
    exact hK b b' w (hI.apart (hA 4 (by omega)) (hA 5 (by omega)) b b' hb1 hb1') hb2 hb2' hb3 hb3' hI.later
end Go.Proofs.Ytmhmnjeimjjipaa
