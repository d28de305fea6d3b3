/-
  The statement LanesCalls is proved: whatever the arguments, the law returns true, and its arguments read afterwards as they did before. No condition.
-/
import Derived.Test.YtmhmnjeimjjipaaRows
import Derived.Test.YtmhmnjeimjjipaaCallsW
import Derived.Test.YtmhmnjeimjjipaaOpens
import Derived.Test.YtmhmnjeimjjipaaFrame
namespace Go.Proofs.Ytmhmnjeimjjipaa.LanesCalls
open Go Go.ChangeShapes Go.WideShapes Go.ChangeAt Go.RowKit Go.Joins
set_option linter.unusedVariables false

theorem own : ownKnob Try.prog.godebug = none := by kernel_rfl
theorem laidOut : laidOutB Try.prog = true := by kernel_rfl
theorem cells22 : Try.prog.cellsOf 22 = 1 := by kernel_rfl
theorem cells23 : Try.prog.cellsOf 23 = 64 := by kernel_rfl
theorem cells38 : Try.prog.cellsOf 38 = 3 := by kernel_rfl

set_option maxRecDepth 100000 in
theorem lifted (os : Os) (started : os.Started) (H : Type) (enc : TypeId × Value → H) :
    ReturnsInHanded {} Try.checked os 6 .any (Rows.lanesCallsSpec.pre6 enc Try.prog Try.f6 Rows.lanesCallsRow.domain false) (Rows.lanesCallsSpec.post enc Try.prog Try.f6 false true false false) := by
  refine returnsInHanded_of_change (C := Try.checked) own started (by kernel_rfl) Try.func6
    (ChangeSpec.witness6 (enc := enc) (C := Try.checked) false ⟨#[], #[.slice none 0 0, .slice none 0 0, .agg #[.int .i64 0, .int .i64 0, .int .u64 0]], []⟩ 8 (by kernel_rfl) (by kernel_rfl) (by kernel_rfl) (by kernel_rfl)) ?_
  intro W base args ds gs before hval0 hW hcnd _
  have hval : ∀ (j : Nat) t v, Try.f6.params[j]? = some t → args[j]? = some v → Value.okWide Try.prog W .any base t v := hval0
  have hW' := hW
  obtain ⟨p, q, hA0, hV, rfl, hfz, hnd⟩ := hW
  have hA : DataW.TrodAll enc Try.prog W 0 (fun _ => true) true Try.f6.params.toList args.toList ds p := hA0
  rw [Try.params6] at hA hval
  obtain ⟨v0, vs0, d0, ds0, p0, q0, hargs, rfl, rfl, h0, r0⟩ := trodAll_cons hA
  obtain ⟨v1, vs1, d1, ds1, p1, q1, rfl, rfl, rfl, h1, r1⟩ := trodAll_cons r0
  obtain ⟨v2, vs2, d2, ds2, p2, q2, rfl, rfl, rfl, h2, r2⟩ := trodAll_cons r1
  obtain ⟨rfl, rfl, rfl⟩ := trodAll_nil r2
  obtain rfl : args = #[v0, v1, v2] := by cases args; simp_all
  obtain ⟨rfl, rfl⟩ := trodVars_none hV
  have k0 := h0
  have lt0 : ∀ x ∈ p0, x.block < W.heap.size := by obtain ⟨m, hm⟩ := k0; exact DataW.trod_lt m _ _ _ hm
  obtain ⟨A0, len0, cap0, f0, rfl, hN0, hsp0, hlc0, hcm0, hfb0⟩ := slice_open Try.underlying29 Try.underlying22 cells22 (hval 0 29 v0 rfl rfl) h0
  have k1 := h1
  have lt1 : ∀ x ∈ p1, x.block < W.heap.size := by obtain ⟨m, hm⟩ := k1; exact DataW.trod_lt m _ _ _ hm
  obtain ⟨A1, len1, cap1, f1, rfl, hN1, hsp1, hlc1, hcm1, hfb1⟩ := slice_open Try.underlying29 Try.underlying22 cells22 (hval 1 29 v1 rfl rfl) h1
  have k2 := h2
  have lt2 : ∀ x ∈ p2, x.block < W.heap.size := by obtain ⟨m, hm⟩ := k2; exact DataW.trod_lt m _ _ _ hm
  obtain ⟨c20, c21, c22, y20, y21, y22, m2, rfl, _, _, hy20, hy21, hy22⟩ := open_agg3 Try.underlying38 (by kernel_rfl) cells38 (hval 2 38 v2 rfl rfl) h2
  obtain ⟨n20, e20, _, wn20⟩ := DataW.trod_int Try.underlying3 hy20
  obtain ⟨n21, e21, _, wn21⟩ := DataW.trod_int Try.underlying3 hy21
  obtain ⟨n22, e22, _, wn22⟩ := DataW.trod_int Try.underlying22 hy22
  simp only [List.cons.injEq, and_true] at e20 e21 e22
  subst e20 e21 e22
  have wb20 := bounds_i64 wn20
  have wb21 := bounds_i64 wn21
  have wb22 := bounds_u64 wn22
  clear hA0 hval0
  refine (calls_walk A0 A1 len0 cap0 len1 cap1 f0 f1 n20 n21 n22 W hN0 hN1 hsp0 hsp1 hlc0 hlc1 hcm0 hcm1 hfb0 hfb1 (by omega)).mono fun e W' ⟨he, hl⟩ => ?_
  subst he
  have bel := hl.below
  exact ⟨_, rfl, _, _, _, [], _, [], hW', trodAll_mk1 (shut_bool Try.underlying4 _), (trodAll_cons_mk (Below.trod laidOut (by kernel_rfl) (of_decide_eq_true (by kernel_rfl)) k0 bel lt0) (trodAll_cons_mk (Below.trod laidOut (by kernel_rfl) (of_decide_eq_true (by kernel_rfl)) k1 bel lt1) (trodAll_cons_mk (Below.trod laidOut (by kernel_rfl) (of_decide_eq_true (by kernel_rfl)) k2 bel lt2) trodAll_mk0))), rfl, bel.frame _, fun h => by cases h⟩

theorem over : Rows.lanesCallsRow.holds Try.pinned (OpenSpec.ofChange Rows.lanesCallsSpec) :=
  OpenClaim.holds_of_wide 6 Try.f6 rfl rfl rfl rfl rfl rfl rfl ⟨rfl, rfl, rfl, rfl, rfl⟩ rfl rfl rfl rfl rfl (by kernel_rfl) Try.func6 (by kernel_rfl)
    (of_decide_eq_true (by kernel_rfl)) (by unfold Func.isWrapper; first | (rw [if_pos (by decide +kernel)]; kernel_rfl) | (rw [if_neg (by decide +kernel)]; exact ⟨rfl, rfl⟩))
    (fun os started H enc _ => lifted os started H enc)

/-- The statement. -/
theorem proved : Rows.LanesCallsSaid := over
#print axioms proved
end Go.Proofs.Ytmhmnjeimjjipaa.LanesCalls
