/-
  No statement of the seat is proved here. The contract of lanes.Turn, for every square.
-/
import Derived.Test.YtmhmnjeimjjipaaArr
import Derived.Test.YtmhmnjeimjjipaaPlain
namespace Go.Proofs.Ytmhmnjeimjjipaa
open Go Go.RowKit
set_option linter.unusedVariables false

/-- The world while a square is turned. -/
def W2 (w : World) (h : Nat → Int) : World := (w.alloc (.cells (arr h) 23)).alloc (.cells (arr fun _ => 0) 23)
set_option maxHeartbeats 4000000 in
theorem turn_any (f : Nat → Int) (hf : ∀ i, i < 64 → 0 ≤ f i ∧ f i < 18446744073709551616) (w : World) : Calls Try.prog 9 #[.agg (arr f)] w (Ret w (.agg (arr (Ln.trn f)))) := by
  have D0 := Lib.hid (Ln.done_zero hf)
  clear hf
  go_enter Try.func9, Try.ntmps9
  go_wp2_with fail
  go_loopw [3, 4] (fun mk st wr => ∃ (e : Nat) (h : Nat → Int) (g : Grow), e ≤ 6 ∧ mk = .int .u64 (Ln.msk e) ∧ st = .int .i64 (Ln.stp e) ∧ Hid (Ln.Done f e h) ∧ wr = more ((w.alloc (.cells (arr h) 23)).alloc (.cells (arr fun _ => 0) 23)) g) (fun _ st _ => (intOf st).toNat)
  case atStart => exact ⟨0, f, ⟨#[], _⟩, by omega, rfl, rfl, D0, by simp [more]; rfl⟩
  case round =>
    obtain ⟨e, h, g, he, rfl, rfl, hD, rfl⟩ := hrel
    by_cases hlt : e < 6
    · have hs := Ln.stp_bd e hlt
      have hs1 := hs.1
      have hs2 := hs.2
      have HMN := Lib.hid (Ln.msk_next e hlt)
      have HSN := Lib.hid (Ln.stp_next e hlt)
      have HA := Lib.hid (Ln.and_step e hlt)
      have HO := Lib.hid (Ln.or_step e hlt)
      have HN := Lib.hid (Ln.stn_cases e hlt)
      clear hs
      go_wp2_with fail
      go_loopw [5] (fun i wr => ∃ (k : Nat) (h' : Nat → Int) (g : Grow), k ≤ 64 ∧ i = .int .i64 k ∧ Hid (∀ m, m < 64 → h' m = Ln.part e h k m) ∧ wr = more ((w.alloc (.cells (arr h') 23)).alloc (.cells (arr fun _ => 0) 23)) g) (fun i _ => 64 - (intOf i).toNat)
      case atStart => exact ⟨0, h, g, by omega, rfl, Lib.hid (fun m _ => (Ln.part_zero e h m).symm), rfl⟩
      case round =>
        obtain ⟨k, h', g, hk, rfl, hP, rfl⟩ := hrel
        by_cases hk64 : k < 64
        · by_cases hb : k / Ln.stn e % 2 = 1
          · have ht : (bits BinOp.and IntKind.i64 (k : Int) (Ln.stp e) != 0) = true := by rw [HA.out k hk64]; simp [hb]
            have HB := Lib.hid hb
            clear hb
            go_wp2_with fail
            go_roundw
            case rel => exact ⟨k + 1, h', _, by omega, by go_num, Lib.hid (fun m hm => by rw [Ln.part_skip hlt HB.out]; exact hP.out m hm), rfl⟩
            case measure => simp [intOf]; omega
          · have ht : (bits BinOp.and IntKind.i64 (k : Int) (Ln.stp e) != 0) = false := by rw [HA.out k hk64]; simp [hb]
            have h0 : k / Ln.stn e % 2 = 0 := by omega
            have hor := HO.out k hk64 h0
            have hk2 : k + Ln.stn e < 64 := by rcases HN.out with h | h | h | h | h | h <;> rw [h] at h0 ⊢ <;> omega
            have HB := Lib.hid h0
            clear hb h0
            go_wp2_with fail
            refine wp_region_more (by kernel_rfl) (by kernel_rfl) ?_
            repeat (go_big_quiet_step (fail))
            refine wpQuiet_nil ?_
            rintro _ ⟨g, rfl⟩
            go_wp2_with fail
            go_roundw
            case rel => exact ⟨k + 1, _, _, by omega, by go_num, Lib.hid (fun m hm => Ln.part_do hlt hk64 HB.out hP.out m hm), rfl⟩
            case measure => simp [intOf]; omega
        · obtain rfl : k = 64 := by omega
          have HD := Lib.hid (Ln.done_next hlt hD.out (h' := h') (fun m hm => by rw [hP.out m hm, Ln.part_all hm]))
          clear hP
          go_wp2_with fail
          go_roundw
          case rel => exact ⟨e + 1, h', _, by omega, by rw [HMN.out], by rw [HSN.out], HD, rfl⟩
          case measure => simp [intOf]; omega
    · obtain rfl : e = 6 := by omega
      have hst : Ln.stp 6 = 0 := rfl
      have HR := Lib.hid (arr_congr (fun m hm => Ln.done_all hD.out m hm))
      set_option maxRecDepth 8000 in
      go_wp2_with fail
      refine bodyPost_ret (results_cell_row rfl _ _ (w.heap.size + 1) 23 (arr h) (0, 0) _ rfl ?_ row23 rfl (by rw [size23, arr_size])) rfl (Ret.mk' (congrArg Value.agg HR.out) ((((Later.refl _).alloc _).alloc _).more _))
      rw [more_heap_lt _ _ _ (by simp)]
      exact heap_alloc2_new _ _ _
end Go.Proofs.Ytmhmnjeimjjipaa
