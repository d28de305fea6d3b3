/-
  No statement of the seat is proved here. The walk of the law LanesTurn.
-/
import Derived.Test.YtmhmnjeimjjipaaTwoT
import Derived.Test.YtmhmnjeimjjipaaPlainT
import Derived.Deep.CutBlock
import Derived.Deep.RegionWith
namespace Go.Proofs.Ytmhmnjeimjjipaa
open Go Go.RowKit
set_option linter.unusedVariables false
namespace Ln
/-- One step of a row that is being written. -/
theorem step_row {F h : Nat → Int} {k : Nat} (hP : ∀ c, c < 64 → h c = if c < k then F c else 0) {x : Int} (hx : x = F k) (c : Nat) (hc : c < 64) : (if c = k then x else h c) = if c < k + 1 then F c else 0 := by
  by_cases e : c = k
  · subst e; rw [if_pos rfl, if_pos (by omega)]; exact hx
  · rw [if_neg e, hP c hc]
    by_cases e2 : c < k
    · rw [if_pos e2, if_pos (by omega)]
    · rw [if_neg e2, if_neg (by omega)]
end Ln
set_option maxRecDepth 100000 in
set_option maxHeartbeats 4000000 in
theorem turn_walk (s u : Nat → Int) (hs : ∀ i, i < 64 → 0 ≤ s i ∧ s i < 18446744073709551616) (hu : ∀ i, i < 64 → 0 ≤ u i ∧ u i < 18446744073709551616) (a b : Int) (ha : 0 ≤ a ∧ a < 256) (hb : 0 ≤ b ∧ b < 256) (w : World) :
    Calls Try.prog 4 #[.agg (arr s), .agg (arr u), .agg #[.int .u8 a, .int .u8 b]] w (Ret w (.bool true)) := by
  obtain ⟨t, hT⟩ : ∃ T, Ln.trn s = T := ⟨_, rfl⟩
  obtain ⟨v, hV⟩ : ∃ T, Ln.trn u = T := ⟨_, rfl⟩
  have H1 : ∀ w, Calls Try.prog 9 #[.agg (arr s)] w (Ret w (.agg (arr t))) := fun w => hT ▸ turn_any s hs w
  have H2 : ∀ w, Calls Try.prog 9 #[.agg (arr u)] w (Ret w (.agg (arr v))) := fun w => hV ▸ turn_any u hu w
  have HS := Lib.hid hs
  have HU := Lib.hid hu
  have HT := Lib.hid hT
  have HV := Lib.hid hV
  clear hs hu hT hV
  obtain ⟨ni, hni⟩ := Int.eq_ofNat_of_zero_le (show 0 ≤ a % 64 by omega)
  obtain ⟨nj, hnj⟩ := Int.eq_ofNat_of_zero_le (show 0 ≤ b % 64 by omega)
  have li : ni < 64 := by omega
  have lj : nj < 64 := by omega
  go_enter Try.func4, Try.ntmps4
  go_upto_region 1 with fail
  have q3 : Sq (((w.alloc (.cells (arr s) 23)).alloc (.cells (arr u) 23)).alloc (.cells #[.int .u8 a, .int .u8 b] 27)) w.heap.size s := ((Sq.new w s).old _).old _
  have q4 : Sq (((w.alloc (.cells (arr s) 23)).alloc (.cells (arr u) 23)).alloc (.cells #[.int .u8 a, .int .u8 b] 27)) (w.heap.size + 1) u := by
    have := (Sq.new (w.alloc (.cells (arr s) 23)) u).old (.cells #[.int .u8 a, .int .u8 b] 27)
    simpa using this
  refine two_turns (ps := "outright.go:14") (p := 3) (q := 4) (l0 := 17) (c1 := 18) (l2 := 19) (c3 := 20) (d4 := 7) (d5 := 8) (bp := w.heap.size) (bq := w.heap.size + 1) (by omega) (by omega) (by omega) (by simp) rfl rfl q3 q4 H1 H2 ?_
  intro b7 b8 w1 hne hg7 hg8 q7 q8 hl1
  have qs : Sq w1 w.heap.size s := q3.later hl1
  have qu : Sq w1 (w.heap.size + 1) u := q4.later hl1
  have c0 : w1.cell? ⟨w.heap.size + 1 + 1, 0, none⟩ = some (.int .u8 a) := by
    have := cell_later (w := (w.alloc (.cells (arr s) 23)).alloc (.cells (arr u) 23)) hl1 0 _ rfl
    simpa using this
  have c1 : w1.cell? ⟨w.heap.size + 1 + 1, 1, none⟩ = some (.int .u8 b) := by
    have := cell_later (w := (w.alloc (.cells (arr s) 23)).alloc (.cells (arr u) 23)) hl1 1 _ rfl
    simpa using this
  have hL := (((Later.refl w).alloc (.cells (arr s) 23)).alloc (.cells (arr u) 23)).alloc (.cells #[.int .u8 a, .int .u8 b] 27) |>.trans hl1
  have lt5 : w.heap.size + 1 + 1 < w1.heap.size := by have := hl1.below.size; simp at this; omega
  clear q3 q4 hl1
  simp only [Act.put, List.setIfInBounds_toArray, List.set_cons_zero, List.set_cons_succ]
  go_wp2_with fail
  refine wp_region_later (by kernel_rfl) (by kernel_rfl) ?_
  repeat (go_big_quiet_step (fail))
  refine wpQuiet_nil ?_
  rintro _ ⟨g, rfl⟩
  go_wp2_with fail
  have q11 : Sq (((more w1 g).alloc (.cells (arr fun _ => 0) 23)).alloc (.cells (arr fun _ => 0) 23)) (w1.heap.size + g.size) (fun _ => 0) := by
    have := (Sq.new (more w1 g) (fun _ => 0)).old (.cells (arr fun _ => 0) 23)
    simpa using this
  have q12 : Sq (((more w1 g).alloc (.cells (arr fun _ => 0) 23)).alloc (.cells (arr fun _ => 0) 23)) (w1.heap.size + g.size + 1) (fun _ => 0) := by
    have := Sq.new ((more w1 g).alloc (.cells (arr fun _ => 0) 23)) (fun _ => 0)
    simpa using this
  have hl2 : Later w1 (((more w1 g).alloc (.cells (arr fun _ => 0) 23)).alloc (.cells (arr fun _ => 0) 23)) := (((Later.refl w1).more g).alloc _).alloc _
  have hb11 : w1.heap.size ≤ w1.heap.size + g.size := by omega
  generalize (((more w1 g).alloc (.cells (arr fun _ => 0) 23)).alloc (.cells (arr fun _ => 0) 23)) = w2 at *
  generalize w1.heap.size + g.size = b11 at *
  have QS := Lib.hid qs
  have QU := Lib.hid qu
  have Q7 := Lib.hid q7
  have Q8 := Lib.hid q8
  have Q11 := Lib.hid q11
  have Q12 := Lib.hid q12
  have HL2 := Lib.hid hl2
  clear qs qu q7 q8 q11 q12 hl2 c0 c1 lt5 hni hnj
  go_loopw [13, 29] (fun _ i wr => ∃ (k : Nat) (h1 h2 : Nat → Int), k ≤ 64 ∧ i = .int .i64 k ∧ Hid (∀ c, c < 64 → h1 c = if c < k then bits BinOp.and IntKind.u64 (s c) (u c) else 0) ∧ Hid (∀ c, c < 64 → h2 c = if c < k then Ln.notI (s c) else 0) ∧ Hid (Sq wr b11 h1) ∧ Hid (Sq wr (b11 + 1) h2) ∧ Hid (Later w1 wr)) (fun _ i _ => 64 - (intOf i).toNat)
  case atStart => exact ⟨0, _, _, by omega, rfl, Lib.hid (fun c hc => by simp), Lib.hid (fun c hc => by simp), Q11, Q12, HL2⟩
  case round =>
    obtain ⟨k, h1, h2, hk, rfl, hP1, hP2, hS1, hS2, hLw⟩ := hrel
    by_cases hlt : k < 64
    · have cs := (QS.out.later hLw.out).cell hlt
      have cu := (QU.out.later hLw.out).cell hlt
      have x1 := hS1.out.cell hlt
      have x2 := hS2.out.cell hlt
      have f1 := hS1.out.fro k
      have f2 := hS2.out.fro k
      have bs := HS.out k hlt
      have bu := HU.out k hlt
      generalize hsk : s k = sk at *
      generalize huk : u k = uk at *
      have Hsk := Lib.hid hsk
      have Huk := Lib.hid huk
      clear hsk huk
      have hbs := QS.out.lt
      have hbu := QU.out.lt
      have m1 : ¬ b11 = w.heap.size := by omega
      have m2 : ¬ w.heap.size = b11 := by omega
      have m3 : ¬ b11 = w.heap.size + 1 := by omega
      have m4 : ¬ w.heap.size + 1 = b11 := by omega
      have m5 : ¬ b11 + 1 = w.heap.size := by omega
      have m6 : ¬ w.heap.size = b11 + 1 := by omega
      have m7 : ¬ b11 = w.heap.size := by omega
      clear hbs hbu
      go_upto_region 7 with fail
      go_region_with (fail)
      all_goals
        clear cs cu x1 x2 f1 f2 bs bu m1 m2 m3 m4 m5 m6 m7
        go_wp2_with fail
        go_roundw
        case rel =>
          exact ⟨k + 1, _, _, by omega, by go_num, Lib.hid (fun c hc => Ln.step_row hP1.out (by rw [Hsk.out, Huk.out]) c hc), Lib.hid (fun c hc => Ln.step_row hP2.out (by rw [Hsk.out]; rfl) c hc),
            Lib.hid (((hS1.out.set hlt _).other (by simp) _).later ((Later.refl _).drew)), Lib.hid (((hS2.out.other (by simp) _).set hlt _).later ((Later.refl _).drew)), Lib.hid (((hLw.out.setCell hb11 _).setCell (by simp; omega) _).drew)⟩
        case measure => simp [intOf]; omega
    · obtain rfl : k = 64 := by omega
      have eT1 : ∀ m, Ln.trn h1 m = bits BinOp.and IntKind.u64 (t m) (v m) := fun m => by rw [← HT.out, ← HV.out]; exact Ln.trn_and HS.out HU.out (fun c hc => by rw [hP1.out c hc, if_pos hc]) m
      have eT2 : ∀ m, m < 64 → Ln.trn h2 m = Ln.notI (t m) := fun m hm => by rw [← HT.out]; exact Ln.trn_not HS.out (fun c hc => by rw [hP2.out c hc, if_pos hc]) m hm
      have H3 : ∀ w, Calls Try.prog 9 #[.agg (arr h1)] w (Ret w (.agg (arr fun m => bits BinOp.and IntKind.u64 (t m) (v m)))) := fun w => by
        rw [← arr_congr (fun i _ => eT1 i)]
        exact turn_any h1 (fun i hi => by rw [hP1.out i hi, if_pos hi]; have := Ln.and_bd (HS.out i hi).1 (HS.out i hi).2 (HU.out i hi).1 (HU.out i hi).2; exact ⟨this.1, this.2.1⟩) w
      have H4 : ∀ w, Calls Try.prog 9 #[.agg (arr h2)] w (Ret w (.agg (arr fun m => Ln.notI (t m)))) := fun w => by
        rw [← arr_congr (fun i hi => eT2 i hi)]
        exact turn_any h2 (fun i hi => by rw [hP2.out i hi, if_pos hi]; have := Ln.not_bd (HS.out i hi).1 (HS.out i hi).2; exact ⟨this.1, this.2.1⟩) w
      clear eT1 eT2 hP1 hP2
      have H3' := Lib.hid H3
      have H4' := Lib.hid H4
      clear H3 H4
      go_upto_region 9 with fail
      refine two_turns (ps := "outright.go:20") (p := 11) (q := 12) (l0 := 48) (c1 := 49) (l2 := 50) (c3 := 51) (d4 := 14) (d5 := 15) (bp := b11) (bq := b11 + 1) (by omega) (by omega) (by omega) (by simp) rfl rfl hS1.out hS2.out H3'.out H4'.out ?_
      intro b14 b15 w2 hne2 hg14 hg15 q14 q15 hl3
      have hl4 : Later w1 w2 := hLw.out.trans hl3
      have QS2 := Lib.hid (QS.out.later hl4)
      have Q72 := Lib.hid (Q7.out.later hl4)
      have Q82 := Lib.hid (Q8.out.later hl4)
      have Q142 := Lib.hid q14
      have Q152 := Lib.hid q15
      have HL := Lib.hid (hL.trans hl4)
      have Hne := Lib.hid hne
      have hts : ∀ i, i < 64 → 0 ≤ t i ∧ t i < 18446744073709551616 := fun i _ => by rw [← HT.out]; exact Ln.trn_bd s i
      have htt : arr (Ln.trn t) = arr s := arr_congr fun i hi => by rw [← HT.out]; exact Ln.trn_trn HS.out i hi
      have H5 : ∀ w, Calls Try.prog 9 #[.agg (arr t)] w (Ret w (.agg (arr s))) := fun w => by rw [← htt]; exact turn_any t hts w
      have H5' := Lib.hid H5
      have hbit : Ln.bitI (t nj) ni = Ln.bitI (s ni) nj := by rw [← HT.out]; exact Ln.bit_trn HS.out ni nj li lj
      have Hbit := Lib.hid hbit
      have Hts := Lib.hid hts
      clear hts htt H5 hbit hl4 hL q14 q15 hl3 hne hne2 hS1 hS2 hLw QS QU Q7 Q8 Q11 Q12 HL2 hg7 hg8 hg14 hg15 hb11
      simp only [Act.put, List.setIfInBounds_toArray, List.set_cons_zero, List.set_cons_succ]
      go_wp2_with fail
      go_loopw [16, 52] (fun _ i wr => ∃ (k : Nat) (g : Grow), k ≤ 64 ∧ i = .int .i64 k ∧ wr = more w2 g) (fun _ i _ => 64 - (intOf i).toNat)
      case atStart => exact ⟨0, ⟨#[], w2.drawn⟩, by omega, rfl, by simp [more]⟩
      case round =>
        obtain ⟨k, g2, hk, rfl, rfl⟩ := hrel
        by_cases hlt : k < 64
        · have c14 := Q142.out.cell hlt
          have c15 := Q152.out.cell hlt
          have c7 := Q72.out.cell hlt
          have c8 := Q82.out.cell hlt
          have l14 := Q142.out.lt
          have l15 := Q152.out.lt
          have l7 := Q72.out.lt
          have l8 := Q82.out.lt
          simp only [Ln.notI] at c14 c15
          generalize t k = tk at *
          generalize v k = vk at *
          go_wp2_with fail
          refine wp_region_more (by kernel_rfl) (by kernel_rfl) ?_
          repeat (go_big_quiet_step (fail))
          refine wpQuiet_nil ?_
          rintro _ ⟨g3, rfl⟩
          go_wp2_with fail
          go_roundw
          case rel => exact ⟨k + 1, _, by omega, by go_num, rfl⟩
          case measure => simp [intOf]; omega
        · obtain rfl : k = 64 := by omega
          have c7 := Q72.out.cell lj
          have cs := QS2.out.cell li
          have l7 := Q72.out.lt
          have ls := QS2.out.lt
          have b7c := Q72.out.block
          have bsc := QS2.out.block
          have bt := Hts.out nj lj
          have bs := HS.out ni li
          have hbe : (bits BinOp.and IntKind.u64 (t nj / 2 ^ ni) 1 == bits BinOp.and IntKind.u64 (s ni / 2 ^ nj) 1) = true := by rw [beq_iff_eq]; exact Hbit.out
          go_wp2_with fail
          refine wp_region_more (by kernel_rfl) (by kernel_rfl) ?_
          repeat (go_big_quiet_step (first | (go_at_call 9; with_reducible exact quiet_of (H5'.out _)) | (go_at_call 11; with_reducible exact quiet_of (wakes_ok _))))
          refine wpQuiet_nil ?_
          rintro _ ⟨g3, rfl⟩
          go_wp2_with fail
          go_ret
          exact Ret.mk (HL.out.more _)
end Go.Proofs.Ytmhmnjeimjjipaa
