/-
  No statement of the seat is proved here. The walk of WordRing, whatever its arguments.
-/
import Derived.Test.YtihnemlnnjdagaaAll
import Derived.Test.YtihnemlnnjdagaaPlain5
namespace Go.Proofs.Ytihnemlnnjdagaa
open Go Go.RowKit
set_option linter.unusedVariables false

theorem all_any {b s : Bool} {n op : Int} (hm : Wd.may b s n = true) (hop : op = 1 ∨ op = 2 ∨ op = 3 ∨ b = false ∧ (op = 4 ∨ op = 6)) (A : Option Addr) (l : List Int) (cap : Nat) (w : World) (hl : l.length ≤ 9223372036854775807) (hn : Nums w A l) (hb : ∀ k, 0 ≤ l.getD k 0 ∧ l.getD k 0 < 18446744073709551616) :
    Calls Try.prog 19 #[.int .i64 op, .agg #[.bool b, .bool s, .int .i64 n], .slice A l.length cap] w (Ret w (.tuple #[.int .u64 (Wd.allF b s n op (Wd.allI n op) l).1, .int .i64 (Wd.allF b s n op (Wd.allI n op) l).2])) := by
  rcases hop with rfl | rfl | rfl | ⟨rfl, rfl | rfl⟩
  · exact all_1 b s n hm A l cap w hl hn hb
  · exact all_2 b s n hm A l cap w hl hn hb
  · exact all_3 b s n hm A l cap w hl hn hb
  · exact all_4 s n hm A l cap w hl hn hb
  · exact all_6 s n hm A l cap w hl hn hb

/-- All of three words in a row that was just made. -/
theorem all_three {s : Bool} {n op a b c Y : Int} (hm : Wd.may false s n = true) (hop : op = 1 ∨ op = 2 ∨ op = 3 ∨ op = 4 ∨ op = 6) (ha0 : 0 ≤ a) (hA : Wd.isw false s n a = true) (hb0 : 0 ≤ b) (hB : Wd.isw false s n b = true) (hc0 : 0 ≤ c) (hC : Wd.isw false s n c = true)
    (hY : Wd.twoV s n op (Wd.twoV s n op a b) c = Y) (bl cap : Nat) (w : World) (hbl : bl < w.heap.size) (h0 : w.cell? ⟨bl, 0, none⟩ = some (.int .u64 a)) (h1 : w.cell? ⟨bl, 1, none⟩ = some (.int .u64 b)) (h2 : w.cell? ⟨bl, 2, none⟩ = some (.int .u64 c)) :
    Calls Try.prog 19 #[.int .i64 op, .agg #[.bool false, .bool s, .int .i64 n], .slice (some ⟨bl, 0, none⟩) 3 cap] w (Ret w (.tuple #[.int .u64 Y, .int .i64 0])) := by
  obtain ⟨n1, n2⟩ := Wd.may_bd hm
  have hl := Wd.pw_le n2
  have ha' := Wd.isw_lt hA
  have hb' := Wd.isw_lt hB
  have hc' := Wd.isw_lt hC
  have e : Wd.allF false s n op (Wd.allI n op) [a, b, c] = (Y, 0) := by
    simp only [Wd.allF, hA, hB, hC, cond_true]
    rw [Wd.two_init n1 ha0 ha' hop, hY]
  have h := all_any (b := false) (s := s) (n := n) (op := op) hm (by rcases hop with h | h | h | h | h <;> simp [h]) (some ⟨bl, 0, none⟩) [a, b, c] cap w (by simp) (by
    intro k hk
    refine ⟨bl, 0, rfl, hbl, ?_⟩
    match k, hk with
    | 0, _ => exact h0
    | 1, _ => exact h1
    | 2, _ => exact h2) (by
    intro k
    match k with
    | 0 => simp; omega
    | 1 => simp; omega
    | 2 => simp; omega
    | k + 3 => simp)
  rw [e] at h
  exact h

theorem one_is {s : Bool} {n op x v : Int} (h0 : 0 ≤ x) (hx : Wd.isw false s n x = true) (hop : op = 1 ∨ op = 2) (hv : Wd.oneV n op x = v) (w : World) :
    Calls Try.prog 21 #[.int .i64 op, .agg #[.bool false, .bool s, .int .i64 n], .int .u64 x] w (Ret w (.tuple #[.int .u64 v, .int .i64 0])) := by
  subst hv
  rcases hop with rfl | rfl
  · exact one_not false s n x h0 hx w
  · exact one_neg s n x h0 hx w
theorem okOp_ring {op : Int} (h : op = 1 ∨ op = 2 ∨ op = 3 ∨ op = 4 ∨ op = 6) : Wd.okOp false op = true := by
  rcases h with rfl | rfl | rfl | rfl | rfl <;> rfl
theorem more_alloc_more (w : World) (g h : Grow) (o : Obj) : more ((more w g).alloc o) h = more w ((⟨g.xs.push o, g.n⟩ : Grow).join h) := by
  simp [more, World.alloc, Grow.join, Array.append_assoc]

set_option maxRecDepth 100000 in
set_option maxHeartbeats 4000000 in
theorem ring_walk_of (bo s : Bool) (n a b c N A B C NEG NA NB AB BOTH ONE SB T S1 M1 M2 : Int) (ha : 0 ≤ a) (hax : a < 18446744073709551616) (hb : 0 ≤ b) (hbx : b < 18446744073709551616) (hc : 0 ≤ c) (hcx : c < 18446744073709551616)
    (hN : 1 + n % 64 = N) (hm : Wd.may false s N = true) (eA : Wd.cut N a = A) (eB : Wd.cut N b = B) (eC : Wd.cut N c = C) (ha0 : 0 ≤ A) (hA : Wd.isw false s N A = true) (hb0 : 0 ≤ B) (hB : Wd.isw false s N B = true) (hc0 : 0 ≤ C) (hC : Wd.isw false s N C = true)
    (hAx : A < 18446744073709551616) (hBx : B < 18446744073709551616) (hCx : C < 18446744073709551616)
    (hround : ∀ op : Int, op = 1 ∨ op = 2 ∨ op = 3 ∨ op = 4 ∨ op = 6 → ∃ X Y Z : Int, Wd.twoV s N op A B = X ∧ Wd.twoV s N op B A = X ∧ 0 ≤ X ∧ X < 18446744073709551616 ∧ Wd.isw false s N X = true ∧ Wd.twoV s N op X C = Y ∧ Wd.twoV s N op B C = Z ∧ 0 ≤ Z ∧ Wd.isw false s N Z = true ∧ Wd.twoV s N op A Z = Y ∧ Wd.twoV s N op (Wd.twoV s N op A B) C = Y)
    (eNEG : Wd.oneV N 2 A = NEG) (eNA : Wd.oneV N 1 A = NA) (eNB : Wd.oneV N 1 B = NB) (eAB : Wd.twoV s N 1 A B = AB) (eBOTH : Wd.oneV N 1 AB = BOTH) (eONE : Wd.cut N 1 = ONE)
    (hng0 : 0 ≤ NEG) (hNG : Wd.isw false s N NEG = true) (hna0 : 0 ≤ NA) (hNA : Wd.isw false s N NA = true) (hnb0 : 0 ≤ NB) (hNB : Wd.isw false s N NB = true) (hab0 : 0 ≤ AB) (hAB : Wd.isw false s N AB = true) (h10 : 0 ≤ ONE) (h1 : Wd.isw false s N ONE = true)
    (hz : Wd.isw false s N 0 = true)
    (f1 : Wd.twoV s N 5 A B = SB) (hsb0 : 0 ≤ SB) (hSB : Wd.isw false s N SB = true) (f2 : Wd.twoV s N 4 SB B = A) (f3 : Wd.twoV s N 5 0 A = NEG) (f4 : Wd.twoV s N 4 A NEG = 0)
    (f5 : Wd.twoV s N 4 B C = S1) (hs10 : 0 ≤ S1) (hS1 : Wd.isw false s N S1 = true) (f6 : Wd.twoV s N 6 A S1 = T) (f7 : Wd.twoV s N 6 A B = M1) (hm10 : 0 ≤ M1) (hM1 : Wd.isw false s N M1 = true) (f8 : Wd.twoV s N 6 A C = M2) (hm20 : 0 ≤ M2) (hM2 : Wd.isw false s N M2 = true) (f9 : Wd.twoV s N 4 M1 M2 = T)
    (f10 : Wd.twoV s N 6 A ONE = A) (f11 : Wd.twoV s N 2 NA NB = BOTH) (f12 : Wd.twoV s N 4 NA ONE = NEG) (w : World) :
    Calls Try.prog 7 #[.agg #[.bool bo, .bool s, .int .i64 n], .agg #[.int .u64 a, .int .u64 b, .int .u64 c]] w (Ret w (.bool true)) := by
  have HN := Lib.hid hN
  have HR := Lib.hid hround
  clear hN hround
  go_enter Try.func7, Try.ntmps7
  go_wp2_with (go_at_call 9; refine (made_is HN.out _).mono ?_; rintro e w' ⟨rfl, g, rfl⟩)
  refine wp_region_more (by kernel_rfl) (by kernel_rfl) ?_
  repeat (go_big_quiet_step (first | (go_at_call 10; with_reducible exact quiet_of (cut_is hm ha hax eA _)) | (go_at_call 10; with_reducible exact quiet_of (cut_is hm hb hbx eB _)) | (go_at_call 10; with_reducible exact quiet_of (cut_is hm hc hcx eC _))))
  refine wpQuiet_nil ?_
  rintro _ ⟨g, rfl⟩
  go_wp2_with (first | (go_at_call 12; refine (wakes_any _).mono ?_; rintro e w' ⟨rfl, g, rfl⟩) | (go_at_call 17; (with_reducible refine (is_is ha0 hAx hA _).mono ?_); rintro e w' ⟨rfl, g, rfl⟩) | (go_at_call 17; (with_reducible refine (is_is hb0 hBx hB _).mono ?_); rintro e w' ⟨rfl, g, rfl⟩) | (go_at_call 17; (with_reducible refine (is_is hc0 hCx hC _).mono ?_); rintro e w' ⟨rfl, g, rfl⟩))
  go_loopw [8] (fun i wr => ∃ (op : Int) (g : Grow), 1 ≤ op ∧ op ≤ 7 ∧ i = .int .i64 op ∧ wr = more ((w.alloc (.cells #[.bool false, .bool s, .int .i64 N] 23)).alloc (.cells #[.int .u64 a, .int .u64 b, .int .u64 c] 25)) g) (fun i _ => (7 - intOf i).toNat)
  case atStart => exact ⟨1, _, by omega, by omega, rfl, rfl⟩
  case round =>
    obtain ⟨op, g, o1, o7, rfl, rfl⟩ := hrel
    by_cases hlt : op ≤ 6
    · by_cases h5 : op = 5
      · have h5b : (op == 5) = true := by simp [h5]
        clear h5
        go_wp2_with fail
        go_roundw
        case rel => exact ⟨op + 1, _, by omega, by omega, rfl, rfl⟩
        case measure => simp [intOf]; omega
      · have h5b : (op == 5) = false := by simp [h5]
        obtain ⟨X, Y, Z, e1, e2, hX0, hXx, hX, e3, e4, hZ0, hZ, e5, e6⟩ := HR.out op (by omega)
        have hok := okOp_ring (op := op) (by omega)
        have hopc : Hid (op = 1 ∨ op = 2 ∨ op = 3 ∨ op = 4 ∨ op = 6) := Lib.hid (by omega)
        clear h5
        go_wp2_with (first | (go_at_call 11; (with_reducible refine (two2_is ha0 hA hb0 hB hok e1 _).mono ?_); rintro e w' ⟨rfl, g, rfl⟩))
        refine wp_region_more (by kernel_rfl) (by kernel_rfl) ?_
        repeat (go_big_quiet_step (first | (go_at_call 17; with_reducible exact quiet_of (is_is hX0 hXx hX _)) | (go_at_call 11; with_reducible exact quiet_of (two2_is hb0 hB ha0 hA hok e2 _)) | (go_at_call 11; with_reducible exact quiet_of (two2_is hX0 hX hc0 hC hok e3 _)) | (go_at_call 11; with_reducible exact quiet_of (two2_is hb0 hB hc0 hC hok e4 _)) | (go_at_call 11; with_reducible exact quiet_of (two2_is ha0 hA hZ0 hZ hok e5 _))))
        refine wpQuiet_nil ?_
        rintro _ ⟨g, rfl⟩
        go_wp2_with fail
        refine (all_three hm hopc.out ha0 hA hb0 hB hc0 hC e6 _ _ _ (by simp) (World.cell?_alloc_at _ _ _ _ (by simp)) (World.cell?_alloc_at _ _ _ _ (by simp)) (World.cell?_alloc_at _ _ _ _ (by simp))).mono ?_
        rintro e w' ⟨rfl, g', rfl⟩
        rw [more_alloc_more]
        go_wp2_with (first | (go_at_call 11; (with_reducible refine (two2_is hX0 hX hc0 hC hok e3 _).mono ?_); rintro e w' ⟨rfl, g, rfl⟩))
        go_roundw
        case rel => exact ⟨op + 1, _, by omega, by omega, rfl, rfl⟩
        case measure => simp [intOf]; omega
    · go_wp2_with (first | (go_at_call 21; (with_reducible refine (one_is ha0 hA (.inr rfl) eNEG _).mono ?_); rintro e w' ⟨rfl, g, rfl⟩) | (go_at_call 21; (with_reducible refine (one_is ha0 hA (.inl rfl) eNA _).mono ?_); rintro e w' ⟨rfl, g, rfl⟩) | (go_at_call 21; (with_reducible refine (one_is hb0 hB (.inl rfl) eNB _).mono ?_); rintro e w' ⟨rfl, g, rfl⟩))
      refine wp_region_more (by kernel_rfl) (by kernel_rfl) ?_
      repeat (go_big_quiet_step (first | (go_at_call 11; with_reducible exact quiet_of (two2_is ha0 hA hb0 hB rfl eAB _)) | (go_at_call 21; with_reducible exact quiet_of (one_is hab0 hAB (.inl rfl) eBOTH _))))
      refine wpQuiet_nil ?_
      rintro _ ⟨g, rfl⟩
      go_wp2_with (first | (go_at_call 10; (with_reducible refine (cut_is hm (by omega) (by omega) eONE _).mono ?_); rintro e w' ⟨rfl, g, rfl⟩))
      refine wp_region_more (by kernel_rfl) (by kernel_rfl) ?_
      simp only [List.append]
      repeat (go_big_quiet_step (first | (go_at_call 11; with_reducible exact quiet_of (two2_is ha0 hA hb0 hB rfl f1 _)) | (go_at_call 11; with_reducible exact quiet_of (two2_is hsb0 hSB hb0 hB rfl f2 _)) | (go_at_call 11; with_reducible exact quiet_of (two2_is (Int.le_refl 0) hz ha0 hA rfl f3 _)) | (go_at_call 11; with_reducible exact quiet_of (two2_is ha0 hA hng0 hNG rfl f4 _)) | (go_at_call 11; with_reducible exact quiet_of (two2_is hb0 hB hc0 hC rfl f5 _)) | (go_at_call 11; with_reducible exact quiet_of (two2_is ha0 hA hs10 hS1 rfl f6 _)) | (go_at_call 11; with_reducible exact quiet_of (two2_is ha0 hA hb0 hB rfl f7 _)) | (go_at_call 11; with_reducible exact quiet_of (two2_is ha0 hA hc0 hC rfl f8 _)) | (go_at_call 11; with_reducible exact quiet_of (two2_is hm10 hM1 hm20 hM2 rfl f9 _)) | (go_at_call 11; with_reducible exact quiet_of (two2_is ha0 hA h10 h1 rfl f10 _)) | (go_at_call 11; with_reducible exact quiet_of (two2_is hna0 hNA hnb0 hNB rfl f11 _)) | (go_at_call 11; with_reducible exact quiet_of (two2_is hna0 hNA h10 h1 rfl f12 _))))
      refine wpQuiet_nil ?_
      rintro _ ⟨g, rfl⟩
      go_wp2_with fail
      go_ret
      exact Ret.mk ((((Later.refl _).alloc _).alloc _).more _)

theorem ring_walk (bo s : Bool) (n a b c : Int) (ha : 0 ≤ a) (hax : a < 18446744073709551616) (hb : 0 ≤ b) (hbx : b < 18446744073709551616) (hc : 0 ≤ c) (hcx : c < 18446744073709551616) (w : World) :
    Calls Try.prog 7 #[.agg #[.bool bo, .bool s, .int .i64 n], .agg #[.int .u64 a, .int .u64 b, .int .u64 c]] w (Ret w (.bool true)) := by
  have hN1 : 1 ≤ 1 + n % 64 := by omega
  have hN2 : 1 + n % 64 ≤ 64 := by omega
  have hm : Wd.may false s (1 + n % 64) = true := by simp [Wd.may]; omega
  have bA := Wd.cut_bd (n := 1 + n % 64) a
  have bB := Wd.cut_bd (n := 1 + n % 64) b
  have bC := Wd.cut_bd (n := 1 + n % 64) c
  have hA := Wd.isw_cut hm a
  have hB := Wd.isw_cut hm b
  have hC := Wd.isw_cut hm c
  generalize hN : 1 + n % 64 = N at *
  generalize eA : Wd.cut N a = A at *
  generalize eB : Wd.cut N b = B at *
  generalize eC : Wd.cut N c = C at *
  have hl := Wd.pw_le hN2
  have hp := Wd.pw_pos N
  have o1 := fun x => Wd.oneV_bd N 1 x
  have o2 := fun x => Wd.oneV_bd N 2 x
  have cb := fun x => Wd.cut_bd (n := N) x
  have wd : ∀ x, x < Wd.pw N → Wd.isw false s N x = true := fun x hx => Wd.isw_mk hm hx
  have hAB := two_word (op := 1) bA.1 hA bB.1 hB (.inl rfl)
  refine ring_walk_of bo s n a b c N A B C _ _ _ _ _ _ _ _ _ _ _ ha hax hb hbx hc hcx hN hm eA eB eC bA.1 hA bB.1 hB bC.1 hC (by omega) (by omega) (by omega) ?_ rfl rfl rfl rfl rfl rfl
    (o2 _).1 (wd _ (o2 _).2) (o1 _).1 (wd _ (o1 _).2) (o1 _).1 (wd _ (o1 _).2) hAB.1 hAB.2 (cb _).1 (wd _ (cb _).2) (wd 0 (by omega))
    rfl (cb _).1 (wd _ (cb _).2) (Wd.ring_sub bA.1 bA.2) (by rw [Wd.tw5, Int.zero_sub]; rfl) Wd.ring_neg rfl (cb _).1 (wd _ (cb _).2) rfl rfl (cb _).1 (wd _ (cb _).2) rfl (cb _).1 (wd _ (cb _).2) Wd.ring_dist
    (Wd.ring_one bA.1 bA.2) (Wd.not_or bA.1 bA.2 bB.1 bB.2) Wd.ring_not w
  intro op hop
  have hX := two_word (op := op) bA.1 hA bB.1 hB hop
  have hZ := two_word (op := op) bB.1 hB bC.1 hC hop
  have hX' := Wd.isw_lt hX.2
  exact ⟨_, _, _, rfl, Wd.two_comm hop, hX.1, by omega, hX.2, rfl, rfl, hZ.1, hZ.2, (Wd.two_assoc hop).symm, rfl⟩
end Go.Proofs.Ytihnemlnnjdagaa
