/-
  No statement of the seat is proved here. The walk of WordOrder, at every type and any three numbers.
-/
import Derived.Test.YtihnemlnnjdagaaOrder
namespace Go.Proofs.Ytihnemlnnjdagaa
open Go Go.RowKit

theorem two_lt_bool (x y : Int) (h0 : 0 ≤ x) (hx : Wd.isw true false 1 x = true) (k0 : 0 ≤ y) (hy : Wd.isw true false 1 y = true) (w : World) :
    Calls Try.prog 13 #[.int .i64 9, .agg #[.bool true, .bool false, .int .i64 1], .int .u64 x, .int .u64 y] w (Ret w (.tuple #[.int .u64 0, .int .i64 1])) := by
  have hp2 := Wd.pw_le (show (1 : Int) ≤ 64 by omega)
  have hx' := Wd.isw_lt hx
  have hy' := Wd.isw_lt hy
  have hx64 : x < 18446744073709551616 := by omega
  have hy64 : y < 18446744073709551616 := by omega
  go_enter Try.func13, Try.ntmps13
  go_wp2_with (go_at_call 17; refine (is_is (by assumption) (by assumption) (by assumption) _).mono ?_; rintro e w' ⟨rfl, g, rfl⟩)
  go_ret2
  exact Ret.mk (((Later.refl _).alloc _).more _)
set_option maxRecDepth 100000 in
set_option maxHeartbeats 2000000 in
theorem order_bool_eq (s : Bool) (n a b c A B C : Int) (ha : 0 ≤ a) (hax : a < 18446744073709551616) (hb : 0 ≤ b) (hbx : b < 18446744073709551616) (hc : 0 ≤ c) (hcx : c < 18446744073709551616)
    (eA : Wd.cut 1 a = A) (eB : Wd.cut 1 b = B) (eC : Wd.cut 1 c = C) (ha0 : 0 ≤ A) (hA : Wd.isw true false 1 A = true) (hb0 : 0 ≤ B) (hB : Wd.isw true false 1 B = true)
    (h7 : Wd.twoV false 1 7 A B = 1) (h8 : Wd.twoV false 1 8 A B = 0) (h7' : Wd.twoV false 1 7 B A = 1) (heq : (A == B) = true) (w : World) :
    Calls Try.prog 3 #[.agg #[.bool true, .bool s, .int .i64 n], .agg #[.int .u64 a, .int .u64 b, .int .u64 c]] w (Ret w (.bool true)) := by
  have hm : Wd.may true false 1 = true := rfl
  go_enter Try.func3, Try.ntmps3
  go_wp2_with (go_at_call 9; refine (made_b _ _ _).mono ?_; rintro e w' ⟨rfl, g, rfl⟩)
  refine wp_region_more (by kernel_rfl) (by kernel_rfl) ?_
  repeat (go_big_quiet_step (first | (go_at_call 10; with_reducible exact quiet_of (cut_is hm ha hax eA _)) | (go_at_call 10; with_reducible exact quiet_of (cut_is hm hb hbx eB _)) | (go_at_call 10; with_reducible exact quiet_of (cut_is hm hc hcx eC _))))
  refine wpQuiet_nil ?_
  rintro _ ⟨g, rfl⟩
  go_wp2_with fail
  refine wp_region_more (by kernel_rfl) (by kernel_rfl) ?_
  repeat (go_big_quiet_step (first | (go_at_call 11; with_reducible exact quiet_of (two2_is ha0 hA hb0 hB rfl h7 _)) | (go_at_call 11; with_reducible exact quiet_of (two2_is ha0 hA hb0 hB rfl h8 _))))
  refine wpQuiet_nil ?_
  rintro _ ⟨g, rfl⟩
  go_wp2_with (first | (go_at_call 12; refine (wakes_any _).mono ?_; rintro e w' ⟨rfl, g, rfl⟩) | (go_at_call 11; (with_reducible refine (two2_is hb0 hB ha0 hA rfl h7' _).mono ?_); rintro e w' ⟨rfl, g, rfl⟩) | (go_at_call 13; (with_reducible refine (two_lt_bool _ _ ha0 hA hb0 hB _).mono ?_); rintro e w' ⟨rfl, g, rfl⟩))
  go_ret
  exact Ret.mk ((((Later.refl _).alloc _).alloc _).more _)
set_option maxRecDepth 100000 in
set_option maxHeartbeats 2000000 in
theorem order_bool_ne (s : Bool) (n a b c A B C : Int) (ha : 0 ≤ a) (hax : a < 18446744073709551616) (hb : 0 ≤ b) (hbx : b < 18446744073709551616) (hc : 0 ≤ c) (hcx : c < 18446744073709551616)
    (eA : Wd.cut 1 a = A) (eB : Wd.cut 1 b = B) (eC : Wd.cut 1 c = C) (ha0 : 0 ≤ A) (hA : Wd.isw true false 1 A = true) (hb0 : 0 ≤ B) (hB : Wd.isw true false 1 B = true)
    (h7 : Wd.twoV false 1 7 A B = 0) (h8 : Wd.twoV false 1 8 A B = 1) (h7' : Wd.twoV false 1 7 B A = 0) (heq : (A == B) = false) (w : World) :
    Calls Try.prog 3 #[.agg #[.bool true, .bool s, .int .i64 n], .agg #[.int .u64 a, .int .u64 b, .int .u64 c]] w (Ret w (.bool true)) := by
  have hm : Wd.may true false 1 = true := rfl
  go_enter Try.func3, Try.ntmps3
  go_wp2_with (go_at_call 9; refine (made_b _ _ _).mono ?_; rintro e w' ⟨rfl, g, rfl⟩)
  refine wp_region_more (by kernel_rfl) (by kernel_rfl) ?_
  repeat (go_big_quiet_step (first | (go_at_call 10; with_reducible exact quiet_of (cut_is hm ha hax eA _)) | (go_at_call 10; with_reducible exact quiet_of (cut_is hm hb hbx eB _)) | (go_at_call 10; with_reducible exact quiet_of (cut_is hm hc hcx eC _))))
  refine wpQuiet_nil ?_
  rintro _ ⟨g, rfl⟩
  go_wp2_with fail
  refine wp_region_more (by kernel_rfl) (by kernel_rfl) ?_
  repeat (go_big_quiet_step (first | (go_at_call 11; with_reducible exact quiet_of (two2_is ha0 hA hb0 hB rfl h7 _)) | (go_at_call 11; with_reducible exact quiet_of (two2_is ha0 hA hb0 hB rfl h8 _))))
  refine wpQuiet_nil ?_
  rintro _ ⟨g, rfl⟩
  go_wp2_with (first | (go_at_call 12; refine (wakes_any _).mono ?_; rintro e w' ⟨rfl, g, rfl⟩) | (go_at_call 11; (with_reducible refine (two2_is hb0 hB ha0 hA rfl h7' _).mono ?_); rintro e w' ⟨rfl, g, rfl⟩) | (go_at_call 13; (with_reducible refine (two_lt_bool _ _ ha0 hA hb0 hB _).mono ?_); rintro e w' ⟨rfl, g, rfl⟩))
  go_ret
  exact Ret.mk ((((Later.refl _).alloc _).alloc _).more _)

theorem tw7 (s : Bool) (n x y : Int) : Wd.twoV s n 7 x y = Wd.b2i (x == y) := rfl
theorem tw8 (s : Bool) (n x y : Int) : Wd.twoV s n 8 x y = Wd.b2i (x != y) := rfl
theorem tw9 (s : Bool) (n x y : Int) : Wd.twoV s n 9 x y = Wd.b2i (Wd.less s n x y) := rfl
theorem tw10 (s : Bool) (n x y : Int) : Wd.twoV s n 10 x y = Wd.b2i (!Wd.less s n y x) := rfl
theorem tw11 (s : Bool) (n x y : Int) : Wd.twoV s n 11 x y = Wd.b2i (Wd.less s n y x) := rfl
theorem tw12 (s : Bool) (n x y : Int) : Wd.twoV s n 12 x y = Wd.b2i (!Wd.less s n x y) := rfl
theorem tw4 (s : Bool) (n x y : Int) : Wd.twoV s n 4 x y = Wd.cut n (x + y) := rfl

theorem order_walk (bo s : Bool) (n a b c : Int) (ha : 0 ≤ a) (hax : a < 18446744073709551616) (hb : 0 ≤ b) (hbx : b < 18446744073709551616) (hc : 0 ≤ c) (hcx : c < 18446744073709551616) (w : World) :
    Calls Try.prog 3 #[.agg #[.bool bo, .bool s, .int .i64 n], .agg #[.int .u64 a, .int .u64 b, .int .u64 c]] w (Ret w (.bool true)) := by
  cases bo
  · have hN1 : 1 ≤ 1 + n % 64 := by omega
    have hN2 : 1 + n % 64 ≤ 64 := by omega
    have hm : Wd.may false s (1 + n % 64) = true := by simp [Wd.may]; omega
    have bA := Wd.cut_bd (n := 1 + n % 64) a
    have bB := Wd.cut_bd (n := 1 + n % 64) b
    have bC := Wd.cut_bd (n := 1 + n % 64) c
    have hA := Wd.isw_cut hm a
    have hB := Wd.isw_cut hm b
    have hC := Wd.isw_cut hm c
    generalize hN : 1 + n % 64 = N at *
    generalize eA : Wd.cut N a = A at *
    generalize eB : Wd.cut N b = B at *
    generalize eC : Wd.cut N c = C at *
    have bS := Wd.cut_bd (n := N) (A + C)
    have bS' := Wd.cut_bd (n := N) (B + C)
    have hS := Wd.isw_cut hm (A + C)
    have hS' := Wd.isw_cut hm (B + C)
    have hinj : Wd.cut N (A + C) = Wd.cut N (B + C) → A = B := Wd.cut_add_inj bA.1 bA.2 bB.1 bB.2
    have htri : Wd.sv s N A < Wd.sv s N B ∨ A = B ∨ Wd.sv s N B < Wd.sv s N A := by
      rcases Int.lt_trichotomy (Wd.sv s N A) (Wd.sv s N B) with h | h | h
      · exact .inl h
      · exact .inr (.inl (Wd.sv_inj hN1 bA.1 bA.2 bB.1 bB.2 h))
      · exact .inr (.inr h)
    rcases htri with hlt | heq | hgt
    · have hne : A ≠ B := by rintro rfl; omega
      have hs : Wd.cut N (A + C) ≠ Wd.cut N (B + C) := fun h => hne (hinj h)
      have l1 : Wd.less s N A B = true := by simp [Wd.less, hlt]
      have l2 : Wd.less s N B A = false := by simp [Wd.less]; omega
      have h7 : Wd.twoV s N 7 A B = 0 := by rw [tw7, beq_false_of_ne hne]; rfl
      have h8 : Wd.twoV s N 8 A B = 1 := by rw [tw8, bne, beq_false_of_ne hne]; rfl
      have h9 : Wd.twoV s N 9 A B = 1 := by rw [tw9, l1]; rfl
      have h10 : Wd.twoV s N 10 A B = 1 := by rw [tw10, l2]; rfl
      have h11 : Wd.twoV s N 11 A B = 0 := by rw [tw11, l2]; rfl
      have h12 : Wd.twoV s N 12 A B = 0 := by rw [tw12, l1]; rfl
      have h7' : Wd.twoV s N 7 B A = 0 := by rw [tw7, beq_false_of_ne hne.symm]; rfl
      have h11' : Wd.twoV s N 11 B A = 1 := by rw [tw11, l1]; rfl
      have hfin : Wd.twoV s N 7 (Wd.cut N (A + C)) (Wd.cut N (B + C)) = 0 := by rw [tw7, beq_false_of_ne hs]; rfl
      cases hp : Wd.hld s A
      · cases hbc : Wd.less s N B C
        · exact order_lt_f_0 s n a b c N A B C _ _ _ _ ha hax hb hbx hc hcx hN hm eA eB eC bA.1 hA bB.1 hB bC.1 hC h7 h8 h9 h10 h11 h12 h7' h11' (beq_false_of_ne hne) hp rfl rfl _ rfl (by rw [tw9, hbc]; rfl) rfl rfl bS.1 hS bS'.1 hS' hfin w
        · have hac : Wd.less s N A C = true := by simp [Wd.less] at hbc ⊢; omega
          exact order_lt_f_1 s n a b c N A B C _ _ _ _ ha hax hb hbx hc hcx hN hm eA eB eC bA.1 hA bB.1 hB bC.1 hC h7 h8 h9 h10 h11 h12 h7' h11' (beq_false_of_ne hne) hp rfl rfl _ rfl (by rw [tw9, hbc]; rfl) (by rw [tw9, hac]; rfl) rfl rfl bS.1 hS bS'.1 hS' hfin w
      · cases hq : Wd.hld s B
        · cases hbc : Wd.less s N B C
          · exact order_lt_tf_0 s n a b c N A B C _ _ _ _ ha hax hb hbx hc hcx hN hm eA eB eC bA.1 hA bB.1 hB bC.1 hC h7 h8 h9 h10 h11 h12 h7' h11' (beq_false_of_ne hne) hp rfl rfl _ hq rfl (by rw [tw9, hbc]; rfl) rfl rfl bS.1 hS bS'.1 hS' hfin w
          · have hac : Wd.less s N A C = true := by simp [Wd.less] at hbc ⊢; omega
            exact order_lt_tf_1 s n a b c N A B C _ _ _ _ ha hax hb hbx hc hcx hN hm eA eB eC bA.1 hA bB.1 hB bC.1 hC h7 h8 h9 h10 h11 h12 h7' h11' (beq_false_of_ne hne) hp rfl rfl _ hq rfl (by rw [tw9, hbc]; rfl) (by rw [tw9, hac]; rfl) rfl rfl bS.1 hS bS'.1 hS' hfin w
        · have huv : decide (Wd.val s N A < Wd.val s N B) = true := by simp [Wd.val, hp, hq, hlt]
          cases hbc : Wd.less s N B C
          · exact order_lt_tt_0 s n a b c N A B C _ _ _ _ ha hax hb hbx hc hcx hN hm eA eB eC bA.1 hA bB.1 hB bC.1 hC h7 h8 h9 h10 h11 h12 h7' h11' (beq_false_of_ne hne) hp rfl rfl _ hq rfl huv (by rw [tw9, hbc]; rfl) rfl rfl bS.1 hS bS'.1 hS' hfin w
          · have hac : Wd.less s N A C = true := by simp [Wd.less] at hbc ⊢; omega
            exact order_lt_tt_1 s n a b c N A B C _ _ _ _ ha hax hb hbx hc hcx hN hm eA eB eC bA.1 hA bB.1 hB bC.1 hC h7 h8 h9 h10 h11 h12 h7' h11' (beq_false_of_ne hne) hp rfl rfl _ hq rfl huv (by rw [tw9, hbc]; rfl) (by rw [tw9, hac]; rfl) rfl rfl bS.1 hS bS'.1 hS' hfin w
    · have l1 : Wd.less s N A B = false := by subst heq; simp [Wd.less]
      have l2 : Wd.less s N B A = false := by subst heq; simp [Wd.less]
      have be : (A == B) = true := by simp [heq]
      have be' : (B == A) = true := by simp [heq]
      have h7 : Wd.twoV s N 7 A B = 1 := by rw [tw7, be]; rfl
      have h8 : Wd.twoV s N 8 A B = 0 := by rw [tw8, bne, be]; rfl
      have h9 : Wd.twoV s N 9 A B = 0 := by rw [tw9, l1]; rfl
      have h10 : Wd.twoV s N 10 A B = 1 := by rw [tw10, l2]; rfl
      have h11 : Wd.twoV s N 11 A B = 0 := by rw [tw11, l2]; rfl
      have h12 : Wd.twoV s N 12 A B = 1 := by rw [tw12, l1]; rfl
      have h7' : Wd.twoV s N 7 B A = 1 := by rw [tw7, be']; rfl
      have h11' : Wd.twoV s N 11 B A = 0 := by rw [tw11, l1]; rfl
      have hfin : Wd.twoV s N 7 (Wd.cut N (A + C)) (Wd.cut N (B + C)) = 1 := by rw [tw7, heq]; simp [Wd.b2i]
      have huv : decide (Wd.val s N A < Wd.val s N B) = false := by subst heq; simp
      cases hp : Wd.hld s A
      · exact order_eq_f s n a b c N A B C _ _ _ _ ha hax hb hbx hc hcx hN hm eA eB eC bA.1 hA bB.1 hB bC.1 hC h7 h8 h9 h10 h11 h12 h7' h11' be hp rfl rfl _ rfl rfl rfl bS.1 hS bS'.1 hS' hfin w
      · have hq : Wd.hld s B = true := by rw [← heq]; exact hp
        exact order_eq_tt s n a b c N A B C _ _ _ _ ha hax hb hbx hc hcx hN hm eA eB eC bA.1 hA bB.1 hB bC.1 hC h7 h8 h9 h10 h11 h12 h7' h11' be hp rfl rfl _ hq rfl huv rfl rfl bS.1 hS bS'.1 hS' hfin w
    · have hne : A ≠ B := by rintro rfl; omega
      have hs : Wd.cut N (A + C) ≠ Wd.cut N (B + C) := fun h => hne (hinj h)
      have l1 : Wd.less s N B A = true := by simp [Wd.less, hgt]
      have l2 : Wd.less s N A B = false := by simp [Wd.less]; omega
      have h7 : Wd.twoV s N 7 A B = 0 := by rw [tw7, beq_false_of_ne hne]; rfl
      have h8 : Wd.twoV s N 8 A B = 1 := by rw [tw8, bne, beq_false_of_ne hne]; rfl
      have h9 : Wd.twoV s N 9 A B = 0 := by rw [tw9, l2]; rfl
      have h10 : Wd.twoV s N 10 A B = 0 := by rw [tw10, l1]; rfl
      have h11 : Wd.twoV s N 11 A B = 1 := by rw [tw11, l1]; rfl
      have h12 : Wd.twoV s N 12 A B = 1 := by rw [tw12, l2]; rfl
      have h7' : Wd.twoV s N 7 B A = 0 := by rw [tw7, beq_false_of_ne hne.symm]; rfl
      have h11' : Wd.twoV s N 11 B A = 0 := by rw [tw11, l2]; rfl
      have hfin : Wd.twoV s N 7 (Wd.cut N (A + C)) (Wd.cut N (B + C)) = 0 := by rw [tw7, beq_false_of_ne hs]; rfl
      cases hp : Wd.hld s A
      · exact order_gt_f s n a b c N A B C _ _ _ _ ha hax hb hbx hc hcx hN hm eA eB eC bA.1 hA bB.1 hB bC.1 hC h7 h8 h9 h10 h11 h12 h7' h11' (beq_false_of_ne hne) hp rfl rfl _ rfl rfl rfl bS.1 hS bS'.1 hS' hfin w
      · cases hq : Wd.hld s B
        · exact order_gt_tf s n a b c N A B C _ _ _ _ ha hax hb hbx hc hcx hN hm eA eB eC bA.1 hA bB.1 hB bC.1 hC h7 h8 h9 h10 h11 h12 h7' h11' (beq_false_of_ne hne) hp rfl rfl _ hq rfl rfl rfl bS.1 hS bS'.1 hS' hfin w
        · have huv : decide (Wd.val s N A < Wd.val s N B) = false := by simp [Wd.val, hp, hq]; omega
          exact order_gt_tt s n a b c N A B C _ _ _ _ ha hax hb hbx hc hcx hN hm eA eB eC bA.1 hA bB.1 hB bC.1 hC h7 h8 h9 h10 h11 h12 h7' h11' (beq_false_of_ne hne) hp rfl rfl _ hq rfl huv rfl rfl bS.1 hS bS'.1 hS' hfin w
  · have hm : Wd.may true false 1 = true := rfl
    have bA := Wd.cut_bd (n := 1) a
    have bB := Wd.cut_bd (n := 1) b
    have hA := Wd.isw_cut hm a
    have hB := Wd.isw_cut hm b
    by_cases heq : Wd.cut 1 a = Wd.cut 1 b
    · exact order_bool_eq s n a b c _ _ _ ha hax hb hbx hc hcx rfl rfl rfl bA.1 hA bB.1 hB (by rw [tw7, heq]; simp [Wd.b2i]) (by rw [tw8, heq]; simp [Wd.b2i]) (by rw [tw7, heq]; simp [Wd.b2i]) (by simp [heq]) w
    · exact order_bool_ne s n a b c _ _ _ ha hax hb hbx hc hcx rfl rfl rfl bA.1 hA bB.1 hB (by rw [tw7, beq_false_of_ne heq]; rfl) (by rw [tw8, bne, beq_false_of_ne heq]; rfl) (by rw [tw7, beq_false_of_ne (Ne.symm heq)]; rfl) (by simp [heq]) w

end Go.Proofs.Ytihnemlnnjdagaa
