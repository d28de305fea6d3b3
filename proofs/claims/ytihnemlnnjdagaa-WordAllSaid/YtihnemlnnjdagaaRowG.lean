/-
  No statement of the seat is proved here. word.All and the document's All answer alike, for every op, type and row of words.
-/
import Derived.Test.YtihnemlnnjdagaaRowF
import Derived.Test.YtihnemlnnjdagaaErrs
import Derived.Deep.RegionWith
namespace Go.Proofs.Ytihnemlnnjdagaa
open Go Go.RowKit Bt
set_option linter.unusedVariables false

theorem two_nobool {s : Bool} {op n x y : Int} (h0 : 0 ≤ x) (hx : Wd.isw true s n x = true) (k0 : 0 ≤ y) (hy : Wd.isw true s n y = true) (hop : op = 4 ∨ op = 6) (w : World) :
    Calls Try.prog 13 #[.int .i64 op, .agg #[.bool true, .bool s, .int .i64 n], .int .u64 x, .int .u64 y] w (Ret w (.tuple #[.int .u64 0, .int .i64 1])) := by
  have hm := Wd.isw_may hx
  obtain ⟨h1, h2⟩ := Wd.may_bd hm
  have hp2 := Wd.pw_le h2
  have hx' := Wd.isw_lt hx
  have hy' := Wd.isw_lt hy
  have HX := Lib.hid (fun w => is_is h0 (by omega) hx w)
  have HY := Lib.hid (fun w => is_is k0 (by omega) hy w)
  have tok1 : True := trivial
  clear hx hy hm
  rcases hop with rfl | rfl
  all_goals
    go_enter Try.func13, Try.ntmps13
    go_wp2_with (first
      | (go_at_call 17; have _t := tok1; refine (HX.out _).mono ?_; rintro e w1 ⟨rfl, g1, rfl⟩; clear _t tok1)
      | (go_at_call 17; refine (HY.out _).mono ?_; rintro e w2 ⟨rfl, g2, rfl⟩))
    go_ret2
    exact Ret.mk (((Later.refl _).alloc _).more _)
/-- Does All refuse? -/
def okAll (b s : Bool) (n op : Int) : Bool := Wd.may b s n && (op == 1 || op == 2 || op == 3 || (!b && (op == 4 || op == 6)))
theorem all_def {b s : Bool} {n op : Int} {A : Option Addr} {m cap : Nat} (e1 : (op == 1) = false) (e2 : (op == 2) = false) (e3 : (op == 3) = false) (e4 : (op == 4) = false) (e6 : (op == 6) = false) (w : World) :
    Calls Try.prog 19 #[.int .i64 op, .agg #[.bool b, .bool s, .int .i64 n], .slice A m cap] w (Ret w (.tuple #[.int .u64 0, .int .i64 1])) := by
  go_enter Try.func19, Try.ntmps19
  go_wp2_with fail
  go_ret2
  exact Ret.mk ((Later.refl _).alloc _)
theorem all_may {b s : Bool} {n op : Int} {A : Option Addr} {m cap : Nat} (hm : Wd.may b s n = false) (hop : op = 1 ∨ op = 2 ∨ op = 3 ∨ op = 4 ∨ op = 6) (w : World) :
    Calls Try.prog 19 #[.int .i64 op, .agg #[.bool b, .bool s, .int .i64 n], .slice A m cap] w (Ret w (.tuple #[.int .u64 0, .int .i64 1])) := by
  have HC := Lib.hid (fun x w => cut_no b s n x hm w)
  have hi : ∀ x, Wd.isw b s n x = false := fun x => by simp [Wd.isw, hm]
  have HT := Lib.hid (fun op x y (h0 : 0 ≤ x) (h1 : x < 18446744073709551616) w => two_isf (b := b) (s := s) (op := op) (n := n) (x := x) (y := y) h0 h1 (hi x) w)
  clear hm hi
  rcases hop with rfl | rfl | rfl | rfl | rfl
  all_goals
    go_enter Try.func19, Try.ntmps19
    go_wp2_with (first
      | (go_at_call 10; refine (HC.out _ _).mono ?_; rintro e w1 ⟨rfl, g1, rfl⟩)
      | (go_at_call 13; refine (HT.out _ _ _ (by omega) (by omega) _).mono ?_; rintro e w2 ⟨rfl, g2, rfl⟩))
    go_ret2
    exact Ret.mk (((Later.refl _).alloc _).more _)
theorem all_bool {s : Bool} {n op : Int} {A : Option Addr} {m cap : Nat} (hm : Wd.may true s n = true) (hop : op = 4 ∨ op = 6) (w : World) :
    Calls Try.prog 19 #[.int .i64 op, .agg #[.bool true, .bool s, .int .i64 n], .slice A m cap] w (Ret w (.tuple #[.int .u64 0, .int .i64 1])) := by
  have hn : n = 1 := by simp [Wd.may] at hm; exact hm.2
  have i0 : Wd.isw true s n 0 = true := by rw [Wd.isw, hm, hn]; decide
  have i1 : Wd.isw true s n 1 = true := by rw [Wd.isw, hm, hn]; decide
  have HT0 := Lib.hid (fun w => two_nobool (x := 0) (y := 0) (by omega) i0 (by omega) i0 hop w)
  have HT1 := Lib.hid (fun w => two_nobool (x := 1) (y := 1) (by omega) i1 (by omega) i1 hop w)
  clear hm hn i0 i1
  rcases hop with rfl | rfl
  all_goals
    go_enter Try.func19, Try.ntmps19
    go_wp2_with (first
      | (go_at_call_of 13 (Value.int .u64 1); refine (HT1.out _).mono ?_; rintro e w2 ⟨rfl, g2, rfl⟩)
      | (go_at_call 13; refine (HT0.out _).mono ?_; rintro e w2 ⟨rfl, g2, rfl⟩))
    go_ret2
    exact Ret.mk (((Later.refl _).alloc _).more _)
theorem all_no {b s : Bool} {n op : Int} {A : Option Addr} {m cap : Nat} (h : okAll b s n op = false) (w : World) :
    Calls Try.prog 19 #[.int .i64 op, .agg #[.bool b, .bool s, .int .i64 n], .slice A m cap] w (Ret w (.tuple #[.int .u64 0, .int .i64 1])) := by
  by_cases ho : op = 1 ∨ op = 2 ∨ op = 3 ∨ op = 4 ∨ op = 6
  · cases hm : Wd.may b s n
    · exact all_may hm ho w
    · rw [okAll, hm, Bool.true_and] at h
      have hb : b = true ∧ (op = 4 ∨ op = 6) := by
        rcases ho with rfl | rfl | rfl | rfl | rfl <;> simp at h
        · exact ⟨h, .inl rfl⟩
        · exact ⟨h, .inr rfl⟩
      obtain ⟨rfl, ho2⟩ := hb
      exact all_bool hm ho2 w
  · exact all_def (by rw [beq_eq_false_iff_ne]; omega) (by rw [beq_eq_false_iff_ne]; omega) (by rw [beq_eq_false_iff_ne]; omega) (by rw [beq_eq_false_iff_ne]; omega) (by rw [beq_eq_false_iff_ne]; omega) w
theorem rall_no {b s : Bool} {n op : Int} {A : Option Addr} {m cap : Nat} (h : okAll b s n op = false) (w : World) :
    Calls Try.prog 20 #[.int .i64 op, .agg #[.bool b, .bool s, .int .i64 n], .slice A m cap] w (Ret w (.tuple #[.int .u64 0, .int .i64 1])) := by
  by_cases h1 : op < 1
  · clear h
    go_enter Try.func20, Try.ntmps20
    go_wp2_with fail
    go_ret2
    exact Ret.mk ((Later.refl _).alloc _)
  by_cases h2 : 6 < op
  · clear h
    go_enter Try.func20, Try.ntmps20
    go_wp2_with fail
    go_ret2
    exact Ret.mk ((Later.refl _).alloc _)
  by_cases h3 : op = 5
  · subst h3
    clear h
    go_enter Try.func20, Try.ntmps20
    go_wp2_with fail
    go_ret2
    exact Ret.mk ((Later.refl _).alloc _)
  have ho : op = 1 ∨ op = 2 ∨ op = 3 ∨ op = 4 ∨ op = 6 := by omega
  cases hm : Wd.may b s n
  · have HM := Lib.hid (rmay_is hm)
    have e5 : (op == 5) = false := by rw [beq_eq_false_iff_ne]; omega
    clear h hm ho h3
    go_enter Try.func20, Try.ntmps20
    go_wp2_with (first
      | (go_at_call 30; refine (HM.out _).mono ?_; rintro e w1 ⟨rfl, g1, rfl⟩))
    go_ret2
    exact Ret.mk (((Later.refl _).alloc _).more _)
  · rw [okAll, hm, Bool.true_and] at h
    have hb : b = true ∧ (op = 4 ∨ op = 6) := by
      rcases ho with rfl | rfl | rfl | rfl | rfl <;> simp at h
      · exact ⟨h, .inl rfl⟩
      · exact ⟨h, .inr rfl⟩
    obtain ⟨rfl, ho2⟩ := hb
    have HM := Lib.hid (rmay_is hm)
    clear h hm ho h3 h1 h2
    rcases ho2 with rfl | rfl
    all_goals
      go_enter Try.func20, Try.ntmps20
      go_wp2_with (first
        | (go_at_call 30; refine (HM.out _).mono ?_; rintro e w1 ⟨rfl, g1, rfl⟩))
      go_ret2
      exact Ret.mk (((Later.refl _).alloc _).more _)
theorem all_both (b s : Bool) (n op : Int) (l : List Int) (hl : l.length ≤ 9223372036854775807) (hb : ∀ k, 0 ≤ l.getD k 0 ∧ l.getD k 0 < 18446744073709551616) : ∃ (v e : Int),
    (∀ A cap w, Nums w A l → Calls Try.prog 19 #[.int .i64 op, .agg #[.bool b, .bool s, .int .i64 n], .slice A l.length cap] w (Ret w (.tuple #[.int .u64 v, .int .i64 e]))) ∧
    (∀ A cap w, Nums w A l → Calls Try.prog 20 #[.int .i64 op, .agg #[.bool b, .bool s, .int .i64 n], .slice A l.length cap] w (Ret w (.tuple #[.int .u64 v, .int .i64 e]))) := by
  cases h : okAll b s n op
  · exact ⟨0, 1, fun A cap w _ => all_no h w, fun A cap w _ => rall_no h w⟩
  · rw [okAll, Bool.and_eq_true] at h
    obtain ⟨hm, ho⟩ := h
    have hop : op = 1 ∨ op = 2 ∨ op = 3 ∨ b = false ∧ (op = 4 ∨ op = 6) := by
      simp only [Bool.or_eq_true, beq_iff_eq, Bool.and_eq_true, Bool.not_eq_true'] at ho
      rcases ho with ((h | h) | h) | h
      · exact .inl h
      · exact .inr (.inl h)
      · exact .inr (.inr (.inl h))
      · exact .inr (.inr (.inr h))
    obtain ⟨N, rfl, n1, n2⟩ := wid_nat hm
    refine ⟨_, _, fun A cap w hn => all_any hm hop A l cap w hl hn hb, fun A cap w hn => ?_⟩
    rcases hop with rfl | rfl | rfl | ⟨rfl, rfl | rfl⟩
    · cases b
      · exact rall_1f hm A l cap w hl hn hb
      · exact rall_1t hm A l cap w hl hn hb
    · cases b
      · exact rall_2f hm A l cap w hl hn hb
      · exact rall_2t hm A l cap w hl hn hb
    · cases b
      · exact rall_3f hm A l cap w hl hn hb
      · exact rall_3t hm A l cap w hl hn hb
    · exact rall_4f hm A l cap w hl hn hb
    · exact rall_6f hm A l cap w hl hn hb
theorem cut_both (b s : Bool) (n : Int) : ∃ c : Int → Int, (∀ x, 0 ≤ x → x < 18446744073709551616 → 0 ≤ c x ∧ c x < 18446744073709551616) ∧
    (∀ x w, 0 ≤ x → x < 18446744073709551616 → Calls Try.prog 18 #[.agg #[.bool b, .bool s, .int .i64 n], .int .u64 x] w (Ret w (.int .u64 (c x)))) := by
  cases hm : Wd.may b s n
  · exact ⟨fun _ => 0, fun _ _ _ => ⟨by simp, by simp⟩, fun x w _ _ => rcut_no b s n x hm w⟩
  · obtain ⟨N, rfl, n1, n2⟩ := wid_nat hm
    refine ⟨fun x => ((x.toNat % 2 ^ N : Nat) : Int), fun x h0 h1 => ?_, fun x w h0 h1 => ?_⟩
    · have := Nat.mod_le x.toNat (2 ^ N)
      constructor
      · exact Int.natCast_nonneg _
      · show ((x.toNat % 2 ^ N : Nat) : Int) < _
        omega
    · obtain ⟨X, rfl⟩ := Int.eq_ofNat_of_zero_le h0
      exact rcut_yes b s N X hm (by omega) w
end Go.Proofs.Ytihnemlnnjdagaa
