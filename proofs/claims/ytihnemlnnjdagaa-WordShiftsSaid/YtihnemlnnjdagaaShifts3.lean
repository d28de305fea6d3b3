/-
  No statement of the seat is proved here. The walk of WordShifts, whatever its arguments.
-/
import Derived.Test.YtihnemlnnjdagaaShifts1
import Derived.Test.YtihnemlnnjdagaaShifts2
import Derived.Test.YtihnemlnnjdagaaPlain3
namespace Go.Proofs.Ytihnemlnnjdagaa
open Go Go.RowKit

theorem shifts_walk (b s : Bool) (n a j k : Int) (ha : 0 ≤ a) (hax : a < 18446744073709551616) (hj0 : 0 ≤ j) (hj : j ≤ 255) (hk0 : 0 ≤ k) (hk : k ≤ 255) (w : World) :
    Calls Try.prog 4 #[.agg #[.bool b, .bool s, .int .i64 n], .int .u64 a, .agg #[.int .u8 j, .int .u8 k]] w (Ret w (.bool true)) := by
  have hN1 : 1 ≤ 1 + n % 64 := by omega
  have hN2 : 1 + n % 64 ≤ 64 := by omega
  have hm : Wd.may false s (1 + n % 64) = true := by simp [Wd.may]; omega
  have bA := Wd.cut_bd (n := 1 + n % 64) a
  have hA := Wd.isw_cut hm a
  generalize hN : 1 + n % 64 = N at *
  generalize eA : Wd.cut N a = A at *
  have j0 : 0 ≤ j % 32 := by omega
  have j1 : j % 32 ≤ 63 := by omega
  have j31 : j % 32 ≤ 31 := by omega
  have k0 : 0 ≤ k % 32 := by omega
  have hpw0 := Wd.pw_pos (j % 32)
  have hpw1 : Wd.pw (j % 32) ≤ 18446744073709551615 := by
    have h := Wd.pw_mono j0 (show j % 32 ≤ 63 by omega)
    have e : Wd.pw 63 = 9223372036854775808 := by decide
    omega
  have eMore : Wd.shV s N (Wd.shV s N A (j % 32)) (k % 32) = Wd.shV s N A (j % 32 + k % 32) := Wd.sh_more j0 k0
  have eLw : Wd.shV s N (Wd.shV s N A (-(j % 32))) (-(k % 32)) = Wd.shV s N A (-(j % 32) - k % 32) := Wd.sh_lower hN1 bA.1 bA.2 j0 k0
  have eBk := Wd.sh_back (s := s) hN1 hN2 bA.1 bA.2 j0 j1
  have hPJ := Wd.isw_cut hm (Wd.pw (j % 32))
  have bPJ := Wd.cut_bd (n := N) (Wd.pw (j % 32))
  have eMul : Wd.twoV s N 6 A (Wd.cut N (Wd.pw (j % 32))) = Wd.shV s N A (j % 32) := Wd.sh_mul j0
  have bUP := Wd.shV_bd (s := s) (n := N) (x := A) (k := j % 32)
  have hUP := Wd.isw_mk hm bUP.2
  have bDN := Wd.shV_bd (s := s) (n := N) (x := A) (k := -(j % 32))
  have hDN := Wd.isw_mk hm bDN.2
  by_cases h64 : N = 64
  · have hw : (N == 64) = true := by simp [h64]
    cases hp : Wd.hld s A
    · exact shifts_w64f b s s n a j k N A _ _ _ _ _ _ _ rfl ha hax hj0 hj hk0 hk hN hm eA bA.1 hA hpw0 hpw1 rfl eMore rfl rfl eLw rfl eBk rfl bPJ.1 hPJ eMul bUP.1 hUP bDN.1 hDN hp rfl hw rfl w
    · have hv := Wd.hld_dn hN1 bA.1 bA.2 j0 hp
      exact shifts_w64t b s s n a j k N A _ _ _ _ _ _ _ rfl ha hax hj0 hj hk0 hk hN hm eA bA.1 hA hpw0 hpw1 rfl eMore rfl rfl eLw rfl eBk rfl bPJ.1 hPJ eMul bUP.1 hUP bDN.1 hDN hp rfl hv.1 hv.2 hw rfl w
  · have hw : (N == 64) = false := by simp [h64]
    cases s
    · have hE := Wd.sh_end_u (show N ≤ 63 by omega) hN1 bA.1 bA.2
      cases hp : Wd.hld false A
      · exact shifts_uf b false n a j k N A _ _ _ _ _ _ 0 rfl ha hax hj0 hj hk0 hk hN hm eA bA.1 hA hpw0 hpw1 rfl eMore rfl rfl eLw rfl eBk rfl bPJ.1 hPJ eMul bUP.1 hUP bDN.1 hDN hp rfl hw hE w
      · have hv := Wd.hld_dn hN1 bA.1 bA.2 j0 hp
        exact shifts_ut b false n a j k N A _ _ _ _ _ _ 0 rfl ha hax hj0 hj hk0 hk hN hm eA bA.1 hA hpw0 hpw1 rfl eMore rfl rfl eLw rfl eBk rfl bPJ.1 hPJ eMul bUP.1 hUP bDN.1 hDN hp rfl hv.1 hv.2 hw hE w
    · rcases Wd.sh_end_s (show N ≤ 63 by omega) hN1 bA.1 bA.2 with hE | ⟨hE0, hE⟩
      · cases hp : Wd.hld true A
        · exact shifts_szf b true n a j k N A _ _ _ _ _ _ 0 rfl ha hax hj0 hj hk0 hk hN hm eA bA.1 hA hpw0 hpw1 rfl eMore rfl rfl eLw rfl eBk rfl bPJ.1 hPJ eMul bUP.1 hUP bDN.1 hDN hp rfl hw hE w
        · have hv := Wd.hld_dn hN1 bA.1 bA.2 j0 hp
          exact shifts_szt b true n a j k N A _ _ _ _ _ _ 0 rfl ha hax hj0 hj hk0 hk hN hm eA bA.1 hA hpw0 hpw1 rfl eMore rfl rfl eLw rfl eBk rfl bPJ.1 hPJ eMul bUP.1 hUP bDN.1 hDN hp rfl hv.1 hv.2 hw hE w
      · have hE0' := beq_false_of_ne hE0
        cases hp : Wd.hld true A
        · exact shifts_smf b true n a j k N A _ _ _ _ _ _ _ rfl ha hax hj0 hj hk0 hk hN hm eA bA.1 hA hpw0 hpw1 rfl eMore rfl rfl eLw rfl eBk rfl bPJ.1 hPJ eMul bUP.1 hUP bDN.1 hDN hp rfl hw hE0' rfl hE.symm w
        · have hv := Wd.hld_dn hN1 bA.1 bA.2 j0 hp
          exact shifts_smt b true n a j k N A _ _ _ _ _ _ _ rfl ha hax hj0 hj hk0 hk hN hm eA bA.1 hA hpw0 hpw1 rfl eMore rfl rfl eLw rfl eBk rfl bPJ.1 hPJ eMul bUP.1 hUP bDN.1 hDN hp rfl hv.1 hv.2 hw hE0' rfl hE.symm w

end Go.Proofs.Ytihnemlnnjdagaa
