/-
  No statement of the seat is proved here. Contracts that take the value by an equation. No condition.
-/
import Derived.Test.YtihnemlnnjdagaaWakes
namespace Go.Proofs.Ytihnemlnnjdagaa
open Go Go.RowKit

theorem two2_is {b s : Bool} {n op x y v : Int} (h0 : 0 ≤ x) (hx : Wd.isw b s n x = true) (k0 : 0 ≤ y) (hy : Wd.isw b s n y = true) (hop : Wd.okOp b op = true) (hv : Wd.twoV s n op x y = v) (w : World) :
    Calls Try.prog 11 #[.int .i64 op, .agg #[.bool b, .bool s, .int .i64 n], .int .u64 x, .int .u64 y] w (Ret w (.int .u64 v)) := hv ▸ two2 b s n op x y h0 hx k0 hy hop w
theorem made_is {s : Bool} {n N : Int} (h : 1 + n % 64 = N) (w : World) : Calls Try.prog 9 #[.agg #[.bool false, .bool s, .int .i64 n]] w (Ret w (.agg #[.bool false, .bool s, .int .i64 N])) := h ▸ made_n s n w
theorem cut_is {b s : Bool} {n x v : Int} (hm : Wd.may b s n = true) (h0 : 0 ≤ x) (hx : x < 18446744073709551616) (h : Wd.cut n x = v) (w : World) : Calls Try.prog 10 #[.agg #[.bool b, .bool s, .int .i64 n], .int .u64 x] w (Ret w (.int .u64 v)) := h ▸ cut_yes b s n x hm h0 hx w
theorem value_is {b s : Bool} {n x u : Int} {v : Bool} (h0 : 0 ≤ x) (hx : Wd.isw b s n x = true) (hu : Wd.val s n x = u) (hv : Wd.hld s x = v) (w : World) :
    Calls Try.prog 14 #[.agg #[.bool b, .bool s, .int .i64 n], .int .u64 x] w (Ret w (.tuple #[.int .i64 u, .bool v])) := hu ▸ hv ▸ value_any b s n x h0 hx w
end Go.Proofs.Ytihnemlnnjdagaa
