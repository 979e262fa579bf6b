import Derived.Test.YtkadcajmlkmhjabGreatDqLS
import Derived.Test.YtkadcajmlkmhjabGreatDsF4
namespace Go.Dp
open Go.RowKit Go.Proofs
def tys5 : List Ty := [.int .i64, .sl (.int .i64), .sl (.int .i64)]
theorem law5 : ∀ xs, Ty.okArgs tys5 xs → PureC Tryz.prog 5 xs (fun r => r = .bool true) := by
  intro xs h
  obtain ⟨x, l, rfl, hx, h⟩ := okArgs_cons h
  obtain ⟨y, l, rfl, hy, h⟩ := okArgs_cons h
  obtain ⟨z, l, rfl, hz, h⟩ := okArgs_cons h
  obtain rfl := okArgs_nil h
  obtain ⟨p, rfl, hp⟩ := okArg_i64 hx
  obtain ⟨L, rfl, hL, wL⟩ := okArg_longs hy
  obtain ⟨M, rfl, hM, wM⟩ := okArg_longs hz
  exact k5 p L M hp hL hM wL wM
end Go.Dp
