import Derived.Test.YtkadcajmlkmhjaaGreatDsLR
import Derived.Test.YtkadcajmlkmhjaaGreatDsF4
namespace Go.Dp
open Go.RowKit Go.Proofs
def tys8 : List Ty := [.int .i64, .arr 2 (.sl (.int .i64))]
theorem law8 : ∀ xs, Ty.okArgs tys8 xs → PureC Tryz.prog 8 xs (fun r => r = .bool true) := by
  intro xs h
  obtain ⟨x, l, rfl, hx, h⟩ := okArgs_cons h
  obtain ⟨y, l, rfl, hy, h⟩ := okArgs_cons h
  obtain rfl := okArgs_nil h
  obtain ⟨p, rfl, hp⟩ := okArg_i64 hx
  obtain ⟨ls, rfl, hl, hls⟩ := okArg_arr hy
  obtain ⟨a, b, rfl⟩ := len2 hl
  obtain ⟨L, rfl, hL, wL⟩ := ok_longs (hls a (by simp))
  obtain ⟨M, rfl, hM, wM⟩ := ok_longs (hls b (by simp))
  exact k8 p L M (by omega) hL hM (fun z hz => by have := wL z hz; omega) (fun z hz => by have := wM z hz; omega)
end Go.Dp
