import Derived.Test.YtkadcajmlkmhjabGreatDqLD
import Derived.Test.YtkadcajmlkmhjabGreatDsF4
namespace Go.Dp
open Go.RowKit Go.Proofs
def tys4 : List Ty := [.int .i64, .arr 2 (.sl (.int .i64)), .arr 3 (.int .i64)]
theorem law4 : ∀ xs, Ty.okArgs tys4 xs → PureC Tryz.prog 4 xs (fun r => r = .bool true) := by
  intro xs h
  obtain ⟨x, l, rfl, hx, h⟩ := okArgs_cons h
  obtain ⟨y, l, rfl, hy, h⟩ := okArgs_cons h
  obtain ⟨z, l, rfl, hz, h⟩ := okArgs_cons h
  obtain rfl := okArgs_nil h
  obtain ⟨p, rfl, hp⟩ := okArg_i64 hx
  obtain ⟨ls, rfl, hl, hls⟩ := okArg_arr hy
  obtain ⟨a, b, rfl⟩ := len2 hl
  obtain ⟨L, rfl, hL, wL⟩ := ok_longs (hls a (by simp))
  obtain ⟨M, rfl, hM, wM⟩ := ok_longs (hls b (by simp))
  obtain ⟨ms, rfl, hm, hms⟩ := okArg_arr hz
  obtain ⟨a, b, c, rfl⟩ := len3 hm
  obtain ⟨u, rfl, hu⟩ := ok_i64 (hms a (by simp))
  obtain ⟨v, rfl, hv⟩ := ok_i64 (hms b (by simp))
  obtain ⟨w, rfl, hw⟩ := ok_i64 (hms c (by simp))
  exact k4 p L M u v w hp hu hv hw hL hM wL wM
end Go.Dp
