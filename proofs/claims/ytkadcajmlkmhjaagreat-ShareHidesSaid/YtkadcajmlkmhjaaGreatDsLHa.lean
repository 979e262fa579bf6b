import Derived.Test.YtkadcajmlkmhjaaGreatDsLH
import Derived.Test.YtkadcajmlkmhjaaGreatDsF4
namespace Go.Dp
open Go.RowKit Go.Proofs
def tys5 : List Ty := [.int .i64, .arr 4 (.int .i64)]
theorem law5 : ∀ xs, Ty.okArgs tys5 xs → PureC Tryz.prog 5 xs (fun r => r = .bool true) := by
  intro xs h
  obtain ⟨x, l, rfl, hx, h⟩ := okArgs_cons h
  obtain ⟨z, l, rfl, hz, h⟩ := okArgs_cons h
  obtain rfl := okArgs_nil h
  obtain ⟨p, rfl, hp⟩ := okArg_i64 hx
  obtain ⟨ms, rfl, hm, hms⟩ := okArg_arr hz
  obtain ⟨a, b, c, d, rfl⟩ := len4 hm
  obtain ⟨u, rfl, hu⟩ := ok_i64 (hms a (by simp))
  obtain ⟨v, rfl, hv⟩ := ok_i64 (hms b (by simp))
  obtain ⟨w, rfl, hw⟩ := ok_i64 (hms c (by simp))
  obtain ⟨q, rfl, hq⟩ := ok_i64 (hms d (by simp))
  exact k5 p u v w q hp hu hv hw hq
end Go.Dp
