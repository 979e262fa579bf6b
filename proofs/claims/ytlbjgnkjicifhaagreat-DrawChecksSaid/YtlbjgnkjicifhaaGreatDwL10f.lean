/- DrawChecks: whether anything is a draw; if not, every call refuses it; boards that are too long are refused. -/
import Derived.Test.YtlbjgnkjicifhaaGreatDwL10a
import Derived.Test.YtlbjgnkjicifhaaGreatDwL10b
import Derived.Test.YtlbjgnkjicifhaaGreatDwL10c
import Derived.Test.YtlbjgnkjicifhaaGreatDwL10d
import Derived.Test.YtlbjgnkjicifhaaGreatDwL10e
import Derived.Test.YtlbjgnkjicifhaaGreatDwE8
namespace Go.Dp
open Go.RowKit Go.Proofs
set_option linter.unusedVariables false
def tys10 : List Ty := [.cons (.cons (.int .i64) (.cons (.int .i64) (.cons (.int .i64) (.nil)))) (.cons (.int .i64) (.cons (.int .i64) (.cons (.int .i64) (.nil)))), .int .i64]
theorem okArg_cfg {x : V} (h : (Ty.cons (.cons (.int .i64) (.cons (.int .i64) (.cons (.int .i64) (.nil)))) (.cons (.int .i64) (.cons (.int .i64) (.cons (.int .i64) (.nil))))).okArg x) : ∃ R P G H B K, x = cfgV R P G H B K ∧ B64 R ∧ B64 P ∧ B64 G ∧ B64 H ∧ B64 B ∧ B64 K := by
  obtain ⟨l, rfl, a, b, rfl, ⟨a1, a2, rfl, h1, a3, a4, rfl, h2, a5, a6, rfl, h3, rfl⟩, b1, b2, rfl, h4, b3, b4, rfl, h5, b5, b6, rfl, h6, rfl⟩ := h
  obtain ⟨z1, rfl, w1⟩ := ok_i64 h1
  obtain ⟨z2, rfl, w2⟩ := ok_i64 h2
  obtain ⟨z3, rfl, w3⟩ := ok_i64 h3
  obtain ⟨z4, rfl, w4⟩ := ok_i64 h4
  obtain ⟨z5, rfl, w5⟩ := ok_i64 h5
  obtain ⟨z6, rfl, w6⟩ := ok_i64 h6
  exact ⟨z1, z2, z3, z4, z5, z6, rfl, w1, w2, w3, w4, w5, w6⟩
theorem law10 : ∀ xs, Ty.okArgs tys10 xs → PureC Tryz.prog 10 xs (fun r => r = .bool true) := by
  intro xs h
  obtain ⟨x, l, rfl, hx, h⟩ := okArgs_cons h
  obtain ⟨y, l, rfl, hy, h⟩ := okArgs_cons h
  obtain rfl := okArgs_nil h
  obtain ⟨R, P, G, H, B, K, rfl, w1, w2, w3, w4, w5, w6⟩ := okArg_cfg hx
  obtain ⟨kind, rfl, hk⟩ := okArg_i64 hy
  by_cases hg : GroupI R P G
  · by_cases hc : CfgI P H B K
    · have hcf : Cf.Ok ⟨R, P, G, H, B, K⟩ := ⟨hg, hc⟩
      have hq : kind % 18446744073709551616 % 5 = 0 ∨ kind % 18446744073709551616 % 5 = 1 ∨ kind % 18446744073709551616 % 5 = 2 ∨ kind % 18446744073709551616 % 5 = 3 ∨ kind % 18446744073709551616 % 5 = 4 := by omega
      rcases hq with hq | hq | hq | hq | hq
      · exact k10_0 ⟨R, P, G, H, B, K⟩ hcf kind hk hq
      · exact k10_1 ⟨R, P, G, H, B, K⟩ hcf kind hk hq
      · exact k10_2 ⟨R, P, G, H, B, K⟩ hcf kind hk hq
      · exact k10_3 ⟨R, P, G, H, B, K⟩ hcf kind hk hq
      · exact k10_4 ⟨R, P, G, H, B, K⟩ hcf kind hk hq
    · exact k10e R P G H B K 1 kind (by omega) (k35b hg hc) (k36b hg hc)
  · exact k10e R P G H B K 80 kind (by omega) (k35f ⟨w1, w2, w3⟩ hg) (k36f ⟨w1, w2, w3⟩ hg)
end Go.Dp
