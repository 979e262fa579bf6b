/- DrawChecks on a draw: long lists of empty lines (2). -/
import Derived.Test.YtlbjgnkjicifhaaGreatDwL10z
namespace Go.Dp
open Go.RowKit Go.Proofs
attribute [local irreducible] wp wpOps wpOp1 CallW CallT kSeq kBlk kLoop kReg retP retR kAsg kRound kRf kCut kItr kItr2
set_option linter.unusedVariables false
set_option linter.unusedSimpArgs false
set_option maxRecDepth 10000 in
set_option maxHeartbeats 4000000 in
theorem k10_2 (c : Cf) (hc : c.Ok) (kind : Int) (hk : -9223372036854775808 ≤ kind ∧ kind < 9223372036854775808) (hq : kind % 18446744073709551616 % 5 = 2) : PureC Tryz.prog 10 [c.v, .int .i64 kind] (fun r => r = .bool true) := by
  have cA := k22
  have c1 := k35 (K := c.K) hc.1 hc.2
  have c2 := k36 (K := c.K) hc.1 hc.2
  have c3 := k16 c.R c.P c.G c.H c.B c.K
  obtain ⟨N, hN⟩ : ∃ N : Nat, N = (400 + kind % 18446744073709551616 % 2).toNat := ⟨_, rfl⟩
  have hN2 : 400 + kind % 18446744073709551616 % 2 = (N : Int) := by omega
  have hNb : N = 400 ∨ N = 401 := by omega
  have hNlt : N < 2 ^ 20 := by omega
  have hzl := zC_len N
  have hza := zC_atoms N
  dsimp only [zC] at hzl hza
  have hs := fun t ht => seven c hc ⟨[], [], zL N, []⟩ ⟨nil_ok, nil_ok, zL_ok hNlt, nil_ok⟩ (.agg [.nils, .nils, .sl (zerosV zC N) N, .nils]) (.agg (.cons .nils (.cons .nils (.cons (zL_vw N) (.cons .nils .nil))))) (noD_zero (fun x hx => by cases hx)) t ht (k33 c hc ⟨[], [], zL N, []⟩ ⟨nil_ok, nil_ok, zL_ok hNlt, nil_ok⟩)
  have hfN : Brd.fits 400 (⟨[], [], zL N, []⟩ : Brd) = decide (N ≤ 400) := by simp only [Brd.fits, zL_fits, okL_nil, Bool.and_true, Bool.true_and]
  have hq0 : ¬ kind % 18446744073709551616 % 5 = 0 := by omega
  have hq1 : ¬ kind % 18446744073709551616 % 5 = 1 := by omega
  have hq3 : ¬ kind % 18446744073709551616 % 5 = 3 := by omega
  have hq4 : ¬ kind % 18446744073709551616 % 5 = 4 := by omega
  refine pureC_of_wp .x mixed ok10 rfl ?_
  unfold c10
  rw [rep6]
  dsimp only [argE, Cf.v, cfgV]
  refine W.run ?_
  rw [← hN, hN2]
  by_cases hNN : N ≤ 400
  · obtain ⟨d1, d2, d3, d4, d5, d6, d7⟩ := hs true (hfN.trans (decide_eq_true hNN))
    simp only [if_true, zC] at d1 d2 d3 d4 d5 d6 d7
    clear hs hfN hc c1 c2 c3
    refine W.run ?_
    rfl
  · obtain ⟨d1, d2, d3, d4, d5, d6, d7⟩ := hs false (hfN.trans (decide_eq_false hNN))
    simp only [Bool.false_eq_true, if_false, zC] at d1 d2 d3 d4 d5 d6 d7
    clear hs hfN hc c1 c2 c3
    refine W.run ?_
    rfl
end Go.Dp
