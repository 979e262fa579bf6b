/- DrawChecks on a draw: an answer with 65 numbers. -/
import Derived.Test.YtlbjgnkjicifhaaGreatDwL10z
namespace Go.Dp
open Go.RowKit Go.Proofs
attribute [local irreducible] wp wpOps wpOp1 CallW CallT kSeq kBlk kLoop kReg retP retR kAsg kRound kRf kCut kItr kItr2
set_option linter.unusedVariables false
set_option linter.unusedSimpArgs false
theorem z65_len (m : Nat) : (zerosV [V.int .i64 0] m).length = m := by rw [zerosV_rep]; simp
theorem z65_atoms (m : Nat) : ∀ v ∈ zerosV [V.int .i64 0] m, v.atom = true := fun v h => by
  rw [zerosV_rep] at h; rw [List.eq_of_mem_replicate h]; rfl
def zA : Ln := ⟨0, 0, 0, List.replicate 65 0⟩
theorem zA_eq : slI zA.nums = .sl (zerosV [V.int .i64 0] 65) 65 := by
  rw [zerosV_rep]
  show V.sl ((List.replicate 65 (0 : Int)).map (V.int .i64)) (List.replicate 65 (0 : Int)).length = _
  rw [List.map_replicate, List.length_replicate]
theorem zA_ok : LnsB [zA] := ⟨by decide, fun x hx => by
  rw [List.mem_singleton.1 hx]
  exact ⟨by simp [zA], fun n hn => by rw [List.eq_of_mem_replicate hn]; unfold B64; omega⟩⟩
theorem zA_lin : linV [zA] = .sl [.int .i64 0, .int .i64 0, .int .i64 0, .sl (zerosV [V.int .i64 0] 65) 65] 1 := by
  show V.sl (lnK zA ++ []) 1 = _
  rw [List.append_nil]
  show V.sl [.int .i64 0, .int .i64 0, .int .i64 0, slI zA.nums] 1 = _
  rw [zA_eq]
abbrev zAv (m : Nat) : V := .agg [.nils, .nils, .sl [.int .i64 0, .int .i64 0, .int .i64 0, .sl (zerosV [V.int .i64 0] m) m] 1, .nils]
theorem zA_seven (c : Cf) (hc : c.Ok) (m : Nat) (hm : m = 65) :
    PureC Tryz.prog 37 [c.v, zAv m] (fun r => r = .tup [.nils, .int .i64 2]) ∧
    PureC Tryz.prog 32 [c.v, zAv m] (fun r => r = .tup [.nils, .int .i64 2]) ∧
    PureC Tryz.prog 38 [c.v, zAv m, .int .i64 1] (fun r => r = .tup [.int .i64 0, .int .i64 2]) ∧
    PureC Tryz.prog 24 [c.v, zAv m] (fun r => r = .tup [.int .i64 0, .int .i64 2]) ∧
    PureC Tryz.prog 31 [c.v, zAv m] (fun r => r = .tup [.int .i64 0, .int .i64 2]) ∧
    PureC Tryz.prog 33 [c.v, zAv m] (fun r => r = .tup [.nils, .int .i64 2]) ∧
    PureC Tryz.prog 26 [c.v, .int .i64 0, .nils, .nils, zAv m, .int .i64 9] (fun r => r = .tup [.nils, .int .i64 2]) := by
  subst hm
  have hs := seven c hc ⟨[], [], [zA], []⟩ ⟨nil_ok, nil_ok, zA_ok, nil_ok⟩ (zAv 65) (.agg (.cons .nils (.cons .nils (.cons (zA_lin ▸ .refl _) (.cons .nils .nil))))) (noD_zero (fun x hx => by cases hx)) false (by decide) (k33 c hc ⟨[], [], [zA], []⟩ ⟨nil_ok, nil_ok, zA_ok, nil_ok⟩)
  simpa only [Bool.false_eq_true, if_false] using hs
set_option maxRecDepth 10000 in
set_option maxHeartbeats 4000000 in
theorem k10_4 (c : Cf) (hc : c.Ok) (kind : Int) (hk : -9223372036854775808 ≤ kind ∧ kind < 9223372036854775808) (hq : kind % 18446744073709551616 % 5 = 4) : PureC Tryz.prog 10 [c.v, .int .i64 kind] (fun r => r = .bool true) := by
  have cA := k22
  have c1 := k35 (K := c.K) hc.1 hc.2
  have c2 := k36 (K := c.K) hc.1 hc.2
  have c3 := k16 c.R c.P c.G c.H c.B c.K
  have hq0 : ¬ kind % 18446744073709551616 % 5 = 0 := by omega
  have hq1 : ¬ kind % 18446744073709551616 % 5 = 1 := by omega
  have hq2 : ¬ kind % 18446744073709551616 % 5 = 2 := by omega
  have hq3 : ¬ kind % 18446744073709551616 % 5 = 3 := by omega
  refine pureC_of_wp .x mixed ok10 rfl ?_
  unfold c10
  rw [rep6]
  dsimp only [argE, Cf.v, cfgV]
  generalize h65 : (65 : Int) = n65
  obtain ⟨m, rfl⟩ : ∃ m : Nat, n65 = m := ⟨n65.toNat, by omega⟩
  have hm : m = 65 := by omega
  have hzl := z65_len m
  have hza := z65_atoms m
  obtain ⟨d1, d2, d3, d4, d5, d6, d7⟩ := zA_seven c hc m hm
  clear h65
  refine W.run ?_
  rfl
end Go.Dp
