import Derived.Test.YtkadcajmlkmhjabGreatDqK1
import Derived.Test.YtkadcajmlkmhjabGreatDsM2
namespace Go.Dp
open Go.RowKit Go.Proofs
attribute [local irreducible] wp wpOps wpOp1 CallW CallT kSeq kBlk kLoop kReg retP retR kAsg kRound kRf
set_option linter.unusedVariables false

noncomputable def primeB (n : Int) : Bool := @decide (PrimeI n) (Classical.propDecidable _)
theorem primeB_iff {n : Int} : primeB n = true ↔ PrimeI n := by simp [primeB]
theorem primeB_of {n : Int} (h : PrimeI n) : primeB n = true := primeB_iff.2 h
theorem primeB_not {n : Int} (h : ¬ PrimeI n) : primeB n = false := by
  cases e : primeB n
  · rfl
  · exact absurd (primeB_iff.1 e) h

theorem sq_le {d n : Int} (h1 : 2 ≤ d) (h2 : d * d ≤ n) : 2 * d ≤ n := by
  have : 2 * d ≤ d * d := Int.mul_le_mul_of_nonneg_right h1 (by omega)
  omega
theorem sq_lt {d : Int} (h1 : 2 ≤ d) (h2 : d * d < 2 ^ 40) : d < 2 ^ 20 := by
  by_cases h : d < 2 ^ 20
  · exact h
  · have : 2 ^ 20 * 2 ^ 20 ≤ d * d := Int.mul_le_mul (by omega) (by omega) (by omega) (by omega)
    omega
theorem sq_bd {d : Int} (h1 : 2 ≤ d) (h2 : d ≤ 2 ^ 20) : 0 ≤ d * d ∧ d * d ≤ 2 ^ 40 := by
  have : d * d ≤ 2 ^ 20 * 2 ^ 20 := Int.mul_le_mul (by omega) (by omega) (by omega) (by omega)
  exact ⟨Int.mul_nonneg (by omega) (by omega), by omega⟩

set_option maxRecDepth 10000 in
theorem k74 (n : Int) (h0 : -2^63 ≤ n) (hn : n < 2^40) : PureC Tryz.prog 74 [.int .i64 n] (fun r => r = .bool (primeB n)) := by
  refine pureC_of_wp .x mixed ok74 rfl ?_
  unfold c74
  dsimp only [argE]
  refine W.go ?_
  refine W.lp (fun d : Int => [(0, .int .i64 n), (3, .int .i64 d)]) (fun _ _ => none)
    (fun d => (2 ≤ d ∧ d ≤ 2 ^ 20) ∧ ∀ e, 2 ≤ e → e < d → n % e ≠ 0) (fun d => (n + 5 - d).toNat) 2 rfl (HS.refl _) ⟨by omega, fun e h1 h2 => by omega⟩ ?_
  rintro d nx ⟨⟨h1, h2⟩, h3⟩ hnx
  have p1 := sq_bd h1 h2
  by_cases hd : d * d ≤ n
  · have p2 := sq_le h1 hd
    by_cases hz : n % d = 0
    · refine W.go ?_
      rw [primeB_not]
      rintro ⟨a, b⟩
      exact b d h1 hd hz
    · refine W.go ?_
      refine W.kl (d + 1) rfl (HS.refl _) (by omega) ⟨⟨by omega, ?_⟩, ?_⟩ (by omega)
      · have := sq_lt h1 (by omega); omega
      · intro e he1 he2
        by_cases he : e = d
        · subst he; exact hz
        · exact h3 e he1 (by omega)
  · by_cases hg : 1 < n
    · refine W.go ?_
      rw [primeB_of]
      refine ⟨hg, fun e he1 he2 => ?_⟩
      by_cases hed : e < d
      · exact h3 e he1 hed
      · exact absurd (Int.le_trans (Int.mul_le_mul (by omega : d ≤ e) (by omega : d ≤ e) (by omega) (by omega)) he2) hd
    · refine W.go ?_
      rw [primeB_not]
      exact fun a => hg a.1
set_option maxRecDepth 10000 in
theorem k73 (n : Int) (h0 : -2^63 ≤ n) (hn : n < 2^40) : PureC Tryz.prog 73 [.int .i64 n] (fun r => r = .bool (primeB n)) := by
  refine pureC_of_wp .x mixed ok73 rfl ?_
  unfold c73
  dsimp only [argE]
  refine W.go ?_
  refine W.lp (fun d : Int => [(0, .int .i64 n), (3, .int .i64 d)]) (fun _ _ => none)
    (fun d => (2 ≤ d ∧ d ≤ 2 ^ 20) ∧ ∀ e, 2 ≤ e → e < d → n % e ≠ 0) (fun d => (n + 5 - d).toNat) 2 rfl (HS.refl _) ⟨by omega, fun e h1 h2 => by omega⟩ ?_
  rintro d nx ⟨⟨h1, h2⟩, h3⟩ hnx
  have p1 := sq_bd h1 h2
  by_cases hd : d * d ≤ n
  · have p2 := sq_le h1 hd
    by_cases hz : n % d = 0
    · refine W.go ?_
      rw [primeB_not]
      rintro ⟨a, b⟩
      exact b d h1 hd hz
    · refine W.go ?_
      refine W.kl (d + 1) rfl (HS.refl _) (by omega) ⟨⟨by omega, ?_⟩, ?_⟩ (by omega)
      · have := sq_lt h1 (by omega); omega
      · intro e he1 he2
        by_cases he : e = d
        · subst he; exact hz
        · exact h3 e he1 (by omega)
  · by_cases hg : 1 < n
    · refine W.go ?_
      rw [primeB_of]
      refine ⟨hg, fun e he1 he2 => ?_⟩
      by_cases hed : e < d
      · exact h3 e he1 hed
      · exact absurd (Int.le_trans (Int.mul_le_mul (by omega : d ≤ e) (by omega : d ≤ e) (by omega) (by omega)) he2) hd
    · refine W.go ?_
      rw [primeB_not]
      exact fun a => hg a.1
end Go.Dp
