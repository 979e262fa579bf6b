import Derived.Test.YtkadcajmlkmhjabGreatDqK2
namespace Go.Dp
open Go.RowKit Go.Proofs
attribute [local irreducible] wp wpOps wpOp1 CallW CallT kSeq kBlk kLoop kReg retP retR kAsg kRound kRf
set_option linter.unusedVariables false

structure FindI (p R G K h : Int) : Prop where
  hp : PrimeI p ∧ 3 ≤ p ∧ p ≤ 65521
  hK : 0 ≤ K
  hR : R = p + 1 + K * p
  hR2 : R < 2 ^ 31
  pr : PrimeI R
  mn : ∀ k, 0 ≤ k → k < K → ¬ PrimeI (p + 1 + k * p)
  h2 : 2 ≤ h
  hh : h < R
  hG : G = h ^ ((R - 1) / p).toNat % R
  hG1 : G ≠ 1
  hmn : ∀ i, 2 ≤ i → i < h → i ^ ((R - 1) / p).toNat % R = 1

set_option maxRecDepth 10000 in
theorem k41 {p R G K h : Int} (hf : FindI p R G K h) : PureC Tryz.prog 41 [.int .i64 p] (fun r => r = .tup [.agg [.int .i64 R, .int .i64 p, .int .i64 G], .bool true]) := by
  obtain ⟨⟨hp, hp1, hp2⟩, hK, hR, hR2, hpr, hmn, h2, hh, hG, hG1, hhm⟩ := hf
  refine pureC_of_wp .x mixed ok41 rfl ?_
  unfold c41
  dsimp only [argE]
  refine W.go ?_
  refine W.cl (k74 p (by omega) (by omega)) ?_
  rw [primeB_of hp]
  refine W.go ?_
  refine W.lp (fun r : Int => [(0, .int .i64 p), (2, .ptr 0 0 0), (4, .int .i64 r)]) (fun _ => Hp.put (fun _ => none) 0 { cells := [.int .i64 0, .int .i64 0, .int .i64 0], sz := 3 })
    (fun r => ∃ k, 0 ≤ k ∧ k ≤ K ∧ r = p + 1 + k * p) (fun r => (R - r).toNat) (p + 1) rfl (HS.refl _) ⟨0, by omega, hK, by omega⟩ ?_
  rintro r nx ⟨k, hk0, hk1, hr⟩ hnx
  have hrR : r ≤ R := by
    have : k * p ≤ K * p := Int.mul_le_mul_of_nonneg_right hk1 (by omega)
    omega
  have hr0 : p + 1 ≤ r := by
    have : 0 ≤ k * p := Int.mul_nonneg hk0 (by omega)
    omega
  refine W.go ?_
  refine W.cl (k74 r (by omega) (by omega)) ?_
  by_cases hkK : k < K
  · rw [primeB_not (by rw [hr]; exact hmn k hk0 hkK)]
    have hk2 : (k + 1) * p ≤ K * p := Int.mul_le_mul_of_nonneg_right hkK (by omega)
    rw [Int.add_mul, Int.one_mul] at hk2
    refine W.go ?_
    refine W.kl (r + p) rfl (HS.refl _) (by omega) ⟨k + 1, by omega, by omega, ?_⟩ (by omega)
    rw [Int.add_mul]; omega
  have hkK2 : k = K := by omega
  have hrR2 : r = R := by rw [hr, hR, hkK2]
  subst hrR2
  rw [primeB_of hpr]
  have hq0 : 0 ≤ (r - 1) / p := Int.ediv_nonneg (by omega) (by omega)
  have hq1 : (r - 1) / p ≤ r - 1 := Int.ediv_le_self _ (by omega)
  refine W.go ?_
  refine W.lp (fun h : Int => [(0, .int .i64 p), (2, .ptr 0 0 0), (4, .int .i64 r), (5, .int .i64 h)]) (fun _ => Hp.put (fun _ => none) 0 { cells := [.int .i64 0, .int .i64 0, .int .i64 0], sz := 3 })
    (fun i => 2 ≤ i ∧ i ≤ h) (fun i => (h - i).toNat) 2 rfl (HS.refl _) ⟨by omega, h2⟩ ?_
  rintro i nx2 ⟨hi1, hi2⟩ hnx2
  refine W.go ?_
  refine W.cl (k63 i ((r - 1) / p) r (by omega) hq0 (by omega) (by omega) hR2) ?_
  by_cases hih : i < h
  · rw [hhm i hi1 hih]
    refine W.go ?_
    refine W.kl (i + 1) rfl (HS.refl _) (by omega) ⟨by omega, by omega⟩ (by omega)
  have : i = h := by omega
  subst this
  rw [← hG]
  refine W.go ?_
  refine W.cl (k63 i ((r - 1) / p) r (by omega) hq0 (by omega) (by omega) hR2) ?_
  rw [← hG]
  refine W.go ?_
  rfl

set_option maxRecDepth 10000 in
theorem k41f {p : Int} (h0 : -2^63 ≤ p) (h1 : p < 2^63) (hp : p < 3 ∨ 65521 < p ∨ ¬ PrimeI p) : PureC Tryz.prog 41 [.int .i64 p] (fun r => r = .tup [.agg [.int .i64 0, .int .i64 0, .int .i64 0], .bool false]) := by
  refine pureC_of_wp .x mixed ok41 rfl ?_
  unfold c41
  dsimp only [argE]
  by_cases h3 : p < 3
  · refine W.go ?_
    rfl
  by_cases h4 : 65521 < p
  · refine W.go ?_
    rfl
  have h5 : ¬ PrimeI p := (hp.resolve_left h3).resolve_left h4
  refine W.go ?_
  refine W.cl (k74 p (by omega) (by omega)) ?_
  rw [primeB_not h5]
  refine W.go ?_
  rfl
end Go.Dp
