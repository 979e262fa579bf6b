import Derived.Test.YtkadcajmlkmhjabGreatDqN5
namespace Go.Dp
open Go.RowKit Go.Proofs
attribute [local irreducible] wp wpOps wpOp1 CallW CallT kSeq kBlk kLoop kReg retP retR kAsg kRound kRf
set_option linter.unusedVariables false
set_option linter.unusedSimpArgs false

set_option maxRecDepth 10000 in
set_option maxHeartbeats 1000000 in
theorem k40 {p R G K h : Int} (hf : FindI p R G K h) : PureC Tryz.prog 40 [.int .i64 p] (fun r => r = .tup [.agg [.int .i64 R, .int .i64 p, .int .i64 G], .int .i64 0]) := by
  obtain ⟨⟨hp, hp1, hp2⟩, hK, hR, hR2, hpr, hmn, h2, hh, hG, hG1, hhm⟩ := hf
  refine pureC_of_wp .x mixed ok40 rfl ?_
  unfold c40
  dsimp only [argE]
  refine W.go ?_
  refine W.cl (k65s 3 65521 p) ?_
  refine W.go ?_
  refine W.cl (k73t (by omega) (by omega) hp) ?_
  refine W.go ?_
  refine W.lp (fun r : Int => [(0, .int .i64 p), (2, .ptr 0 0 0), (4, .int .i64 r)]) (fun _ => Hp.put (fun _ => none) 0 { cells := [.int .i64 0, .int .i64 0, .int .i64 0], sz := 3 })
    (fun r => ∃ k, 0 ≤ k ∧ k ≤ K ∧ r = p + 1 + k * p) (fun r => (R - r).toNat) (p + 1) rfl (by first | exact HS.refl _ | exact HS.skip (HS.refl _) (by simp only [Hp.put]; rw [if_neg (by omega)]) _) ⟨0, by omega, hK, by omega⟩ ?_
  rintro r nx ⟨k, hk0, hk1, hr⟩ hnx
  have hrR : r ≤ R := by
    have : k * p ≤ K * p := Int.mul_le_mul_of_nonneg_right hk1 (by omega)
    omega
  have hr0 : p + 1 ≤ r := by
    have : 0 ≤ k * p := Int.mul_nonneg hk0 (by omega)
    omega
  refine W.go ?_
  by_cases hkK : k < K
  · refine W.cl (k73f (n := r) (by omega) (by omega) (by rw [hr]; exact hmn k hk0 hkK)) ?_
    have hk2 : (k + 1) * p ≤ K * p := Int.mul_le_mul_of_nonneg_right hkK (by omega)
    rw [Int.add_mul, Int.one_mul] at hk2
    refine W.go ?_
    refine W.kl (r + p) rfl (HS.refl _) (by omega) ⟨k + 1, by omega, by omega, ?_⟩ (by omega)
    rw [Int.add_mul]; omega
  have hkK2 : k = K := by omega
  have hrR2 : r = R := by rw [hr, hR, hkK2]
  subst hrR2
  refine W.cl (k73t (by omega) (by omega) hpr) ?_
  have hq0 : 0 ≤ (r - 1) / p := Int.ediv_nonneg (by omega) (by omega)
  have hq1 : (r - 1) / p ≤ r - 1 := Int.ediv_le_self _ (by omega)
  refine W.go ?_
  refine W.lp (fun h : Int => [(0, .int .i64 p), (2, .ptr 0 0 0), (4, .int .i64 r), (5, .int .i64 h)]) (fun _ => Hp.put (fun _ => none) 0 { cells := [.int .i64 0, .int .i64 0, .int .i64 0], sz := 3 })
    (fun i => 2 ≤ i ∧ i ≤ h) (fun i => (h - i).toNat) 2 rfl (HS.refl _) ⟨by omega, h2⟩ ?_
  rintro i nx2 ⟨hi1, hi2⟩ hnx2
  refine W.go ?_
  refine W.cl (k68 i ((r - 1) / p) r (by omega) hq0 (by omega) (by omega) hR2) ?_
  by_cases hih : i < h
  · rw [hhm i hi1 hih]
    refine W.go ?_
    refine W.kl (i + 1) rfl (HS.refl _) (by omega) ⟨by omega, by omega⟩ (by omega)
  have : i = h := by omega
  subst this
  rw [← hG]
  refine W.go ?_
  rfl

set_option maxRecDepth 10000 in
theorem k40f {p : Int} (h0 : -2^63 ≤ p) (h1 : p < 2^63) (hp : p < 3 ∨ 65521 < p ∨ ¬ PrimeI p) : PureC Tryz.prog 40 [.int .i64 p] (fun r => r = .tup [.agg [.int .i64 0, .int .i64 0, .int .i64 0], .int .i64 1]) := by
  refine pureC_of_wp .x mixed ok40 rfl ?_
  unfold c40
  dsimp only [argE]
  refine W.go ?_
  refine W.cl (k65s 3 65521 p) ?_
  by_cases h3 : 3 ≤ p ∧ p ≤ 65521
  · have h5 : ¬ PrimeI p := (hp.resolve_left (by omega)).resolve_left (by omega)
    refine W.go ?_
    refine W.cl (k73f (by omega) (by omega) h5) ?_
    refine W.go ?_
    rfl
  · clear hp
    refine W.go ?_
    rfl
end Go.Dp
