import Derived.Test.YtkadcajmlkmhjaaGreatDsK3
import Derived.Test.YtkadcajmlkmhjaaGreatDsK4
namespace Go.Dp
open Go.RowKit Go.Proofs
attribute [local irreducible] wp wpOps wpOp1 CallW CallT kSeq kBlk kLoop kReg retP retR kAsg kRound kRf
set_option linter.unusedVariables false

set_option maxRecDepth 10000 in
theorem k63 (m a b : Int) (hm : 0 < m) (h0 : 0 ≤ a * b) (h1 : a * b < 2 ^ 62) : PureC Tryz.prog 63 [.int .i64 m, .int .i64 a, .int .i64 b] (fun r => r = .int .i64 (a * b % m)) := by
  refine pureC_of_wp .x mixed ok63 rfl ?_
  unfold c63
  dsimp only [argE]
  refine W.go ?_
  rfl

set_option maxRecDepth 10000 in
theorem k65 (m a b : Int) (hm : 0 < m) (h0 : 0 ≤ a * b) (h1 : a * b < 2 ^ 62) : PureC Tryz.prog 65 [.int .i64 a, .int .i64 b, .fp [.clo (.func 63) [] []] 0, .fp [.int .i64 m] 0] (fun r => r = .int .i64 (a * b % m)) := by
  refine pureC_of_wp .x mixed ok65 rfl ?_
  unfold c65
  dsimp only [argE]
  refine W.go ?_
  refine W.cl (k63 m a b hm h0 h1) ?_
  refine W.go ?_
  rfl

set_option maxRecDepth 10000 in
theorem k64 (b e m : Int) (hb : 0 ≤ b) (hbm : b < m) (he : 0 ≤ e) (he2 : e < 2^63) (hm : 1 < m) (hm2 : m < 2^31) : PureC Tryz.prog 64 [.clo (.func 65) [] [.fp [.clo (.func 63) [] []] 0, .fp [.int .i64 m] 0], .int .i64 1, .int .i64 b, .int .i64 e] (fun r => r = .int .i64 (b ^ e.toNat % m)) := by
  refine pureC_of_wp .x mixed ok64 rfl ?_
  unfold c64
  dsimp only [argE]
  refine W.go ?_
  refine W.lp (fun x : Int × Int × Int => [(0, .clo (.func 65) [] [.fp [.clo (.func 63) [] []] 0, .fp [.int .i64 m] 0]), (2, .int .i64 x.1), (3, .int .i64 x.2.1), (9, .int .i64 x.2.2)]) (fun _ _ => none)
    (fun x => (0 ≤ x.1 ∧ x.1 < m) ∧ (0 ≤ x.2.2 ∧ x.2.2 < m) ∧ (0 ≤ x.2.1 ∧ x.2.1 < 2^63) ∧ (x.2.2 * x.1 ^ x.2.1.toNat) % m = b ^ e.toNat % m) (fun x => x.2.1.toNat) (b, e, 1) rfl (HS.refl _) ?_ ?_
  · dsimp only
    refine ⟨⟨hb, hbm⟩, ⟨by omega, hm⟩, ⟨he, he2⟩, ?_⟩
    rw [Int.one_mul]
  rintro ⟨b', e', r⟩ nx ⟨⟨h1, h1'⟩, ⟨h2, h2'⟩, ⟨h3, h3'⟩, h4⟩ hnx
  dsimp only at *
  have p1 := mul_small h2 h1 h2' h1' hm2
  have p2 := mul_small h1 h1 h1' h1' hm2
  by_cases hz : 0 < e'
  · by_cases ho : e' % 2 = 1
    · refine W.go ?_
      refine W.cl (k65 m r b' (by omega) p1.1 p1.2) ?_
      refine W.go ?_
      refine W.cl (k65 m b' b' (by omega) p2.1 p2.2) ?_
      refine W.go ?_
      refine W.kl (b' * b' % m, e' / 2, r * b' % m) ?_ ?_ ?_ ?_ ?_
      · exact rfl
      · exact HS.refl _
      · omega
      · dsimp only; refine ⟨⟨Int.emod_nonneg _ (by omega), Int.emod_lt_of_pos _ (by omega)⟩, ⟨Int.emod_nonneg _ (by omega), Int.emod_lt_of_pos _ (by omega)⟩, ⟨by omega, by omega⟩, ?_⟩
        rw [sq_step _ _ _ _ (by assumption) (by assumption)]; exact h4
      · dsimp only; omega
    · refine W.go ?_
      refine W.cl (k65 m b' b' (by omega) p2.1 p2.2) ?_
      refine W.go ?_
      refine W.kl (b' * b' % m, e' / 2, r) ?_ ?_ ?_ ?_ ?_
      · exact rfl
      · exact HS.refl _
      · omega
      · dsimp only; refine ⟨⟨Int.emod_nonneg _ (by omega), Int.emod_lt_of_pos _ (by omega)⟩, ⟨h2, h2'⟩, ⟨by omega, by omega⟩, ?_⟩
        rw [sq_step0 _ _ _ _ (by assumption) (by assumption)]; exact h4
      · dsimp only; omega
  · refine W.go ?_
    have : e' = 0 := by omega
    subst this
    simp only [Int.toNat_zero, Int.pow_zero, Int.mul_one] at h4
    rw [← h4, Int.emod_eq_of_lt h2 h2']

set_option maxRecDepth 10000 in
theorem k34 (a e m : Int) (ha : 0 ≤ a) (he : 0 ≤ e) (he2 : e < 2^63) (hm : 1 < m) (hm2 : m < 2^31) : PureC Tryz.prog 34 [.int .i64 m, .int .i64 a, .int .i64 e] (fun r => r = .int .i64 (a ^ e.toNat % m)) := by
  refine pureC_of_wp .x mixed ok34 rfl ?_
  unfold c34
  dsimp only [argE]
  refine W.go ?_
  refine W.cl (k64 (a % m) e m (Int.emod_nonneg _ (by omega)) (Int.emod_lt_of_pos _ (by omega)) he he2 hm hm2) ?_
  rw [pmod]
  refine W.go ?_
  rfl
end Go.Dp
