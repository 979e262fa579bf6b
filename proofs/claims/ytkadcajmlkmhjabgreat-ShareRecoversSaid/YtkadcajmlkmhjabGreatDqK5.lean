import Derived.Test.YtkadcajmlkmhjabGreatDqK3
import Derived.Test.YtkadcajmlkmhjabGreatDqK4
namespace Go.Dp
open Go.RowKit Go.Proofs
attribute [local irreducible] wp wpOps wpOp1 CallW CallT kSeq kBlk kLoop kReg retP retR kAsg kRound kRf
set_option linter.unusedVariables false

set_option maxRecDepth 10000 in
theorem k49 (m a b : Int) (hm : 0 < m) (h0 : 0 ≤ a * b) (h1 : a * b < 2 ^ 62) : PureC Tryz.prog 49 [.int .i64 m, .int .i64 a, .int .i64 b] (fun r => r = .int .i64 (a * b % m)) := by
  refine pureC_of_wp .x mixed ok49 rfl ?_
  unfold c49
  dsimp only [argE]
  refine W.go ?_
  rfl

set_option maxRecDepth 10000 in
theorem k97 (m a b : Int) (hm : 0 < m) (h0 : 0 ≤ a * b) (h1 : a * b < 2 ^ 62) : PureC Tryz.prog 97 [.int .i64 a, .int .i64 b, .fp [.clo (.func 49) [] []] 0, .fp [.int .i64 m] 0] (fun r => r = .int .i64 (a * b % m)) := by
  refine pureC_of_wp .x mixed ok97 rfl ?_
  unfold c97
  dsimp only [argE]
  refine W.go ?_
  refine W.cl (k49 m a b hm h0 h1) ?_
  refine W.go ?_
  rfl

set_option maxRecDepth 10000 in
theorem k96 (b e m : Int) (hb : 0 ≤ b) (hbm : b < m) (he : 0 ≤ e) (he2 : e < 2^63) (hm : 1 < m) (hm2 : m < 2^31) : PureC Tryz.prog 96 [.clo (.func 97) [] [.fp [.clo (.func 49) [] []] 0, .fp [.int .i64 m] 0], .int .i64 1, .int .i64 b, .int .i64 e] (fun r => r = .int .i64 (b ^ e.toNat % m)) := by
  refine pureC_of_wp .x mixed ok96 rfl ?_
  unfold c96
  dsimp only [argE]
  refine W.go ?_
  refine W.lp (fun x : Int × Int × Int => [(0, .clo (.func 97) [] [.fp [.clo (.func 49) [] []] 0, .fp [.int .i64 m] 0]), (2, .int .i64 x.1), (3, .int .i64 x.2.1), (9, .int .i64 x.2.2)]) (fun _ _ => none)
    (fun x => (0 ≤ x.1 ∧ x.1 < m) ∧ (0 ≤ x.2.2 ∧ x.2.2 < m) ∧ (0 ≤ x.2.1 ∧ x.2.1 < 2^63) ∧ (x.2.2 * x.1 ^ x.2.1.toNat) % m = b ^ e.toNat % m) (fun x => x.2.1.toNat) (b, e, 1) rfl (HS.refl _) ?_ ?_
  · dsimp only
    refine ⟨⟨hb, hbm⟩, ⟨by omega, hm⟩, ⟨he, he2⟩, ?_⟩
    rw [Int.one_mul]
  rintro ⟨b', e', r⟩ nx ⟨⟨h1, h1'⟩, ⟨h2, h2'⟩, ⟨h3, h3'⟩, h4⟩ hnx
  dsimp only at *
  have p1 := mul_small h2 h1 h2' h1' hm2
  have p2 := mul_small h1 h1 h1' h1' hm2
  by_cases hz : 0 < e'
  · by_cases ho : e' % 2 = 1
    · refine W.go ?_
      refine W.cl (k97 m r b' (by omega) p1.1 p1.2) ?_
      refine W.go ?_
      refine W.cl (k97 m b' b' (by omega) p2.1 p2.2) ?_
      refine W.go ?_
      refine W.kl (b' * b' % m, e' / 2, r * b' % m) ?_ ?_ ?_ ?_ ?_
      · exact rfl
      · exact HS.refl _
      · omega
      · dsimp only; refine ⟨⟨Int.emod_nonneg _ (by omega), Int.emod_lt_of_pos _ (by omega)⟩, ⟨Int.emod_nonneg _ (by omega), Int.emod_lt_of_pos _ (by omega)⟩, ⟨by omega, by omega⟩, ?_⟩
        rw [sq_step _ _ _ _ (by assumption) (by assumption)]; exact h4
      · dsimp only; omega
    · refine W.go ?_
      refine W.cl (k97 m b' b' (by omega) p2.1 p2.2) ?_
      refine W.go ?_
      refine W.kl (b' * b' % m, e' / 2, r) ?_ ?_ ?_ ?_ ?_
      · exact rfl
      · exact HS.refl _
      · omega
      · dsimp only; refine ⟨⟨Int.emod_nonneg _ (by omega), Int.emod_lt_of_pos _ (by omega)⟩, ⟨h2, h2'⟩, ⟨by omega, by omega⟩, ?_⟩
        rw [sq_step0 _ _ _ _ (by assumption) (by assumption)]; exact h4
      · dsimp only; omega
  · refine W.go ?_
    have : e' = 0 := by omega
    subst this
    simp only [Int.toNat_zero, Int.pow_zero, Int.mul_one] at h4
    rw [← h4, Int.emod_eq_of_lt h2 h2']

set_option maxRecDepth 10000 in
theorem k68 (a e m : Int) (ha : 0 ≤ a) (he : 0 ≤ e) (he2 : e < 2^63) (hm : 1 < m) (hm2 : m < 2^31) : PureC Tryz.prog 68 [.int .i64 m, .int .i64 a, .int .i64 e] (fun r => r = .int .i64 (a ^ e.toNat % m)) := by
  refine pureC_of_wp .x mixed ok68 rfl ?_
  unfold c68
  dsimp only [argE]
  refine W.go ?_
  refine W.cl (k96 (a % m) e m (Int.emod_nonneg _ (by omega)) (Int.emod_lt_of_pos _ (by omega)) he he2 hm hm2) ?_
  rw [pmod]
  refine W.go ?_
  rfl
end Go.Dp
