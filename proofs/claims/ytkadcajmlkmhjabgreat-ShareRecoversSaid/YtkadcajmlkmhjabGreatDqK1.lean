import Derived.Test.YtkadcajmlkmhjabGreatDqTPc
import Derived.Test.YtkadcajmlkmhjabGreatDpE
import Derived.Test.YtkadcajmlkmhjabGreatDsM4
namespace Go.Dp
open Go.RowKit Go.Proofs
attribute [local irreducible] wp wpOps wpOp1 CallW CallT kSeq kBlk kLoop kReg retP retR kAsg kRound kRf
set_option linter.unusedVariables false
theorem pmod (a m : Int) (k : Nat) : (a % m) ^ k % m = a ^ k % m := by
  induction k with
  | zero => simp
  | succ k ih => rw [Int.pow_succ, Int.pow_succ, Int.mul_emod, ih, Int.emod_emod, ← Int.mul_emod]

theorem mul_small {a b m : Int} (ha : 0 ≤ a) (hb : 0 ≤ b) (h1 : a < m) (h2 : b < m) (hm : m < 2 ^ 31) : 0 ≤ a * b ∧ a * b < 2 ^ 62 := by
  refine ⟨Int.mul_nonneg ha hb, ?_⟩
  have h3 : a * b ≤ 2147483647 * 2147483647 := Int.mul_le_mul (by omega) (by omega) hb (by omega)
  omega

theorem sq_step (r b m : Int) (e : Int) (he : 0 < e) (h : e % 2 = 1) : (r * b % m * (b * b % m) ^ (e / 2).toNat) % m = (r * b ^ e.toNat) % m := by
  have he2 : e.toNat = 2 * (e / 2).toNat + 1 := by omega
  rw [he2, Int.mul_emod, Int.emod_emod, pmod, ← Int.mul_emod, Int.pow_succ, Int.pow_mul]
  congr 1
  rw [show (b ^ 2 : Int) = b * b from by rw [Int.pow_succ, Int.pow_succ, Int.pow_zero, Int.one_mul]]
  rw [Int.mul_assoc, Int.mul_comm b]
theorem sq_step0 (r b m : Int) (e : Int) (he : 0 < e) (h : ¬ e % 2 = 1) : (r * (b * b % m) ^ (e / 2).toNat) % m = (r * b ^ e.toNat) % m := by
  have he2 : e.toNat = 2 * (e / 2).toNat := by omega
  rw [he2, Int.mul_emod, pmod, ← Int.mul_emod, Int.pow_mul]
  congr 1
  rw [show (b ^ 2 : Int) = b * b from by rw [Int.pow_succ, Int.pow_succ, Int.pow_zero, Int.one_mul]]


set_option maxRecDepth 10000 in
theorem k63 (b e m : Int) (hb : 0 ≤ b) (he : 0 ≤ e) (he2 : e < 2^63) (hm : 0 < m) (hm2 : m < 2^31) : PureC Tryz.prog 63 [.int .i64 b, .int .i64 e, .int .i64 m] (fun r => r = .int .i64 (b ^ e.toNat % m)) := by
  refine pureC_of_wp .x mixed ok63 rfl ?_
  unfold c63
  dsimp only [argE]
  refine W.go ?_
  refine W.lp (fun x : Int × Int × Int => [(0, .int .i64 x.1), (1, .int .i64 x.2.1), (2, .int .i64 m), (7, .int .i64 x.2.2)]) (fun _ _ => none)
    (fun x => (0 ≤ x.1 ∧ x.1 < m) ∧ (0 ≤ x.2.2 ∧ x.2.2 < m) ∧ (0 ≤ x.2.1 ∧ x.2.1 < 2^63) ∧ (x.2.2 * x.1 ^ x.2.1.toNat) % m = b ^ e.toNat % m) (fun x => x.2.1.toNat) (b % m, e, 1 % m) rfl (HS.refl _) ?_ ?_
  · refine ⟨⟨Int.emod_nonneg _ (by omega), Int.emod_lt_of_pos _ hm⟩, ⟨Int.emod_nonneg _ (by omega), Int.emod_lt_of_pos _ hm⟩, ⟨he, he2⟩, ?_⟩
    rw [Int.mul_emod, Int.emod_emod, pmod, ← Int.mul_emod, Int.one_mul]
  rintro ⟨b', e', r⟩ nx ⟨⟨h1, h1'⟩, ⟨h2, h2'⟩, ⟨h3, h3'⟩, h4⟩ hnx
  dsimp only at *
  have p1 := mul_small h2 h1 h2' h1' hm2
  have p2 := mul_small h1 h1 h1' h1' hm2
  by_cases hz : 0 < e'
  · by_cases ho : e' % 2 = 1
    · refine W.go ?_
      refine W.kl (b' * b' % m, e' / 2, r * b' % m) ?_ ?_ ?_ ?_ ?_
      · exact rfl
      · exact HS.refl _
      · omega
      · dsimp only; refine ⟨⟨Int.emod_nonneg _ (by omega), Int.emod_lt_of_pos _ hm⟩, ⟨Int.emod_nonneg _ (by omega), Int.emod_lt_of_pos _ hm⟩, ⟨by omega, by omega⟩, ?_⟩
        rw [sq_step _ _ _ _ (by assumption) (by assumption)]; exact h4
      · dsimp only; omega
    · refine W.go ?_
      refine W.kl (b' * b' % m, e' / 2, r) ?_ ?_ ?_ ?_ ?_
      · exact rfl
      · exact HS.refl _
      · omega
      · dsimp only; refine ⟨⟨Int.emod_nonneg _ (by omega), Int.emod_lt_of_pos _ hm⟩, ⟨h2, h2'⟩, ⟨by omega, by omega⟩, ?_⟩
        rw [sq_step0 _ _ _ _ (by assumption) (by assumption)]; exact h4
      · dsimp only; omega
  · refine W.go ?_
    have : e' = 0 := by omega
    subst this
    simp only [Int.toNat_zero, Int.pow_zero, Int.mul_one] at h4
    rw [← h4, Int.emod_eq_of_lt h2 h2']
end Go.Dp
