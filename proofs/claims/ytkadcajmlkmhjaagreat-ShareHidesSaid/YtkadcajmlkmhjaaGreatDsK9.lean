import Derived.Test.YtkadcajmlkmhjaaGreatDsK8
import Derived.Test.YtkadcajmlkmhjaaGreatDsAw
namespace Go.Dp
open Go.RowKit Go.Proofs
attribute [local irreducible] wp wpOps wpOp1 CallW CallT kSeq kBlk kLoop kReg retP retR kAsg kRound kRf
set_option linter.unusedVariables false

theorem k18 {p R G : Int} (b0 : -2^63 ≤ p) (b1 : p < 2^63) : ∃ R P G, GroupI R P G ∧ PureC Tryz.prog 18 [.int .i64 p] (fun r => r = .tup [grp R P G, grp R P G]) := by
  by_cases hp : 3 ≤ p ∧ p ≤ 65521 ∧ PrimeI p
  · obtain ⟨R, G, K, h, hf, hg⟩ := find_ex hp.2.2 hp.1 hp.2.1
    exact ⟨R, p, G, hg, k18a hf⟩
  · have : (p % 18446744073709551616 % 12).toNat < pr12.length := by show _ < 12; omega
    obtain ⟨q1, q2, q3⟩ := pr12_ok _ (List.getElem_mem this)
    obtain ⟨R, G, K, h, hf, hg⟩ := find_ex q1 q2 q3
    exact ⟨R, _, G, hg, k18b b0 b1 (by by_cases a : p < 3; exact .inl a; by_cases b : 65521 < p; exact .inr (.inl b); exact .inr (.inr fun c => hp ⟨by omega, by omega, c⟩)) (List.getElem?_eq_getElem this) hf⟩

/-- one round of the law -/
theorem k7 (p n x : Int) (b0 : -2^63 ≤ p ∧ p < 2^63) (b1 : -2^63 ≤ n ∧ n < 2^63) (b2 : -2^63 ≤ x ∧ x < 2^63) : PureC Tryz.prog 7 [.int .i64 p, .int .i64 n, .int .i64 x] (fun r => r = .bool true) := by
  obtain ⟨R, P, G, hg, hk⟩ := k18 (R := 0) (G := 0) b0.1 b0.2
  have hR := hg.hR
  have hP := hg.hP
  refine pureC_of_wp .x mixed ok7 rfl ?_
  unfold c7
  dsimp only [argE]
  refine W.go ?_
  refine W.cl hk ?_
  refine W.go ?_
  refine W.lp (fun y : Int × Int × Int => [(1, .int .i64 y.2.1), (2, .int .i64 y.2.2), (7, .ptr 48 0 0), (8, .ptr 56 0 0), (9, .int .i64 y.1)]) (fun _ => Hp.put (Hp.put (fun _ => none) 48 { cells := [.int .i64 R, .int .i64 P, .int .i64 G], sz := 3 }) 56 { cells := [.int .i64 R, .int .i64 P, .int .i64 G], sz := 3 })
    (fun y => (0 ≤ y.1 ∧ y.1 ≤ 2) ∧ (-2^63 ≤ y.2.1 ∧ y.2.1 < 2^63) ∧ (-2^63 ≤ y.2.2 ∧ y.2.2 < 2^63)) (fun y => (2 - y.1).toNat) (0, n, x) rfl ?_ ?_ ?_
  · exact HS.refl _
  · exact ⟨⟨by omega, by omega⟩, b1, b2⟩
  rintro ⟨k, n', x'⟩ nx ⟨⟨hk0, hk1⟩, hn1, hx1⟩ hnx
  have e1 : 0 ≤ n' % 18446744073709551616 % P ∧ n' % 18446744073709551616 % P < P := ⟨Int.emod_nonneg _ (by omega), Int.emod_lt_of_pos _ (by omega)⟩
  have e2 : 0 ≤ x' % 18446744073709551616 % R ∧ x' % 18446744073709551616 % R < R := ⟨Int.emod_nonneg _ (by omega), Int.emod_lt_of_pos _ (by omega)⟩
  have e3 : 0 ≤ n' % P ∧ n' % P < P := ⟨Int.emod_nonneg _ (by omega), Int.emod_lt_of_pos _ (by omega)⟩
  have k28a := k28 hg x'
  have k29a := k29 hg x'
  dsimp only at *
  by_cases hk2 : k < 2
  · by_cases hn : 0 ≤ n' ∧ n' < P
    · have a1 := k26 hg n' hn.1 hn.2
      have a2 := k27 hg n' hn.1 hn1.2
      have a3 := k28 hg (G ^ n'.toNat % R)
      rw [hasB_pow hg] at a3
      clear hg
      refine W.go ?_
      refine W.cl a1 ?_
      refine W.go ?_
      refine W.cl a2 ?_
      refine W.go ?_
      refine W.cl a3 ?_
      refine W.go ?_
      refine W.cl k28a ?_
      refine W.go ?_
      refine W.cl k29a ?_
      refine W.go ?_
      refine W.kl (k + 1, _, _) rfl (HS.refl _) (by omega) ?_ ?_
      · dsimp only; omega
      · dsimp only; omega
    · have a1 := k26f hg n' hn
      clear hg
      by_cases hn2 : n' < 0
      · refine W.go ?_
        refine W.cl a1 ?_
        refine W.go ?_
        refine W.cl k28a ?_
        refine W.go ?_
        refine W.cl k29a ?_
        refine W.go ?_
        refine W.kl (k + 1, _, _) rfl (HS.refl _) (by omega) ?_ ?_
        · dsimp only; omega
        · dsimp only; omega
      · have hn3 : P ≤ n' := by omega
        refine W.go ?_
        refine W.cl a1 ?_
        refine W.go ?_
        refine W.cl k28a ?_
        refine W.go ?_
        refine W.cl k29a ?_
        refine W.go ?_
        refine W.kl (k + 1, _, _) rfl (HS.refl _) (by omega) ?_ ?_
        · dsimp only; omega
        · dsimp only; omega
  · refine W.go ?_
    refine W.cl k25 ?_
    refine W.go ?_
    rfl
end Go.Dp
