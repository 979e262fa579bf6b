import Derived.Test.YtkadcajmlkmhjabGreatDqN6
import Derived.Test.YtkadcajmlkmhjabGreatDqAw
namespace Go.Dp
open Go.RowKit Go.Proofs
attribute [local irreducible] wp wpOps wpOp1 CallW CallT kSeq kBlk kLoop kReg retP retR kAsg kRound kRf
set_option linter.unusedVariables false
set_option linter.unusedSimpArgs false

set_option maxRecDepth 10000 in
set_option maxHeartbeats 2000000 in
theorem k8 (R P G p : Int) (b : Bd R P G) (b0 : -2^63 ≤ p) (b1 : p < 2^63) : PureC Tryz.prog 8 [grp R P G, .int .i64 p] (fun r => r = .bool true) := by
  obtain ⟨u, v, w, t, o, k40a, k41a, hor⟩ : ∃ u v w t, ∃ o : Bool, PureC Tryz.prog 40 [.int .i64 p] (fun r => r = .tup [grp u v w, .int .i64 t]) ∧ PureC Tryz.prog 41 [.int .i64 p] (fun r => r = .tup [grp u v w, .bool o]) ∧ (o = true ∧ t = 0 ∨ o = false ∧ t = 1 ∧ u = 0 ∧ v = 0 ∧ w = 0) := by
    by_cases hp : 3 ≤ p ∧ p ≤ 65521 ∧ PrimeI p
    · obtain ⟨R, G, K, h, hf, hg⟩ := find_ex hp.2.2 hp.1 hp.2.1
      exact ⟨R, p, G, 0, true, k40 hf, k41 hf, .inl ⟨rfl, rfl⟩⟩
    · have h3 : p < 3 ∨ 65521 < p ∨ ¬ PrimeI p := by by_cases a : p < 3; exact .inl a; by_cases b : 65521 < p; exact .inr (.inl b); exact .inr (.inr fun c => hp ⟨by omega, by omega, c⟩)
      exact ⟨0, 0, 0, 1, false, k40f b0 b1 h3, k41f b0 b1 h3, .inr ⟨rfl, rfl, rfl, rfl, rfl⟩⟩
  have hfin : ∀ (n1 : Nat) (H1 : Hp) (E : Env), True := fun _ _ _ => trivial
  by_cases hg : GroupI R P G
  · have c1 := k42 hg
    have c2 := k43 hg
    clear hg b b0 b1 hfin
    rcases hor with ⟨ho, ht⟩ | ⟨ho, ht, hu, hv, hw⟩
    · subst ho ht
      refine pureC_of_wp .x mixed ok8 rfl ?_
      unfold c8
      dsimp only [argE]
      refine W.go ?_
      refine W.cl k40a ?_
      refine W.go ?_
      refine W.cl k41a ?_
      refine W.go ?_
      refine W.cl c1 ?_
      refine W.go ?_
      refine W.cl c2 ?_
      refine W.go ?_
      refine W.cl k18 ?_
      refine W.go ?_
      rfl
    · subst ho ht hu hv hw
      refine pureC_of_wp .x mixed ok8 rfl ?_
      unfold c8
      dsimp only [argE]
      refine W.go ?_
      refine W.cl k40a ?_
      refine W.go ?_
      refine W.cl k41a ?_
      refine W.go ?_
      refine W.cl c1 ?_
      refine W.go ?_
      refine W.cl c2 ?_
      refine W.go ?_
      refine W.cl k18 ?_
      refine W.go ?_
      rfl
  · have c1 := k42f b hg
    have c2 := k43f b hg
    have d39 := k39i b hg
    have d19 := k19i b hg
    have d20 := k20i b hg
    have d11 := k11i b hg
    have d12 := k12i b hg
    have d44 := k44i b hg
    have d21 := k21i b hg
    have d28 := k28i b hg
    have d33 := k33i b hg
    have d35 := k35i b hg
    have d45 := k45i b hg
    have d25 := k25i b hg
    have d31 := k31i b hg
    clear hg b b0 b1 hfin
    rcases hor with ⟨ho, ht⟩ | ⟨ho, ht, hu, hv, hw⟩
    · subst ho ht
      refine pureC_of_wp .x mixed ok8 rfl ?_
      unfold c8
      dsimp only [argE]
      refine W.go ?_
      refine W.cl k40a ?_
      refine W.go ?_
      refine W.cl k41a ?_
      refine W.go ?_
      refine W.cl c1 ?_
      refine W.go ?_
      refine W.cl c2 ?_
      refine W.go ?_
      refine W.cl d39 ?_
      refine W.go ?_
      refine W.cl d19 ?_
      refine W.go ?_
      refine W.cl d20 ?_
      refine W.go ?_
      refine W.cl d11 ?_
      refine W.go ?_
      refine W.cl d12 ?_
      refine W.go ?_
      refine W.cl d44 ?_
      refine W.go ?_
      refine W.cl d21 ?_
      refine W.go ?_
      refine W.cl d28 ?_
      refine W.go ?_
      refine W.cl d33 ?_
      refine W.go ?_
      refine W.cl d35 ?_
      refine W.go ?_
      refine W.cl d45 ?_
      refine W.go ?_
      refine W.cl d25 ?_
      refine W.go ?_
      refine W.cl d31 ?_
      refine W.go ?_
      refine W.cl k18 ?_
      refine W.go ?_
      rfl
    · subst ho ht hu hv hw
      refine pureC_of_wp .x mixed ok8 rfl ?_
      unfold c8
      dsimp only [argE]
      refine W.go ?_
      refine W.cl k40a ?_
      refine W.go ?_
      refine W.cl k41a ?_
      refine W.go ?_
      refine W.cl c1 ?_
      refine W.go ?_
      refine W.cl c2 ?_
      refine W.go ?_
      refine W.cl d39 ?_
      refine W.go ?_
      refine W.cl d19 ?_
      refine W.go ?_
      refine W.cl d20 ?_
      refine W.go ?_
      refine W.cl d11 ?_
      refine W.go ?_
      refine W.cl d12 ?_
      refine W.go ?_
      refine W.cl d44 ?_
      refine W.go ?_
      refine W.cl d21 ?_
      refine W.go ?_
      refine W.cl d28 ?_
      refine W.go ?_
      refine W.cl d33 ?_
      refine W.go ?_
      refine W.cl d35 ?_
      refine W.go ?_
      refine W.cl d45 ?_
      refine W.go ?_
      refine W.cl d25 ?_
      refine W.go ?_
      refine W.cl d31 ?_
      refine W.go ?_
      refine W.cl k18 ?_
      refine W.go ?_
      rfl
end Go.Dp
