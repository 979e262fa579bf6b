import Derived.Test.YtkadcajmlkmhjabGreatDqK8
namespace Go.Dp
open Go.RowKit Go.Proofs
attribute [local irreducible] wp wpOps wpOp1 CallW CallT kSeq kBlk kLoop kReg retP retR kAsg kRound kRf
set_option linter.unusedVariables false
set_option linter.unusedSimpArgs false

set_option maxRecDepth 10000 in
theorem k47 (R P G : Int) : PureC Tryz.prog 47 [grp R P G] (fun r => r = .int .i64 P) := by
  refine pureC_of_wp .x mixed ok47 rfl ?_
  unfold c47
  dsimp only [argE]
  refine W.go ?_
  rfl
set_option maxRecDepth 10000 in
theorem k51 (m a b : Int) (hm : 0 < m) (ha : 0 ≤ a ∧ a < 2 ^ 62) (hb : 0 ≤ b ∧ b < 2 ^ 62) : PureC Tryz.prog 51 [.int .i64 m, .int .i64 a, .int .i64 b] (fun r => r = .int .i64 ((a + b) % m)) := by
  refine pureC_of_wp .x mixed ok51 rfl ?_
  unfold c51
  dsimp only [argE]
  refine W.go ?_
  rfl

/-- what checkPoly answers -/
def polyE (P : Int) (A : List Int) : Int := if A.length < 1 ∨ 16 < A.length then 2 else if inB 0 (P - 1) A = true then 0 else 1

set_option maxRecDepth 10000 in
theorem k60 {R P G : Int} (h : GroupI R P G) (A : List Int) (len : Nat) (hl : len = A.length) (hlen : A.length < 2 ^ 40) : PureC Tryz.prog 60 [grp R P G, .sl (A.map (V.int .i64)) len] (fun r => r = .int .i64 (polyE P A)) := by
  have c1 := k43 h
  have c2 := k66 (R := R) (G := G) h.hP A len hl hlen
  clear h
  subst hl
  refine pureC_of_wp .x mixed ok60 rfl ?_
  unfold c60 polyE
  dsimp only [argE]
  by_cases h1 : A.length < 1
  · rw [if_pos (.inl h1)]
    refine W.go ?_
    refine W.cl c1 ?_
    refine W.go ?_
    rfl
  by_cases h2 : 16 < A.length
  · rw [if_pos (.inr h2)]
    refine W.go ?_
    refine W.cl c1 ?_
    refine W.go ?_
    rfl
  rw [if_neg (by omega)]
  cases hb : inB 0 (P - 1) A
  · rw [hb] at c2
    refine W.go ?_
    refine W.cl c1 ?_
    refine W.go ?_
    refine W.cl c2 ?_
    refine W.go ?_
    rfl
  · rw [hb] at c2
    refine W.go ?_
    refine W.cl c1 ?_
    refine W.go ?_
    refine W.cl c2 ?_
    refine W.go ?_
    rfl

set_option maxRecDepth 10000 in
theorem k61 {R P G : Int} (hP : 3 ≤ P ∧ P ≤ 65521) (A : List Int) (len : Nat) (hl : len = A.length) (hlen : A.length < 2 ^ 40) (hA : ∀ a ∈ A, 0 ≤ a ∧ a < P) (x : Int) (hx : 0 ≤ x) : PureC Tryz.prog 61 [grp R P G, .sl (A.map (V.int .i64)) len, .int .i64 x] (fun r => r = .int .i64 (valM P x A)) := by
  subst hl
  refine pureC_of_wp .x mixed ok61 rfl ?_
  unfold c61
  dsimp only [argE]
  refine W.go ?_
  refine W.lp (fun y : Int × Int => [(1, .sl (A.map (V.int .i64)) A.length), (2, .int .i64 x), (3, .ptr 0 0 0), (7, .int .i64 y.2), (8, .int .i64 y.1)]) (fun _ => Hp.put (fun _ => none) 0 { cells := [.int .i64 R, .int .i64 P, .int .i64 G], sz := 3 })
    (fun y => (-1 ≤ y.1 ∧ y.1 < A.length) ∧ (0 ≤ y.2 ∧ y.2 < P) ∧ y.2 = valM P x (A.drop (y.1 + 1).toNat)) (fun y => (y.1 + 1).toNat) ((A.length : Int) - 1, 0) rfl (HS.refl _) ?_ ?_
  · refine ⟨by dsimp only; omega, by dsimp only; omega, ?_⟩
    dsimp only
    rw [show ((A.length : Int) - 1 + 1).toNat = A.length by omega, List.drop_length]; rfl
  rintro ⟨i, out⟩ nx ⟨⟨h1, h2⟩, h3, h4⟩ hnx
  dsimp only at *
  by_cases hi : 0 ≤ i
  · have hlt : i.toNat < A.length := by omega
    have ha := hA A[i.toNat] (List.getElem_mem hlt)
    have e1 : 0 ≤ x % P ∧ x % P < P := ⟨Int.emod_nonneg _ (by omega), Int.emod_lt_of_pos _ (by omega)⟩
    have p1 := mul_small h3.1 e1.1 h3.2 e1.2 (by omega)
    have c1 := k49 P out (x % P) (by omega) p1.1 p1.2
    have e2 : 0 ≤ out * (x % P) % P ∧ out * (x % P) % P < P := ⟨Int.emod_nonneg _ (by omega), Int.emod_lt_of_pos _ (by omega)⟩
    have c2 := k51 P (out * (x % P) % P) A[i.toNat] (by omega) (by omega) (by omega)
    refine W.go ?_
    refine W.cl (k47 R P G) ?_
    refine W.go ?_
    refine W.cl (k47 R P G) ?_
    refine W.go ?_
    refine W.cl c1 ?_
    refine W.go ?_
    refine W.cl c2 ?_
    refine W.go ?_
    refine W.kl (i - 1, _) rfl (HS.refl _) (by omega) ⟨by dsimp only; omega, ⟨Int.emod_nonneg _ (by omega), Int.emod_lt_of_pos _ (by omega)⟩, ?_⟩ (by dsimp only; omega)
    dsimp only
    rw [show (i - 1 + 1).toNat = i.toNat by omega, List.drop_eq_getElem_cons hlt, h4, show (i + 1).toNat = i.toNat + 1 by omega]
    rfl
  · refine W.go ?_
    rw [h4, show (i + 1).toNat = 0 by omega]
    rfl
end Go.Dp
