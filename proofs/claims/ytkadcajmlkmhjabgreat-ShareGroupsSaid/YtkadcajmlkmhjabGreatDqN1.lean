import Derived.Test.YtkadcajmlkmhjabGreatDqK8
namespace Go.Dp
open Go.RowKit Go.Proofs
attribute [local irreducible] wp wpOps wpOp1 CallW CallT kSeq kBlk kLoop kReg retP retR kAsg kRound kRf
set_option linter.unusedVariables false

set_option maxRecDepth 10000 in
theorem k47 (R P G : Int) : PureC Tryz.prog 47 [grp R P G] (fun r => r = .int .i64 P) := by
  refine pureC_of_wp .x mixed ok47 rfl ?_
  unfold c47
  dsimp only [argE]
  refine W.go ?_
  rfl
set_option maxRecDepth 10000 in
theorem k50 (m a b : Int) (hm : 0 < m ∧ m < 2 ^ 31) (ha : 0 ≤ a ∧ a < m) (hb : 0 ≤ b ∧ b < m) : PureC Tryz.prog 50 [.int .i64 m, .int .i64 a, .int .i64 b] (fun r => r = .int .i64 ((a - b + m) % m)) := by
  refine pureC_of_wp .x mixed ok50 rfl ?_
  unfold c50
  dsimp only [argE]
  refine W.go ?_
  rfl
set_option maxRecDepth 10000 in
theorem k51 (m a b : Int) (hm : 0 < m) (ha : 0 ≤ a ∧ a < 2 ^ 62) (hb : 0 ≤ b ∧ b < 2 ^ 62) : PureC Tryz.prog 51 [.int .i64 m, .int .i64 a, .int .i64 b] (fun r => r = .int .i64 ((a + b) % m)) := by
  refine pureC_of_wp .x mixed ok51 rfl ?_
  unfold c51
  dsimp only [argE]
  refine W.go ?_
  rfl
set_option maxRecDepth 10000 in
theorem k52 (m a : Int) (hm : 2 < m ∧ m < 2 ^ 31) (ha : 0 ≤ a) : PureC Tryz.prog 52 [.int .i64 m, .int .i64 a] (fun r => r = .int .i64 (a ^ (m - 2).toNat % m)) := by
  refine pureC_of_wp .x mixed ok52 rfl ?_
  unfold c52
  dsimp only [argE]
  refine W.go ?_
  refine W.cl (k68 a (m - 2) m ha (by omega) (by omega) (by omega) (by omega)) ?_
  refine W.go ?_
  rfl
set_option maxRecDepth 10000 in
theorem k29 {R P G : Int} (n : Int) : PureC Tryz.prog 29 [grp R P G, .int .i64 n] (fun r => r = .bool (decide (0 ≤ n ∧ n < P))) := by
  refine pureC_of_wp .x mixed ok29 rfl ?_
  unfold c29
  dsimp only [argE]
  by_cases h1 : 0 ≤ n
  case neg => refine W.go ?_; simp [h1]
  by_cases h2 : n < P
  case neg => refine W.go ?_; simp [h2]
  refine W.go ?_
  simp [h1, h2]
theorem k66t {R P G : Int} (hP : 3 ≤ P ∧ P ≤ 65521) (x y : Int) : PureC Tryz.prog 66 [grp R P G, .sl [.int .i64 x, .int .i64 y] 2] (fun r => r = .bool (decide (0 ≤ x ∧ x < P) && decide (0 ≤ y ∧ y < P))) := by
  have h := k66 (R := R) (G := G) hP [x, y] 2 rfl (by simp)
  have e : (decide (0 ≤ x ∧ x < P) && decide (0 ≤ y ∧ y < P)) = inB 0 (P - 1) [x, y] := by
    simp only [inB, List.all_cons, List.all_nil, Bool.and_true]
    congr 1 <;> (congr 1; apply propext; omega)
  rw [e]; exact h
theorem k66r {R P G : Int} (hP : 3 ≤ P ∧ P ≤ 65521) (x y z : Int) : PureC Tryz.prog 66 [grp R P G, .sl [.int .i64 x, .int .i64 y, .int .i64 z] 3] (fun r => r = .bool (decide ((0 ≤ x ∧ x < P) ∧ (0 ≤ y ∧ y < P) ∧ (0 ≤ z ∧ z < P)))) := by
  have h := k66 (R := R) (G := G) hP [x, y, z] 3 rfl (by simp)
  have e : decide ((0 ≤ x ∧ x < P) ∧ (0 ≤ y ∧ y < P) ∧ (0 ≤ z ∧ z < P)) = inB 0 (P - 1) [x, y, z] := by
    rw [Bool.eq_iff_iff]
    simp only [inB, List.all_cons, List.all_nil, Bool.and_true, Bool.and_eq_true, decide_eq_true_eq]
    omega
  rw [e]; exact h

/-- the numbers of a proof are in their ranges -/
def validB (R P x y z : Int) : Bool := hasB R P x && (decide (0 ≤ y ∧ y < P) && decide (0 ≤ z ∧ z < P))
set_option maxRecDepth 10000 in
theorem k70 {R P G : Int} (h : GroupI R P G) (x y z : Int) : PureC Tryz.prog 70 [grp x y z, grp R P G] (fun r => r = .bool (validB R P x y z)) := by
  have hP := h.hP
  refine pureC_of_wp .x mixed ok70 rfl ?_
  unfold c70 validB
  dsimp only [argE]
  refine W.go ?_
  refine W.cl (k64s h x) ?_
  cases hb : hasB R P x
  · refine W.go ?_; rfl
  refine W.go ?_
  refine W.cl (k66t hP y z) ?_
  refine W.go ?_
  rfl
set_option maxRecDepth 10000 in
theorem k72 {R P G : Int} (h : GroupI R P G) (x y z : Int) : PureC Tryz.prog 72 [grp R P G, grp x y z] (fun r => r = .bool (validB R P x y z)) := by
  refine pureC_of_wp .x mixed ok72 rfl ?_
  unfold c72 validB
  dsimp only [argE]
  refine W.go ?_
  refine W.cl (k36 h x) ?_
  cases hb : hasB R P x
  · refine W.go ?_; rfl
  refine W.go ?_
  refine W.cl (k29 y) ?_
  by_cases hy : 0 ≤ y ∧ y < P
  case neg => refine W.go ?_; simp [hy]
  refine W.go ?_
  refine W.cl (k29 z) ?_
  refine W.go ?_
  simp [hy]
end Go.Dp
