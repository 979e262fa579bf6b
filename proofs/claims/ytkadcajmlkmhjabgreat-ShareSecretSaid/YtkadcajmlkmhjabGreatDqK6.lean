import Derived.Test.YtkadcajmlkmhjabGreatDqK5
namespace Go.Dp
open Go.RowKit Go.Proofs
attribute [local irreducible] wp wpOps wpOp1 CallW CallT kSeq kBlk kLoop kReg retP retR kAsg kRound kRf
set_option linter.unusedVariables false

theorem k65s (lo hi x : Int) : PureC Tryz.prog 65 [.int .i64 lo, .int .i64 hi, .sl [.int .i64 x] 1] (fun r => r = .bool (decide (lo ≤ x ∧ x ≤ hi))) := by
  have h := k65 lo hi [x] 1 rfl (by simp)
  simpa [inB] using h
theorem k73t {n : Int} (h0 : -2^63 ≤ n) (hn : n < 2^40) (h : PrimeI n) : PureC Tryz.prog 73 [.int .i64 n] (fun r => r = .bool true) := by
  have := k73 n h0 hn; rwa [primeB_of h] at this
theorem k73f {n : Int} (h0 : -2^63 ≤ n) (hn : n < 2^40) (h : ¬ PrimeI n) : PureC Tryz.prog 73 [.int .i64 n] (fun r => r = .bool false) := by
  have := k73 n h0 hn; rwa [primeB_not h] at this

set_option maxRecDepth 10000 in
theorem k43 {R P G : Int} (h : GroupI R P G) : PureC Tryz.prog 43 [grp R P G] (fun r => r = .int .i64 0) := by
  obtain ⟨hR, hP, hd, hG, pR, pP, one⟩ := h
  refine pureC_of_wp .x mixed ok43 rfl ?_
  unfold c43
  dsimp only [argE]
  refine W.go ?_
  refine W.cl (k65s 3 2147483647 R) ?_
  refine W.go ?_
  refine W.cl (k65s 3 65521 P) ?_
  refine W.go ?_
  refine W.cl (k65s 2 (R - 1) G) ?_
  refine W.go ?_
  refine W.cl (k73t (by omega) (by omega) pR) ?_
  refine W.go ?_
  refine W.cl (k73t (by omega) (by omega) pP) ?_
  refine W.go ?_
  refine W.cl (k68 G P R (by omega) (by omega) (by omega) (by omega) (by omega)) ?_
  refine W.go ?_
  rfl

set_option maxRecDepth 10000 in
theorem k43f {R P G : Int} (b : (-2^63 ≤ R ∧ R < 2^63) ∧ (-2^63 ≤ P ∧ P < 2^63) ∧ (-2^63 ≤ G ∧ G < 2^63)) (h : ¬ GroupI R P G) : PureC Tryz.prog 43 [grp R P G] (fun r => r = .int .i64 80) := by
  refine pureC_of_wp .x mixed ok43 rfl ?_
  unfold c43
  dsimp only [argE]
  refine W.go ?_
  refine W.cl (k65s 3 2147483647 R) ?_
  by_cases hR : 3 ≤ R ∧ R ≤ 2147483647
  case neg => refine W.go ?_; rfl
  refine W.go ?_
  refine W.cl (k65s 3 65521 P) ?_
  by_cases hP : 3 ≤ P ∧ P ≤ 65521
  case neg => refine W.go ?_; rfl
  by_cases hd : (R - 1) % P = 0
  case neg => refine W.go ?_; rfl
  refine W.go ?_
  refine W.cl (k65s 2 (R - 1) G) ?_
  by_cases hG : 2 ≤ G ∧ G < R
  case neg => refine W.go ?_; rfl
  refine W.go ?_
  by_cases pR : PrimeI R
  case neg => refine W.cl (k73f (by omega) (by omega) pR) ?_; refine W.go ?_; rfl
  refine W.cl (k73t (by omega) (by omega) pR) ?_
  refine W.go ?_
  by_cases pP : PrimeI P
  case neg => refine W.cl (k73f (by omega) (by omega) pP) ?_; refine W.go ?_; rfl
  refine W.cl (k73t (by omega) (by omega) pP) ?_
  refine W.go ?_
  refine W.cl (k68 G P R (by omega) (by omega) (by omega) (by omega) (by omega)) ?_
  have one : ¬ G ^ P.toNat % R = 1 := fun one => h ⟨hR, hP, hd, hG, pR, pP, one⟩
  refine W.go ?_
  rfl

set_option maxRecDepth 10000 in
theorem k67 (R P G : Int) : PureC Tryz.prog 67 [grp R P G] (fun r => r = .int .i64 R) := by
  refine pureC_of_wp .x mixed ok67 rfl ?_
  unfold c67
  dsimp only [argE]
  refine W.go ?_
  rfl

set_option maxRecDepth 10000 in
theorem k66 {R P G : Int} (hP : 3 ≤ P ∧ P ≤ 65521) (A : List Int) (len : Nat) (hl : len = A.length) (hlen : A.length < 2 ^ 40) : PureC Tryz.prog 66 [grp R P G, .sl (A.map (V.int .i64)) len] (fun r => r = .bool (inB 0 (P - 1) A)) := by
  refine pureC_of_wp .x mixed ok66 rfl ?_
  unfold c66
  dsimp only [argE]
  refine W.go ?_
  refine W.cl (k65 0 (P - 1) A len hl hlen) ?_
  refine W.go ?_
  rfl
theorem k66s {R P G : Int} (hP : 3 ≤ P ∧ P ≤ 65521) (x : Int) : PureC Tryz.prog 66 [grp R P G, .sl [.int .i64 x] 1] (fun r => r = .bool (decide (0 ≤ x ∧ x < P))) := by
  have h := k66 (R := R) (G := G) hP [x] 1 rfl (by simp)
  have e : decide (0 ≤ x ∧ x < P) = decide (0 ≤ x ∧ x ≤ P - 1) := by congr 1; apply propext; omega
  rw [e]
  simpa [inB] using h

set_option maxRecDepth 10000 in
theorem k62 {R P G : Int} (h : GroupI R P G) (n : Int) (hn : 0 ≤ n) (hn2 : n < 2 ^ 63) : PureC Tryz.prog 62 [grp R P G, .int .i64 n] (fun r => r = .int .i64 (G ^ n.toNat % R)) := by
  obtain ⟨hR, hP, hd, hG, pR, pP, one⟩ := h
  refine pureC_of_wp .x mixed ok62 rfl ?_
  unfold c62
  dsimp only [argE]
  refine W.go ?_
  refine W.cl (k67 R P G) ?_
  refine W.go ?_
  refine W.cl (k68 G n R (by omega) (by omega) (by omega) (by omega) (by omega)) ?_
  refine W.go ?_
  rfl
end Go.Dp
