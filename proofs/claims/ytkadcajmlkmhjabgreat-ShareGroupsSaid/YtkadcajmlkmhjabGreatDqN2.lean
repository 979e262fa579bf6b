import Derived.Test.YtkadcajmlkmhjabGreatDqN1
namespace Go.Dp
open Go.RowKit Go.Proofs
attribute [local irreducible] wp wpOps wpOp1 CallW CallT kSeq kBlk kLoop kReg retP retR kAsg kRound kRf
set_option linter.unusedVariables false

theorem mm1 (a b c R : Int) : (a * b % R) * c % R = a * (b * c % R) % R := by
  rw [Int.mul_emod, Int.emod_emod, ← Int.mul_emod, Int.mul_assoc, Int.mul_emod a (b * c), Int.mul_emod a (b * c % R), Int.emod_emod]
theorem emul (a b R : Int) : a * (b % R) % R = a * b % R := by
  rw [Int.mul_emod, Int.emod_emod, ← Int.mul_emod]
theorem emul2 (a b R : Int) : (a % R) * b % R = a * b % R := by
  rw [Int.mul_emod, Int.emod_emod, ← Int.mul_emod]

/-- the announcement of an imitation -/
def imitV (R P G key y z : Int) : Int := (G ^ z.toNat % R) * (key ^ ((P - y) % P).toNat % R) % R
/-- a proof that holds -/
def holdsB (R P G key x y z : Int) : Bool := hasB R P key && (validB R P x y z && decide (x = imitV R P G key y z))

theorem hasB_iff {R P x : Int} : hasB R P x = true ↔ (1 ≤ x ∧ x < R) ∧ x ^ P.toNat % R = 1 := by
  simp only [hasB, Bool.and_eq_true, decide_eq_true_eq]
theorem validB_iff {R P x y z : Int} : validB R P x y z = true ↔ hasB R P x = true ∧ (0 ≤ y ∧ y < P) ∧ (0 ≤ z ∧ z < P) := by
  simp only [validB, Bool.and_eq_true, decide_eq_true_eq]

/-- the two ways to ask whether a proof holds -/
theorem holds_iff {R P G key x y z : Int} (h : GroupI R P G) (hk : hasB R P key = true) (hx : hasB R P x = true) (hy : 0 ≤ y ∧ y < P) :
    x = imitV R P G key y z ↔ G ^ z.toNat % R = x * (key ^ y.toNat % R) % R := by
  have hR := h.hR
  have hP := h.hP
  obtain ⟨hx1, hx2⟩ := hasB_iff.1 hx
  obtain ⟨hk1, hk2⟩ := hasB_iff.1 hk
  have hone : key ^ ((P - y) % P).toNat * key ^ y.toNat % R = 1 := by
    by_cases hy0 : y = 0
    · subst hy0
      rw [Int.sub_zero, Int.emod_self]
      simp only [Int.toNat_zero, Int.pow_zero, Int.mul_one]
      exact Int.emod_eq_of_lt (by omega) (by omega)
    · rw [show (P - y) % P = P - y from Int.emod_eq_of_lt (by omega) (by omega), ← Int.pow_add, show (P - y).toNat + y.toNat = P.toNat by omega]
      exact hk2
  have hone2 : (1 : Int) % R = 1 := Int.emod_eq_of_lt (by omega) (by omega)
  unfold imitV
  constructor
  · intro e
    rw [e, emul, emul, mm1, hone, Int.mul_one, Int.emod_emod]
  · intro e
    rw [e, emul, emul, mm1, Int.mul_comm (key ^ y.toNat), hone, Int.mul_one]
    exact (Int.emod_eq_of_lt (by omega) (by omega)).symm

theorem pw_small {R a : Int} (hR : 3 ≤ R ∧ R ≤ 2147483647) (n : Nat) : 0 ≤ a ^ n % R ∧ a ^ n % R < R := ⟨Int.emod_nonneg _ (by omega), Int.emod_lt_of_pos _ (by omega)⟩

set_option maxRecDepth 10000 in
theorem k71 {R P G : Int} (h : GroupI R P G) (key y z : Int) (hk : 0 ≤ key) (hy : 0 ≤ y ∧ y < P) (hz : 0 ≤ z ∧ z < P) : PureC Tryz.prog 71 [grp R P G, .int .i64 key, .int .i64 y, .int .i64 z] (fun r => r = grp (imitV R P G key y z) y z) := by
  have hR := h.hR
  have hP := h.hP
  have he : 0 ≤ (P - y) % P ∧ (P - y) % P < P := ⟨Int.emod_nonneg _ (by omega), Int.emod_lt_of_pos _ (by omega)⟩
  have p1 := pw_small (a := G) hR z.toNat
  have p2 := pw_small (a := key) hR ((P - y) % P).toNat
  have p3 := mul_small p1.1 p2.1 p1.2 p2.2 (by omega)
  have c1 := k68 key ((P - y) % P) R hk he.1 (by omega) (by omega) (by omega)
  have c2 := k62 h z hz.1 (by omega)
  have c3 := k49 R (G ^ z.toNat % R) (key ^ ((P - y) % P).toNat % R) (by omega) p3.1 p3.2
  clear p1 p2 p3 h
  refine pureC_of_wp .x mixed ok71 rfl ?_
  unfold c71
  dsimp only [argE]
  refine W.go ?_
  refine W.cl (k67 R P G) ?_
  refine W.go ?_
  refine W.cl c1 ?_
  refine W.go ?_
  refine W.cl (k67 R P G) ?_
  refine W.go ?_
  refine W.cl c2 ?_
  refine W.go ?_
  refine W.cl c3 ?_
  refine W.go ?_
  rfl

set_option maxRecDepth 10000 in
theorem k31 {R P G : Int} (h : GroupI R P G) (key x y z : Int) : PureC Tryz.prog 31 [grp R P G, .int .i64 key, grp x y z] (fun r => r = .bool (holdsB R P G key x y z)) := by
  unfold holdsB
  refine pureC_of_wp .x mixed ok31 rfl ?_
  unfold c31
  dsimp only [argE]
  refine W.go ?_
  refine W.cl (k43 h) ?_
  refine W.go ?_
  refine W.cl (k64s h key) ?_
  cases hk : hasB R P key
  · refine W.go ?_; rfl
  refine W.go ?_
  refine W.cl (k70 h x y z) ?_
  cases hv : validB R P x y z
  · refine W.go ?_; rfl
  obtain ⟨v1, v2, v3⟩ := validB_iff.1 hv
  refine W.go ?_
  refine W.cl (k71 h key y z (by have := (hasB_iff.1 hk).1; omega) v2 v3) ?_
  refine W.go ?_
  rfl

set_option maxRecDepth 10000 in
theorem k42 {R P G : Int} (h : GroupI R P G) : PureC Tryz.prog 42 [grp R P G] (fun r => r = .int .i64 0) := by
  obtain ⟨hR, hP, hd, hG, pR, pP, one⟩ := h
  have c1 := k74 R (by omega) (by omega)
  have c2 := k74 P (by omega) (by omega)
  rw [primeB_of pR] at c1
  rw [primeB_of pP] at c2
  have c3 := k63 G P R (by omega) (by omega) (by omega) (by omega) (by omega)
  rw [one] at c3
  refine pureC_of_wp .x mixed ok42 rfl ?_
  unfold c42
  dsimp only [argE]
  refine W.go ?_
  refine W.cl c1 ?_
  refine W.go ?_
  refine W.cl c2 ?_
  refine W.go ?_
  refine W.cl c3 ?_
  refine W.go ?_
  rfl

set_option maxRecDepth 10000 in
theorem k32 {R P G : Int} (h : GroupI R P G) (key x y z : Int) : PureC Tryz.prog 32 [grp R P G, .int .i64 key, grp x y z] (fun r => r = .bool (holdsB R P G key x y z)) := by
  have hR := h.hR
  have hP := h.hP
  have hG := h.hG
  unfold holdsB
  refine pureC_of_wp .x mixed ok32 rfl ?_
  unfold c32
  dsimp only [argE]
  refine W.go ?_
  refine W.cl (k42 h) ?_
  refine W.go ?_
  refine W.cl (k36 h key) ?_
  cases hk : hasB R P key
  · refine W.go ?_; rfl
  refine W.go ?_
  refine W.cl (k72 h x y z) ?_
  cases hv : validB R P x y z
  · refine W.go ?_; rfl
  obtain ⟨v1, v2, v3⟩ := validB_iff.1 hv
  have k1 := (hasB_iff.1 hk).1
  have x1 := (hasB_iff.1 v1).1
  have p1 := pw_small (a := key) hR y.toNat
  have p3 := mul_small (a := x) (by omega) p1.1 x1.2 p1.2 (by omega)
  have hh := holds_iff (z := z) h hk v1 v2
  refine W.go ?_
  refine W.cl (k63 G z R (by omega) (by omega) (by omega) (by omega) (by omega)) ?_
  refine W.go ?_
  refine W.cl (k63 key y R (by omega) (by omega) (by omega) (by omega) (by omega)) ?_
  refine W.go ?_
  simp only [Bool.true_and]
  congr 2
  exact propext hh.symm
end Go.Dp
