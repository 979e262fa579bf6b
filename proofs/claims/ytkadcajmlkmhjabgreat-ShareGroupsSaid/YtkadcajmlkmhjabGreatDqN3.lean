import Derived.Test.YtkadcajmlkmhjabGreatDqN2
namespace Go.Dp
open Go.RowKit Go.Proofs
attribute [local irreducible] wp wpOps wpOp1 CallW CallT kSeq kBlk kLoop kReg retP retR kAsg kRound kRf
set_option linter.unusedVariables false

/-- a proof of a secret -/
def proveV (R P G s n c : Int) : V := grp (G ^ n.toNat % R) c ((n + c * s) % P)
def okP (P s n c : Int) : Prop := (0 ≤ s ∧ s < P) ∧ (0 ≤ n ∧ n < P) ∧ (0 ≤ c ∧ c < P)

set_option maxRecDepth 10000 in
theorem k28 {R P G : Int} (h : GroupI R P G) (s n c : Int) (ho : (0 ≤ s ∧ s < P) ∧ (0 ≤ n ∧ n < P) ∧ (0 ≤ c ∧ c < P)) : PureC Tryz.prog 28 [grp R P G, .int .i64 s, .int .i64 n, .int .i64 c] (fun r => r = .tup [proveV R P G s n c, .int .i64 0]) := by
  have hP := h.hP
  have p1 := mul_small (a := c) (b := s) (m := P) (by omega) (by omega) (by omega) (by omega) (by omega)
  have p2 : 0 ≤ c * s % P ∧ c * s % P < P := ⟨Int.emod_nonneg _ (by omega), Int.emod_lt_of_pos _ (by omega)⟩
  have c1 := k43 h
  have c2 := k66r (R := R) (G := G) hP s n c
  have c3 := k62 h n (by omega) (by omega)
  have c4 := k49 P c s (by omega) p1.1 p1.2
  have c5 := k51 P n (c * s % P) (by omega) (by omega) (by omega)
  rw [show (n + c * s % P) % P = (n + c * s) % P by rw [Int.add_emod, Int.emod_emod, ← Int.add_emod]] at c5
  unfold proveV
  refine pureC_of_wp .x mixed ok28 rfl ?_
  unfold c28
  dsimp only [argE]
  refine W.go ?_
  refine W.cl c1 ?_
  refine W.go ?_
  refine W.cl c2 ?_
  refine W.go ?_
  refine W.cl c3 ?_
  refine W.go ?_
  refine W.cl (k47 R P G) ?_
  refine W.go ?_
  refine W.cl (k47 R P G) ?_
  refine W.go ?_
  refine W.cl c4 ?_
  refine W.go ?_
  refine W.cl c5 ?_
  refine W.go ?_
  rfl
set_option maxRecDepth 10000 in
theorem k28f {R P G : Int} (h : GroupI R P G) (s n c : Int) (ho : ¬ ((0 ≤ s ∧ s < P) ∧ (0 ≤ n ∧ n < P) ∧ (0 ≤ c ∧ c < P))) : PureC Tryz.prog 28 [grp R P G, .int .i64 s, .int .i64 n, .int .i64 c] (fun r => r = .tup [grp 0 0 0, .int .i64 1]) := by
  have hP := h.hP
  have c1 := k43 h
  have c2 := k66r (R := R) (G := G) hP s n c
  rw [decide_eq_false ho] at c2
  clear ho
  refine pureC_of_wp .x mixed ok28 rfl ?_
  unfold c28
  dsimp only [argE]
  refine W.go ?_
  refine W.cl c1 ?_
  refine W.go ?_
  refine W.cl c2 ?_
  refine W.go ?_
  rfl
set_option maxRecDepth 10000 in
theorem k30 {R P G : Int} (h : GroupI R P G) (s n c : Int) (ho : (0 ≤ s ∧ s < P) ∧ (0 ≤ n ∧ n < P) ∧ (0 ≤ c ∧ c < P)) : PureC Tryz.prog 30 [grp R P G, .int .i64 s, .int .i64 n, .int .i64 c] (fun r => r = proveV R P G s n c) := by
  have hP := h.hP
  have hR := h.hR
  have hG := h.hG
  have p1 := mul_small (a := c) (b := s) (m := P) (by omega) (by omega) (by omega) (by omega) (by omega)
  have c3 := k63 G n R (by omega) (by omega) (by omega) (by omega) (by omega)
  unfold proveV
  refine pureC_of_wp .x mixed ok30 rfl ?_
  unfold c30
  dsimp only [argE]
  refine W.go ?_
  refine W.cl c3 ?_
  refine W.go ?_
  rfl
set_option maxRecDepth 10000 in
theorem k27 (x y z : Int) : PureC Tryz.prog 27 [grp x y z] (fun r => r = grp x y z) := by
  refine pureC_of_wp .x mixed ok27 rfl ?_
  unfold c27
  dsimp only [argE]
  refine W.go ?_
  rfl

/-- what two proofs tell -/
def extI (P y1 z1 y2 z2 : Int) : Int := ((z1 - z2 + P) % P) * (((y1 - y2 + P) % P) ^ (P - 2).toNat % P) % P
def extV (R P x1 y1 z1 x2 y2 z2 : Int) : V :=
  if validB R P x1 y1 z1 = true ∧ validB R P x2 y2 z2 = true ∧ x1 = x2 then (if y1 = y2 then .tup [.int .i64 0, .int .i64 81] else .tup [.int .i64 (extI P y1 z1 y2 z2), .int .i64 0]) else .tup [.int .i64 0, .int .i64 82]

set_option maxRecDepth 10000 in
theorem k33 {R P G : Int} (h : GroupI R P G) (x1 y1 z1 x2 y2 z2 : Int) : PureC Tryz.prog 33 [grp R P G, grp x1 y1 z1, grp x2 y2 z2] (fun r => r = extV R P x1 y1 z1 x2 y2 z2) := by
  have hP := h.hP
  refine pureC_of_wp .x mixed ok33 rfl ?_
  unfold c33 extV
  dsimp only [argE]
  refine W.go ?_
  refine W.cl (k43 h) ?_
  refine W.go ?_
  refine W.cl (k70 h x1 y1 z1) ?_
  cases hv : validB R P x1 y1 z1
  · refine W.go ?_; rw [if_neg (by simp)]
  refine W.go ?_
  refine W.cl (k70 h x2 y2 z2) ?_
  cases hw : validB R P x2 y2 z2
  · refine W.go ?_; rw [if_neg (by simp)]
  obtain ⟨_, v2, v3⟩ := validB_iff.1 hv
  obtain ⟨_, w2, w3⟩ := validB_iff.1 hw
  by_cases hx : x1 = x2
  case neg => refine W.go ?_; rw [if_neg (by simp [hx])]
  rw [if_pos ⟨rfl, rfl, hx⟩]
  by_cases hy : y1 = y2
  · rw [if_pos hy]; refine W.go ?_; rfl
  rw [if_neg hy]
  unfold extI
  have q1 : 0 ≤ (z1 - z2 + P) % P ∧ (z1 - z2 + P) % P < P := ⟨Int.emod_nonneg _ (by omega), Int.emod_lt_of_pos _ (by omega)⟩
  have q2 : 0 ≤ (y1 - y2 + P) % P ∧ (y1 - y2 + P) % P < P := ⟨Int.emod_nonneg _ (by omega), Int.emod_lt_of_pos _ (by omega)⟩
  have c1 := k50 P z1 z2 (by omega) v3 w3
  have c2 := k50 P y1 y2 (by omega) v2 w2
  have c3 := k52 P ((y1 - y2 + P) % P) (by omega) q2.1
  have q3 : 0 ≤ ((y1 - y2 + P) % P) ^ (P - 2).toNat % P ∧ ((y1 - y2 + P) % P) ^ (P - 2).toNat % P < P := ⟨Int.emod_nonneg _ (by omega), Int.emod_lt_of_pos _ (by omega)⟩
  have q4 := mul_small q1.1 q3.1 q1.2 q3.2 (by omega)
  have c4 := k49 P _ _ (by omega) q4.1 q4.2
  clear q1 q2 q3 q4
  refine W.go ?_
  refine W.cl (k47 R P G) ?_
  refine W.go ?_
  refine W.cl c1 ?_
  refine W.go ?_
  refine W.cl c2 ?_
  refine W.go ?_
  refine W.cl c3 ?_
  refine W.go ?_
  refine W.cl c4 ?_
  refine W.go ?_
  rfl

set_option maxRecDepth 10000 in
theorem k34 {R P G : Int} (h : GroupI R P G) (x1 y1 z1 x2 y2 z2 : Int) : PureC Tryz.prog 34 [grp R P G, grp x1 y1 z1, grp x2 y2 z2] (fun r => r = extV R P x1 y1 z1 x2 y2 z2) := by
  have hP := h.hP
  refine pureC_of_wp .x mixed ok34 rfl ?_
  unfold c34 extV
  dsimp only [argE]
  refine W.go ?_
  refine W.cl (k72 h x1 y1 z1) ?_
  cases hv : validB R P x1 y1 z1
  · refine W.go ?_; rw [if_neg (by simp)]
  refine W.go ?_
  refine W.cl (k72 h x2 y2 z2) ?_
  cases hw : validB R P x2 y2 z2
  · refine W.go ?_; rw [if_neg (by simp)]
  obtain ⟨_, v2, v3⟩ := validB_iff.1 hv
  obtain ⟨_, w2, w3⟩ := validB_iff.1 hw
  by_cases hx : x1 = x2
  case neg => refine W.go ?_; rw [if_neg (by simp [hx])]
  rw [if_pos ⟨rfl, rfl, hx⟩]
  by_cases hy : y1 = y2
  · rw [if_pos hy]; refine W.go ?_; rfl
  rw [if_neg hy]
  unfold extI
  have q1 : 0 ≤ (z1 - z2 + P) % P ∧ (z1 - z2 + P) % P < P := ⟨Int.emod_nonneg _ (by omega), Int.emod_lt_of_pos _ (by omega)⟩
  have q2 : 0 ≤ (y1 - y2 + P) % P ∧ (y1 - y2 + P) % P < P := ⟨Int.emod_nonneg _ (by omega), Int.emod_lt_of_pos _ (by omega)⟩
  have c3 := k63 ((y1 - y2 + P) % P) (P - 2) P q2.1 (by omega) (by omega) (by omega) (by omega)
  have q3 : 0 ≤ ((y1 - y2 + P) % P) ^ (P - 2).toNat % P ∧ ((y1 - y2 + P) % P) ^ (P - 2).toNat % P < P := ⟨Int.emod_nonneg _ (by omega), Int.emod_lt_of_pos _ (by omega)⟩
  have q4 := mul_small q1.1 q3.1 q1.2 q3.2 (by omega)
  refine W.go ?_
  refine W.cl c3 ?_
  refine W.go ?_
  rfl

set_option maxRecDepth 10000 in
theorem k37 {R P G : Int} (h : GroupI R P G) (key y z : Int) (hk : 0 ≤ key) (hy : 0 ≤ y ∧ y < P) (hz : 0 ≤ z ∧ z < P) : PureC Tryz.prog 37 [grp R P G, .int .i64 key, .int .i64 y, .int .i64 z] (fun r => r = grp (imitV R P G key y z) y z) := by
  have hR := h.hR
  have hP := h.hP
  have hG := h.hG
  have he : 0 ≤ (P - y) % P ∧ (P - y) % P < P := ⟨Int.emod_nonneg _ (by omega), Int.emod_lt_of_pos _ (by omega)⟩
  have p1 := pw_small (a := G) hR z.toNat
  have p2 := pw_small (a := key) hR ((P - y) % P).toNat
  have p3 := mul_small p1.1 p2.1 p1.2 p2.2 (by omega)
  have c1 := k63 key ((P - y) % P) R hk he.1 (by omega) (by omega) (by omega)
  have c2 := k63 G z R (by omega) hz.1 (by omega) (by omega) (by omega)
  clear p1 p2
  refine pureC_of_wp .x mixed ok37 rfl ?_
  unfold c37 imitV
  dsimp only [argE]
  refine W.go ?_
  refine W.cl c2 ?_
  refine W.go ?_
  refine W.cl c1 ?_
  refine W.go ?_
  rfl

set_option maxRecDepth 10000 in
theorem k35 {R P G : Int} (h : GroupI R P G) (key y z : Int) (hk : hasB R P key = true) (hy : 0 ≤ y ∧ y < P) (hz : 0 ≤ z ∧ z < P) : PureC Tryz.prog 35 [grp R P G, .int .i64 key, .int .i64 y, .int .i64 z] (fun r => r = .tup [grp (imitV R P G key y z) y z, .int .i64 0]) := by
  have hP := h.hP
  have c1 := k43 h
  have c2 := k64s h key
  rw [hk] at c2
  have c3 := k66t (R := R) (G := G) hP y z
  have c4 := k71 h key y z (by have := (hasB_iff.1 hk).1; omega) hy hz
  refine pureC_of_wp .x mixed ok35 rfl ?_
  unfold c35
  dsimp only [argE]
  refine W.go ?_
  refine W.cl c1 ?_
  refine W.go ?_
  refine W.cl c2 ?_
  refine W.go ?_
  refine W.cl c3 ?_
  refine W.go ?_
  refine W.cl c4 ?_
  refine W.go ?_
  rfl
set_option maxRecDepth 10000 in
theorem k35f {R P G : Int} (h : GroupI R P G) (key y z : Int) (hk : ¬ (hasB R P key = true ∧ (0 ≤ y ∧ y < P) ∧ (0 ≤ z ∧ z < P))) : PureC Tryz.prog 35 [grp R P G, .int .i64 key, .int .i64 y, .int .i64 z] (fun r => r = .tup [grp 0 0 0, .int .i64 1]) := by
  have hP := h.hP
  have c1 := k43 h
  have c2 := k64s h key
  have c3 := k66t (R := R) (G := G) hP y z
  refine pureC_of_wp .x mixed ok35 rfl ?_
  unfold c35
  dsimp only [argE]
  refine W.go ?_
  refine W.cl c1 ?_
  refine W.go ?_
  refine W.cl c2 ?_
  cases hb : hasB R P key
  · refine W.go ?_; rfl
  refine W.go ?_
  have e : (decide (0 ≤ y ∧ y < P) && decide (0 ≤ z ∧ z < P)) = false := by
    rw [Bool.eq_false_iff]; intro he
    simp only [Bool.and_eq_true, decide_eq_true_eq] at he
    exact hk ⟨hb, he.1, he.2⟩
  rw [e] at c3
  refine W.cl c3 ?_
  refine W.go ?_
  rfl
end Go.Dp
