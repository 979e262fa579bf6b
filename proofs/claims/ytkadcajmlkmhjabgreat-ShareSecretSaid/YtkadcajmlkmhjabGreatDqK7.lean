import Derived.Test.YtkadcajmlkmhjabGreatDqK6
namespace Go.Dp
open Go.RowKit Go.Proofs
attribute [local irreducible] wp wpOps wpOp1 CallW CallT kSeq kBlk kLoop kReg retP retR kAsg kRound kRf
set_option linter.unusedVariables false

set_option maxRecDepth 10000 in
theorem k94 {R P G : Int} (h : GroupI R P G) (x : Int) (h1 : 0 ≤ x) : PureC Tryz.prog 94 [.int .i64 x, .fp [.int .i64 R, .int .i64 P, .int .i64 G] 0] (fun r => r = .bool (decide (x ^ P.toNat % R ≠ 1))) := by
  obtain ⟨hR, hP, hd, hG, pR, pP, one⟩ := h
  refine pureC_of_wp .x mixed ok94 rfl ?_
  unfold c94
  dsimp only [argE]
  refine W.go ?_
  refine W.cl (k67 R P G) ?_
  refine W.go ?_
  refine W.cl (k68 x P R h1 (by omega) (by omega) (by omega) (by omega)) ?_
  refine W.go ?_
  rfl

set_option maxRecDepth 10000 in
theorem k64 {R P G : Int} (h : GroupI R P G) (A : List Int) (len : Nat) (hl : len = A.length) (hlen : A.length < 2 ^ 40) : PureC Tryz.prog 64 [grp R P G, .sl (A.map (V.int .i64)) len] (fun r => r = .bool (A.all (hasB R P))) := by
  have h' := h
  obtain ⟨hR, hP, hd, hG, pR, pP, one⟩ := h
  refine pureC_of_wp .x mixed ok64 rfl ?_
  unfold c64
  dsimp only [argE]
  refine W.go ?_
  refine W.cl (k65 1 (R - 1) A len hl hlen) ?_
  cases hb : inB 1 (R - 1) A
  · refine W.go ?_
    have : A.all (hasB R P) = false := by
      cases e : A.all (hasB R P)
      · rfl
      · exfalso
        rw [List.all_eq_true] at e
        have : inB 1 (R - 1) A = true := by
          unfold inB; rw [List.all_eq_true]; intro x hx
          have := e x hx
          simp only [hasB, Bool.and_eq_true, decide_eq_true_eq] at this ⊢
          omega
        rw [hb] at this; cases this
    rw [this]
  · have hin : ∀ x ∈ A, 1 ≤ x ∧ x < R := by
      intro x hx
      unfold inB at hb; rw [List.all_eq_true] at hb
      have := hb x hx
      simp only [decide_eq_true_eq] at this
      omega
    refine W.go ?_
    refine W.cl (k93 (V.int .i64) A len hl hlen 94 [.fp [.int .i64 R, .int .i64 P, .int .i64 G] 0] (fun x => decide (x ^ P.toNat % R ≠ 1)) (fun _ => rfl) (by simp [V.atom]) (fun a ha => k94 h' a (by have := hin a ha; omega))) ?_
    refine W.go ?_
    congr 1
    rw [List.not_any_eq_all_not, Bool.eq_iff_iff, List.all_eq_true, List.all_eq_true]
    constructor
    · intro hh x hx
      have := hh x hx
      have h2 := hin x hx
      simpa [hasB, h2] using this
    · intro hh x hx
      have := hh x hx
      have h2 := hin x hx
      simpa [hasB, h2] using this
theorem k64s {R P G : Int} (h : GroupI R P G) (x : Int) : PureC Tryz.prog 64 [grp R P G, .sl [.int .i64 x] 1] (fun r => r = .bool (hasB R P x)) := by
  simpa using k64 h [x] 1 rfl (by simp)

set_option maxRecDepth 10000 in
theorem k45 {R P G : Int} (h : GroupI R P G) (x : Int) : PureC Tryz.prog 45 [grp R P G, .int .i64 x] (fun r => r = .bool (hasB R P x)) := by
  refine pureC_of_wp .x mixed ok45 rfl ?_
  unfold c45
  dsimp only [argE]
  refine W.go ?_
  refine W.cl (k43 h) ?_
  refine W.go ?_
  refine W.cl (k64s h x) ?_
  refine W.go ?_
  rfl

set_option maxRecDepth 10000 in
theorem k39 {R P G : Int} (h : GroupI R P G) (n : Int) (h0 : 0 ≤ n) (h1 : n < P) : PureC Tryz.prog 39 [grp R P G, .int .i64 n] (fun r => r = .tup [.int .i64 (G ^ n.toNat % R), .int .i64 0]) := by
  have hP := h.hP
  refine pureC_of_wp .x mixed ok39 rfl ?_
  unfold c39
  dsimp only [argE]
  refine W.go ?_
  refine W.cl (k43 h) ?_
  refine W.go ?_
  refine W.cl (k66s hP n) ?_
  refine W.go ?_
  refine W.cl (k62 h n h0 (by omega)) ?_
  refine W.go ?_
  rfl
set_option maxRecDepth 10000 in
theorem k39f {R P G : Int} (h : GroupI R P G) (n : Int) (h0 : ¬ (0 ≤ n ∧ n < P)) : PureC Tryz.prog 39 [grp R P G, .int .i64 n] (fun r => r = .tup [.int .i64 0, .int .i64 1]) := by
  have hP := h.hP
  refine pureC_of_wp .x mixed ok39 rfl ?_
  unfold c39
  dsimp only [argE]
  refine W.go ?_
  refine W.cl (k43 h) ?_
  refine W.go ?_
  refine W.cl (k66s hP n) ?_
  refine W.go ?_
  rfl

set_option maxRecDepth 10000 in
theorem k38 {R P G : Int} (h : GroupI R P G) (n : Int) (h0 : 0 ≤ n) (h1 : n < 2 ^ 63) : PureC Tryz.prog 38 [grp R P G, .int .i64 n] (fun r => r = .int .i64 (G ^ n.toNat % R)) := by
  have hG := h.hG
  have hR := h.hR
  refine pureC_of_wp .x mixed ok38 rfl ?_
  unfold c38
  dsimp only [argE]
  refine W.go ?_
  refine W.cl (k63 G n R (by omega) h0 h1 (by omega) (by omega)) ?_
  refine W.go ?_
  rfl

set_option maxRecDepth 10000 in
theorem k36 {R P G : Int} (h : GroupI R P G) (x : Int) : PureC Tryz.prog 36 [grp R P G, .int .i64 x] (fun r => r = .bool (hasB R P x)) := by
  have hP := h.hP
  have hR := h.hR
  refine pureC_of_wp .x mixed ok36 rfl ?_
  unfold c36 hasB
  dsimp only [argE]
  by_cases h1 : 1 ≤ x
  case neg => refine W.go ?_; simp [h1]
  by_cases h2 : x < R
  case neg => refine W.go ?_; simp [h2]
  refine W.go ?_
  refine W.cl (k63 x P R (by omega) (by omega) (by omega) (by omega) (by omega)) ?_
  refine W.go ?_
  simp [h1, h2]
end Go.Dp
