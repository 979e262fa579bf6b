import Derived.Test.YtkadcajmlkmhjabGreatDqD2
namespace Go.Dp
open Go.RowKit Go.Proofs
attribute [local irreducible] wp wpOps wpOp1 CallW CallT kSeq kBlk kLoop kReg retP retR kAsg kRound kRf kCut
set_option linter.unusedVariables false
set_option linter.unusedSimpArgs false

set_option maxRecDepth 10000 in
theorem k19e {R P G : Int} (h : GroupI R P G) (A : List Int) (len : Nat) (hl : len = A.length) (hlen : A.length < 2 ^ 40) (hA : polyE P A ≠ 0) (n : Int) : PureC Tryz.prog 19 [grp R P G, .sl (A.map (V.int .i64)) len, .int .i64 n] (fun r => r = .tup [.own [] 0 1, .int .i64 (polyE P A)]) := by
  have c1 := k60 h A len hl hlen
  clear h
  refine pureC_of_wp (.l [.s 1, .x]) mixed ok19 rfl ?_
  unfold c19
  dsimp only [argE]
  refine W.run ?_
  rfl
set_option maxRecDepth 10000 in
theorem k19a {R P G : Int} (h : GroupI R P G) (A : List Int) (len : Nat) (hl : len = A.length) (hlen : A.length < 2 ^ 40) (hA : polyE P A = 0) (n : Int) (hn : ¬ (1 ≤ n ∧ n ≤ 64 ∧ n < P)) : PureC Tryz.prog 19 [grp R P G, .sl (A.map (V.int .i64)) len, .int .i64 n] (fun r => r = .tup [.own [] 0 1, .int .i64 1]) := by
  have c1 := k60 h A len hl hlen
  rw [hA] at c1
  clear h
  refine pureC_of_wp (.l [.s 1, .x]) mixed ok19 rfl ?_
  unfold c19
  dsimp only [argE]
  by_cases h1 : n < 1
  · refine W.run ?_
    rfl
  by_cases h2 : 64 < n
  · refine W.run ?_
    rfl
  by_cases h3 : P ≤ n
  · refine W.run ?_
    rfl
  omega
set_option maxRecDepth 10000 in
theorem k21e {R P G : Int} (h : GroupI R P G) (A B : List Int) (len len2 : Nat) (hl : len = A.length) (hl2 : len2 = B.length) (hlen : A.length < 2 ^ 40) (hlen2 : B.length < 2 ^ 40) (hE : sumE P A B ≠ 0) : PureC Tryz.prog 21 [grp R P G, .sl (A.map (V.int .i64)) len, .sl (B.map (V.int .i64)) len2] (fun r => r = .tup [.own [] 0 1, .int .i64 (sumE P A B)]) := by
  have c1 := k60 h A len hl hlen
  have c2 := k60 h B len2 hl2 hlen2
  clear h
  subst hl hl2
  refine pureC_of_wp (.l [.s 1, .x]) mixed ok21 rfl ?_
  unfold c21
  dsimp only [argE]
  refine W.run ?_
  refine W.lp (fun i : Nat => [(1, .sl (A.map (V.int .i64)) A.length), (2, .sl (B.map (V.int .i64)) B.length), (3, .ptr 0 0 0), (16, .ref 40 0 0 2), (17, .int .i64 2), (18, .int .i64 (i : Int))]) (fun i => Hp.put (Hp.put (fun _ => none) 0 { cells := [.int .i64 R, .int .i64 P, .int .i64 G], sz := 3 }) 40 { cells := [.sl (A.map (V.int .i64)) A.length, .sl (B.map (V.int .i64)) B.length], sz := 1 })
    (fun i => i ≤ 2 ∧ (1 ≤ i → polyE P A = 0) ∧ (2 ≤ i → polyE P B = 0)) (fun i => 2 - i) 0 rfl (HS.refl _) ⟨by omega, by omega, by omega⟩ ?_
  rintro i nx ⟨hi, hi1, hi2⟩ hnx
  by_cases h0 : i = 0
  · subst h0
    by_cases hA : polyE P A = 0
    · rw [hA] at c1
      refine W.run ?_
      exact W.kl 1 rfl (HS.refl _) (by omega) ⟨by omega, fun _ => hA, by omega⟩ (by omega)
    · have : sumE P A B = polyE P A := by unfold sumE; rw [if_pos hA]
      rw [this]
      refine W.run ?_
      rfl
  by_cases h1 : i = 1
  · subst h1
    have hA := hi1 (by omega)
    by_cases hB : polyE P B = 0
    · rw [hB] at c2
      refine W.run ?_
      exact W.kl 2 rfl (HS.refl _) (by omega) ⟨by omega, fun _ => hA, fun _ => hB⟩ (by omega)
    · have : sumE P A B = polyE P B := by unfold sumE; rw [if_neg (by simp [hA]), if_pos hB]
      rw [this]
      refine W.run ?_
      rfl
  have h2 : i = 2 := by omega
  subst h2
  have hA := hi1 (by omega)
  have hB := hi2 (by omega)
  have hne : A.length ≠ B.length := fun e => hE (by unfold sumE; rw [if_neg (by simp [hA]), if_neg (by simp [hB]), if_neg (by simp [e])])
  have : sumE P A B = 7 := by unfold sumE; rw [if_neg (by simp [hA]), if_neg (by simp [hB]), if_pos hne]
  rw [this]
  refine W.run ?_
  rfl
theorem sumE_zero {P : Int} {A B : List Int} (h : sumE P A B = 0) : polyE P A = 0 ∧ polyE P B = 0 ∧ A.length = B.length := by
  unfold sumE at h
  split at h
  · omega
  split at h
  · omega
  split at h
  · omega
  rename_i h1 h2 h3
  exact ⟨by omega, by omega, by omega⟩
end Go.Dp
