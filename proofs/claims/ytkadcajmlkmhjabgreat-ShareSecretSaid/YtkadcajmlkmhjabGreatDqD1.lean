import Derived.Test.YtkadcajmlkmhjabGreatDqS2
namespace Go.Dp
open Go.RowKit Go.Proofs
attribute [local irreducible] wp wpOps wpOp1 CallW CallT kSeq kBlk kLoop kReg retP retR kAsg kRound kRf
set_option linter.unusedVariables false
set_option linter.unusedSimpArgs false

/-- numbers of 64 bits -/
def B64 (x : Int) : Prop := -9223372036854775808 ≤ x ∧ x < 9223372036854775808

set_option maxHeartbeats 1000000 in
theorem k10 (L : List Int) (len : Nat) (hl : len = L.length) (hlen : L.length ≤ maxLen) (m : Nat) (hm : m < 1000) : PureC Tryz.prog 10 [.sl (L.map (V.int .i64)) len, .int .i64 (m : Int)] (fun r => r = .own ((L.take m).map (V.int .i64)) (L.take m).length 1) := by
  have hml : maxLen = 9223372036854775807 := by decide
  rw [hml] at hlen
  clear hml
  subst hl
  refine pureC_of_wp (.s 1) mixed ok10 rfl ?_
  unfold c10
  dsimp only [argE]
  by_cases h : L.length ≤ m
  · rw [List.take_of_length_le h]
    have e : (if (m : Int) < (L.length : Int) then (m : Int) else (L.length : Int)) = (L.length : Int) := by rw [if_neg (by omega)]
    refine W.run ?_
    rfl
  · have e : (if (m : Int) < (L.length : Int) then (m : Int) else (L.length : Int)) = (m : Int) := by rw [if_pos (by omega)]
    clear e
    have e3 : (L.take m).length = m := by simp; omega
    rw [e3]
    refine W.run ?_
    rfl

/-- lists of the same numbers -/
def sameB : List Int → List Int → Bool
  | [], [] => true
  | a :: A, b :: B => decide (a = b) && sameB A B
  | _, _ => false
theorem sameB_iff : ∀ {A B : List Int}, sameB A B = true ↔ A = B
  | [], [] => by simp [sameB]
  | [], b :: B => by simp [sameB]
  | a :: A, [] => by simp [sameB]
  | a :: A, b :: B => by simp [sameB, sameB_iff (A := A) (B := B)]
theorem sameB_len : ∀ {A B : List Int}, A.length ≠ B.length → sameB A B = false
  | [], [], h => by simp at h
  | [], b :: B, h => rfl
  | a :: A, [], h => rfl
  | a :: A, b :: B, h => by simp [sameB, sameB_len (A := A) (B := B) (by simpa using h)]

theorem k15 (A B : List Int) (hA : A.length < 2 ^ 40) (hB : B.length < 2 ^ 40) : PureC Tryz.prog 15 [.sl (A.map (V.int .i64)) A.length, .sl (B.map (V.int .i64)) B.length] (fun r => r = .bool (sameB A B)) := by
  refine pureC_of_wp .x mixed ok15 rfl ?_
  unfold c15
  dsimp only [argE]
  by_cases hl : A.length = B.length
  case neg =>
    rw [sameB_len hl]
    refine W.run ?_
    rfl
  refine W.run ?_
  refine W.lp (fun i : Nat => [(0, .sl (A.map (V.int .i64)) A.length), (1, .sl (B.map (V.int .i64)) B.length), (5, .int .i64 (i : Int))]) (fun _ => fun _ => none)
    (fun i => i ≤ A.length ∧ sameB A B = sameB (A.drop i) (B.drop i)) (fun i => A.length - i) 0 rfl (HS.refl _) ⟨by omega, rfl⟩ ?_
  rintro i nx ⟨hi, hs⟩ hnx
  by_cases hlt : i < A.length
  · rw [List.drop_eq_getElem_cons hlt, List.drop_eq_getElem_cons (by omega : i < B.length)] at hs
    by_cases he : A[i] = B[i]'(by omega)
    · refine W.run ?_
      refine W.kl (i + 1) rfl (HS.refl _) (by omega) ⟨by omega, ?_⟩ (by omega)
      rw [hs]; simp [sameB, he]
    · refine W.run ?_
      rw [hs]; simp [sameB, he]
  · have : i = A.length := by omega
    subst this
    rw [List.drop_length, hl, List.drop_length] at hs
    refine W.run ?_
    rw [hs]; rfl

theorem k29 {R P G : Int} (n : Int) : PureC Tryz.prog 29 [grp R P G, .int .i64 n] (fun r => r = .bool (decide (0 ≤ n ∧ n < P))) := by
  refine pureC_of_wp .x mixed ok29 rfl ?_
  unfold c29
  dsimp only [argE]
  by_cases h1 : 0 ≤ n
  case neg => refine W.run ?_; simp [h1]
  by_cases h2 : n < P
  case neg => refine W.run ?_; simp [h2]
  refine W.run ?_
  simp [h1, h2]

theorem inB_cons (lo hi a : Int) (A : List Int) : inB lo hi (a :: A) = (decide (lo ≤ a ∧ a ≤ hi) && inB lo hi A) := rfl
set_option maxRecDepth 10000 in
theorem k22 {R P G : Int} (A : List Int) (len : Nat) (hl : len = A.length) (hA : A.length < 2 ^ 40) : PureC Tryz.prog 22 [grp R P G, .sl (A.map (V.int .i64)) len] (fun r => r = .int .i64 (polyE P A)) := by
  subst hl
  refine pureC_of_wp .x mixed ok22 rfl ?_
  unfold c22 polyE
  dsimp only [argE]
  by_cases h1 : A.length < 1
  · rw [if_pos (.inl h1)]
    refine W.run ?_
    rfl
  by_cases h2 : 16 < A.length
  · rw [if_pos (.inr h2)]
    refine W.run ?_
    rfl
  rw [if_neg (by omega)]
  refine W.run ?_
  refine W.lp (fun i : Nat => [(1, .sl (A.map (V.int .i64)) A.length), (2, .ptr 0 0 0), (5, .int .i64 (i : Int))]) (fun _ => Hp.put (fun _ => none) 0 { cells := [.int .i64 R, .int .i64 P, .int .i64 G], sz := 3 })
    (fun i => i ≤ A.length ∧ inB 0 (P - 1) A = inB 0 (P - 1) (A.drop i)) (fun i => A.length - i) 0 rfl (HS.refl _) ⟨by omega, rfl⟩ ?_
  rintro i nx ⟨hi, hs⟩ hnx
  by_cases hlt : i < A.length
  · rw [List.drop_eq_getElem_cons hlt, inB_cons] at hs
    have c1 := k29 (R := R) (P := P) (G := G) A[i]
    by_cases he : 0 ≤ A[i] ∧ A[i] < P
    · rw [decide_eq_true he] at c1
      rw [decide_eq_true (by omega : 0 ≤ A[i] ∧ A[i] ≤ P - 1), Bool.true_and] at hs
      refine W.run ?_
      exact W.kl (i + 1) rfl (HS.refl _) (by omega) ⟨by omega, hs⟩ (by omega)
    · rw [decide_eq_false he] at c1
      rw [decide_eq_false (by omega : ¬ (0 ≤ A[i] ∧ A[i] ≤ P - 1)), Bool.false_and] at hs
      refine W.run ?_
      rw [hs]; rfl
  · have : i = A.length := by omega
    subst this
    rw [List.drop_length] at hs
    refine W.run ?_
    rw [hs]; rfl
end Go.Dp
