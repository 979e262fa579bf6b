import Derived.Test.YtkadcajmlkmhjabGreatDqE5
import Derived.Test.YtkadcajmlkmhjabGreatDqR3
import Derived.Test.YtkadcajmlkmhjabGreatDsM10
namespace Go.Dp
open Go.RowKit Go.Proofs
attribute [local irreducible] wp wpOps wpOp1 CallW CallT kSeq kBlk kLoop kReg retP retR kAsg kRound kRf kCut kItr
set_option linter.unusedVariables false
set_option linter.unusedSimpArgs false

theorem k111 (P g x : Int) : PureC Tryz.prog 111 [.int .i64 x, .fp [fieldV P g] 0] (fun r => r = .bool (decide (x < 0 ∨ P ≤ x))) := by
  by_cases h : x < 0
  · refine pureC_of_wp .x mixed ok111 rfl ?_
    unfold c111
    dsimp only [argE, fieldV, fldC]
    refine W.run ?_
    rw [decide_eq_true (.inl h)]
  · refine pureC_of_wp .x mixed ok111 rfl ?_
    unfold c111
    dsimp only [argE, fieldV, fldC]
    refine W.run ?_
    simp [h]
theorem k82 (P g : Int) (A : List Int) (hA : A.length < 2 ^ 40) (hr : InF P A) : PureC Tryz.prog 82 [fieldV P g, slI A] (fun r => r = .bool true) := by
  have c1 := k102 (V.int .i64) A A.length rfl hA 111 [.fp [fieldV P g] 0] (fun x => decide (x < 0 ∨ P ≤ x)) (fun _ => rfl) (by simp [V.atom]) (fun a _ => k111 P g a)
  have e : (A.any fun x => decide (x < 0 ∨ P ≤ x)) = false := by
    rw [List.any_eq_false]
    intro x hx
    have := hr x hx
    rw [decide_eq_true_eq]; omega
  rw [e] at c1
  refine pureC_of_wp .x mixed ok82 rfl ?_
  unfold c82
  dsimp only [argE, fieldV, fldC] at c1 ⊢
  refine W.run ?_
  rfl
attribute [local go_sem] find_in find_out put_in
set_option maxRecDepth 10000 in
theorem k83 (A : List Int) (hA : A.length < 2 ^ 40) (hn : A.Nodup) : PureC Tryz.prog 83 [slI A] (fun r => r = .bool true) := by
  refine pureC_of_wp .x mixed ok83 rfl ?_
  unfold c83
  dsimp only [argE]
  refine W.run ?_
  refine W.lp (fun i : Nat => [(3, .mp 8), (7, slI A), (8, .int .i64 (A.length : Int)), (9, .int .i64 (i : Int))]) (fun i => Hp.put (fun _ => none) 8 { cells := [], sz := 0, sp := 2, mp := seenM (A.take i) }) (fun i => i ≤ A.length) (fun i => A.length - i) 0 rfl (HS.refl _) (by omega) ?_
  rintro i nx hi hnx
  by_cases hlt : i < A.length
  · have hni : A[i] ∉ A.take i := by
      intro h
      have h2 : (A.take (i + 1)).Nodup := hn.sublist (List.take_sublist _ _)
      rw [← List.take_append_getElem hlt, nodup_snoc] at h2
      exact h2.2 h
    refine W.run ?_
    rw [seenM_snoc, List.take_append_getElem hlt]
    refine W.kl (i + 1) rfl (HS.refl _) (by omega) (by omega) (by omega)
  · have : i = A.length := by omega
    subst this
    refine W.run ?_
    rfl
set_option maxRecDepth 10000 in
theorem k55 (A : List Int) (hA : A.length < 2 ^ 40) (h0 : A.length ≠ 0) : PureC Tryz.prog 55 [slI A] (fun r => r = slI A) := by
  refine pureC_of_wp .x mixed ok55 rfl ?_
  unfold c55
  dsimp only [argE]
  refine W.run ?_
  refine W.lp (fun i : Nat => [(3, .ref 8 i 0 i), (6, slI A), (7, .int .i64 (A.length : Int)), (8, .int .i64 (i : Int))]) (fun i => Hp.put (fun _ => none) 8 { cells := (A.take i).map (V.int .i64), sz := 1, ver := i, nl := if i = 0 then 1 else 0 }) (fun i => i ≤ A.length) (fun i => A.length - i) 0 rfl (HS.put (by simp) (HS.refl _)) (by omega) ?_
  rintro i nx hi hnx
  by_cases hlt : i < A.length
  · refine W.run ?_
    refine W.kl (i + 1) rfl (HS.skip (HS.put ?_ (HS.refl _)) (by simp only [Hp.put]; repeat (rw [if_neg (by omega)])) _) (by omega) (by omega) (by omega)
    rw [← List.take_append_getElem hlt, List.map_append]; rfl
  · have : i = A.length := by omega
    subst this
    refine W.run ?_
    simp [h0]
set_option maxRecDepth 10000 in
theorem k56 (A : List Int) (hA : A.length < 2 ^ 40) : PureC Tryz.prog 56 [slI A] (fun r => r = .own (A.map (V.int .i64)) A.length 1) := by
  refine pureC_of_wp (.s 1) mixed ok56 rfl ?_
  unfold c56
  dsimp only [argE]
  refine W.run ?_
  refine W.lp (fun i : Nat => [(3, .ref 8 i 0 i), (6, slI A), (7, .int .i64 (A.length : Int)), (8, .int .i64 (i : Int))]) (fun i => Hp.put (fun _ => none) 8 { cells := (A.take i).map (V.int .i64), sz := 1, ver := i, nl := if i = 0 then 1 else 0 }) (fun i => i ≤ A.length) (fun i => A.length - i) 0 rfl (HS.put (by simp) (HS.refl _)) (by omega) ?_
  rintro i nx hi hnx
  by_cases hlt : i < A.length
  · refine W.run ?_
    refine W.kl (i + 1) rfl (HS.skip (HS.put ?_ (HS.refl _)) (by simp only [Hp.put]; repeat (rw [if_neg (by omega)])) _) (by omega) (by omega) (by omega)
    rw [← List.take_append_getElem hlt, List.map_append]; rfl
  · have : i = A.length := by omega
    subst this
    refine W.run ?_
    simp
end Go.Dp

namespace Go.Dp
open Go.RowKit Go.Proofs
attribute [local irreducible] wp wpOps wpOp1 CallW CallT kSeq kBlk kLoop kReg retP retR kAsg kRound kRf kCut kItr
set_option linter.unusedVariables false
set_option linter.unusedSimpArgs false

set_option maxRecDepth 10000 in
set_option maxHeartbeats 1000000 in
theorem k54 (P g : Int) (hp : PrimeI P) (hP : 3 ≤ P ∧ P < 2 ^ 31) (X Y : List Int) (hl : X.length = Y.length) (h0 : X.length ≠ 0) (hX : X.length ≤ 200) (hrX : InF P X) (hrY : InF P Y) (hn : X.Nodup) : PureC Tryz.prog 54 [fieldV P g, slI X, slI Y] (fun r => r = .tup [slI (newtF P X Y [] [1]), .int .i64 0]) := by
  have c1 := k82 P g X (by omega) hrX
  have c2 := k82 P g Y (by omega) hrY
  have c3 := k83 X (by omega) hn
  have c4 : PureC Tryz.prog 84 [fieldV P g, slI X, slI Y] (fun r => r = slI (newtF P X Y [] [1])) := (k84 P g hp hP X Y hl hX hrX hrY hn).mono fun r h => h.elim id fun h => absurd (by rw [h.1]; rfl) h0
  refine pureC_of_wp (.l [.x, .x]) mixed ok54 rfl ?_
  unfold c54
  dsimp only [argE, fieldV, fldC] at c1 c2 c4 ⊢
  refine W.run ?_
  rfl
/-- what Poly answers -/
def padL (A : List Int) (n : Nat) : List Int := A ++ List.replicate (n - A.length) 0
set_option maxRecDepth 10000 in
set_option maxHeartbeats 1000000 in
theorem k12 {R P G : Int} (h : GroupI R P G) (X S : List Int) (hl : S.length = X.length) (he : chkE P X S = 0) (hX : X.length ≤ 16) : PureC Tryz.prog 12 [grp R P G, slI X, slI S] (fun r => r = .tup [slI (padL (newtF P X S [] [1]) X.length), .int .i64 0]) := by
  have hP := h.hP
  obtain ⟨_, hlen, hrX, hrS, hnd⟩ := chkE_zero he
  have c1 := k46 h X S (by omega) (by omega)
  rw [he] at c1
  obtain ⟨g, hg, c2⟩ := k53 P hP h.pP
  have c3 := k55 X (by omega) (by omega)
  have c4 := k55 S (by omega) (by omega)
  have hInX : InF P X := fun x hx => by have := hrX x hx; omega
  have c5 := k54 P g h.pP (by omega) X S (by omega) (by omega) (by omega) hInX hrS hnd
  have hNl := (newtF_all h.pP hP.1 (by omega) hInX hrS hnd).2.1
  obtain ⟨N, hN⟩ : ∃ N, N = newtF P X S [] [1] := ⟨_, rfl⟩
  rw [← hN] at c5 hNl ⊢
  have c6 : Opn (PureC Tryz.prog 56 [slI N] (fun r => r = .own (N.map (V.int .i64)) N.length 1)) := k56 N (by omega)
  refine pureC_of_wp (.l [.x, .x]) mixed ok12 rfl ?_
  unfold c12
  dsimp only [argE, fieldV, fldC] at c2 c5 ⊢
  refine W.run ?_
  have e1 : ((X.length : Int) - (N.length : Int)).toNat = X.length - N.length := by omega
  have e2 : N.length + (X.length - N.length) = X.length := by omega
  have e3 : (if X.length - N.length = 0 then if (List.map (V.int .i64) N).isEmpty = true then 2 else 0 else 0) = 0 := by
    split
    · have : N ≠ [] := fun h => by
        have h0 : N.length = 0 := by rw [h]; rfl
        omega
      simp [this]
    · rfl
  rw [e1, e2, e3, zeros_map, ← List.map_append]
  have e4 : (N ++ List.replicate (X.length - N.length) 0).length = X.length := by simp; omega
  unfold padL
  refine W.run ?_
  simp [e4]
theorem k12e {R P G : Int} (h : GroupI R P G) (X S : List Int) (hX : X.length < 2 ^ 40) (hS : S.length < 2 ^ 40) (he : chkE P X S ≠ 0) : PureC Tryz.prog 12 [grp R P G, slI X, slI S] (fun r => r = .tup [.nils, .int .i64 (chkE P X S)]) := by
  have c1 := k46 h X S hX hS
  clear h
  refine pureC_of_wp (.l [.x, .x]) mixed ok12 rfl ?_
  unfold c12
  dsimp only [argE]
  refine W.run ?_
  rfl
theorem k12l {R P G : Int} (h : GroupI R P G) (X S : List Int) (hX : X.length < 2 ^ 40) (hS : S.length < 2 ^ 40) (he : chkE P X S = 0) (hX : 16 < X.length) : PureC Tryz.prog 12 [grp R P G, slI X, slI S] (fun r => r = .tup [.nils, .int .i64 2]) := by
  have c1 := k46 h X S (by assumption) hS
  rw [he] at c1
  clear h
  refine pureC_of_wp (.l [.x, .x]) mixed ok12 rfl ?_
  unfold c12
  dsimp only [argE]
  refine W.run ?_
  rfl
end Go.Dp
