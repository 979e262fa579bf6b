import Derived.Test.YtkadcajmlkmhjabGreatDqS2
import Derived.Test.YtkadcajmlkmhjabGreatDpIt
namespace Go.Dp
open Go.RowKit Go.Proofs
attribute [local irreducible] wp wpOps wpOp1 CallW CallT kSeq kBlk kLoop kReg retP retR kAsg kRound kRf kCut kItr
set_option linter.unusedVariables false
set_option linter.unusedSimpArgs false

/-- pairs of places and shares -/
def ptsV (X S : List Int) : List (List V) := List.zipWith (fun x s => [V.int .i64 x, V.int .i64 s]) X S
theorem ptsV_len {X S : List Int} (h : X.length = S.length) : (ptsV X S).length = X.length := by simp [ptsV, h]
theorem ptsV_get {X S : List Int} {i : Nat} (hX : i < X.length) (hS : i < S.length) : (ptsV X S)[i]? = some [V.int .i64 X[i], V.int .i64 S[i]] := by
  simp [ptsV, List.getElem?_zipWith, hX, hS]

theorem k48 (X S : List Int) (lx ls : Nat) : PureC Tryz.prog 48 [.sl (X.map (V.int .i64)) lx, .sl (S.map (V.int .i64)) ls] (fun r => r = .clo (.func 77) [] [.fp [.sl (X.map (V.int .i64)) lx] 0, .fp [.sl (S.map (V.int .i64)) ls] 0]) := by
  refine pureC_of_wp .x mixed ok48 rfl ?_
  unfold c48
  dsimp only [argE]
  refine W.run ?_
  rfl

theorem it77 (X S : List Int) (hX : X.length < 2 ^ 40) (hS : S.length = X.length) : Iter Tryz.prog 77 [] [.fp [.sl (X.map (V.int .i64)) X.length] 0, .fp [.sl (S.map (V.int .i64)) X.length] 0] (ptsV X S) := by
  refine iter_of_wp (c := c77) (rs := []) mixed ok77 rfl ?_
  intro Y o y H top I D hI hD hy h0
  rw [ptsV_len hS.symm]
  unfold c77
  dsimp only [argE, List.nil_append, List.cons_append]
  refine W.run ?_
  refine W.loop (fun z : Nat × Hp × Nat => ⟨[(0, .yld o), (2, .fp [.sl (S.map (V.int .i64)) X.length] 0), (6, .sl (X.map (V.int .i64)) X.length), (7, .int .i64 (X.length : Int)), (8, .int .i64 (z.1 : Int))], z.2.1, z.2.2⟩) (fun z => z.1 ≤ X.length ∧ I z.1 z.2.1 z.2.2) (fun z => X.length - z.1) (0, H, top + 24) ⟨by dsimp only; omega, hI _ _ _ _ h0 (by dsimp only; omega)⟩ ?_
  rintro ⟨i, H1, n⟩ ⟨hi, hI1⟩
  dsimp only at hi hI1 ⊢
  by_cases hlt : i < X.length
  · refine W.run ?_
    refine W.yl2 (Ys.put_same _ _ _) (hy i _ H1 _ (ptsV_get hlt (by omega)) (hI _ _ _ _ hI1 (by omega))) ?_
    rintro v H2 t ⟨H3, hs, ⟨rfl, h3⟩ | ⟨rfl, h3⟩⟩ ht
    · refine W.run ?_
      exact W.kl0 H3 hs ⟨(i + 1, H3, _), ⟨by dsimp only; omega, hI _ _ _ _ h3 (by dsimp only; omega)⟩, rfl, by dsimp only; omega⟩ Nat.zero_lt_one
    · refine W.run ?_
      exact W.retR rfl hs (.inr (hD _ _ _ h3 (by dsimp only; omega)))
  · have : i = X.length := by omega
    subst this
    refine W.run ?_
    exact W.retRn rfl (HS.refl _) (.inl (hI _ _ _ _ hI1 (by dsimp only; omega)))
end Go.Dp
