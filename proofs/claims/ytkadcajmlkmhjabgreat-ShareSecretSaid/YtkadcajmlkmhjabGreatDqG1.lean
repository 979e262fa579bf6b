import Derived.Test.YtkadcajmlkmhjabGreatDqS2
import Derived.Test.YtkadcajmlkmhjabGreatDqK8
namespace Go.Dp
open Go.RowKit Go.Proofs
attribute [local irreducible] wp wpOps wpOp1 CallW CallT kSeq kBlk kLoop kReg retP retR kAsg kRound kRf kCut
set_option linter.unusedVariables false
theorem k9 {p : Int} (b0 : -2^63 ≤ p) (b1 : p < 2^63) : ∃ R P G, GroupI R P G ∧ PureC Tryz.prog 9 [.int .i64 p] (fun r => r = .tup [grp R P G, grp R P G]) := by
  by_cases hp : 3 ≤ p ∧ p ≤ 65521 ∧ PrimeI p
  · obtain ⟨R, G, K, h, hf, hg⟩ := find_ex hp.2.2 hp.1 hp.2.1
    exact ⟨R, p, G, hg, k9a hf⟩
  · have : (p % 18446744073709551616 % 12).toNat < pr12.length := by show _ < 12; omega
    obtain ⟨q1, q2, q3⟩ := pr12_ok _ (List.getElem_mem this)
    obtain ⟨R, G, K, h, hf, hg⟩ := find_ex q1 q2 q3
    exact ⟨R, _, G, hg, k9b b0 b1 (by by_cases a : p < 3; exact .inl a; by_cases b : 65521 < p; exact .inr (.inl b); exact .inr (.inr fun c => hp ⟨by omega, by omega, c⟩)) (List.getElem?_eq_getElem this) hf⟩

theorem k17l {R P G : Int} (hP : 3 ≤ P ∧ P ≤ 65521) (L : List Int) (len : Nat) (hl : len = L.length) (hlen : L.length ≤ maxLen) (hL : ∀ z ∈ L, -2^63 ≤ z ∧ z < 2^63) (n : Nat) (hn : n < 2 ^ 40) : PureC Tryz.prog 17 [grp R P G, .sl (L.map (V.int .i64)) len, .int .i64 (n : Int)] (fun r => r = .own ((numM P L n).map (V.int .i64)) (numM P L n).length 1) := by
  rw [numM_len]; exact k17 hP L len hl hlen hL n hn
end Go.Dp
