/- What the calls answer on boards without deals; what is no draw. -/
import Derived.Test.YtlbjgnkjicifhaaGreatDwQ0
import Derived.Test.YtlbjgnkjicifhaaGreatDwQ1
import Derived.Test.YtlbjgnkjicifhaaGreatDpWk
import Derived.Test.YtlbjgnkjicifhaaGreatDsF4
namespace Go.Dp
open Go.RowKit Go.Proofs
attribute [local irreducible] wp wpOps wpOp1 CallW CallT kSeq kBlk kLoop kReg retP retR kAsg kRound kRf kCut kItr kItr2
set_option linter.unusedVariables false
set_option linter.unusedSimpArgs false
theorem k16 (R P G H B K : Int) : PureC Tryz.prog 16 [cfgV R P G H B K] (fun r => r = cfgV R P G H B K) := by
  refine pureC_of_wp .x mixed ok16 rfl ?_
  unfold c16
  rw [rep6]
  dsimp only [argE, cfgV]
  refine W.run ?_
  rfl
/-- what is no draw is refused -/
theorem k10e (R P G H B K e kind : Int) (he : e ≠ 0) (h35 : PureC Tryz.prog 35 [cfgV R P G H B K] (fun r => r = .int .i64 e)) (h36 : PureC Tryz.prog 36 [cfgV R P G H B K] (fun r => r = .int .i64 e)) : PureC Tryz.prog 10 [cfgV R P G H B K, .int .i64 kind] (fun r => r = .bool true) := by
  have h51 := fun most v1 v2 v3 v4 => k51x he h36 most v1 v2 v3 v4
  have c1 := k37e (k73e 79 he (h51 400))
  have c2 := k32e (k73e 74 he (h51 400))
  have c3 := k38e (h := 1) he (h51 400)
  have c4 := k24e he (h51 400)
  have c5 := k31e he c4
  have c6 := k33e he (h51 400)
  have c7 := k26e he (h51 400)
  have c8 := k15e he (h51 100)
  have c9 := k16 R P G H B K
  have cA := k22
  clear h51
  refine pureC_of_wp .x mixed ok10 rfl ?_
  unfold c10
  rw [rep6]
  dsimp only [argE, cfgV]
  refine W.run ?_
  rfl
def zLn : Ln := ⟨0, 0, 0, []⟩
def zL (n : Nat) : List Ln := List.replicate n zLn
abbrev zC : List V := [.int .i64 0, .int .i64 0, .int .i64 0, .nils]
theorem zC_vw : ∀ n, VWL (zerosV zC n) (linC (zL n))
  | 0 => .nil
  | n + 1 => .cons (.refl _) (.cons (.refl _) (.cons (.refl _) (.cons .nils (zC_vw n))))
theorem zC_len : ∀ n, (zerosV zC n).length = n * 4
  | 0 => rfl
  | n + 1 => by simp [zerosV, zC_len n]; omega
theorem zC_atoms : ∀ n, ∀ v ∈ zerosV zC n, v.atom = true
  | 0, v, h => by cases h
  | n + 1, v, h => by
    simp only [zerosV, zC, List.cons_append, List.nil_append, List.mem_cons] at h
    rcases h with rfl | rfl | rfl | rfl | h
    · rfl
    · rfl
    · rfl
    · rfl
    · exact zC_atoms n v h
theorem zL_ok {n : Nat} (h : n < 2 ^ 20) : LnsB (zL n) := ⟨by simp [zL]; omega, fun x hx => by rw [List.eq_of_mem_replicate hx]; exact ⟨by simp [zLn], by simp [zLn]⟩⟩
/-- no line of the deals counts -/
def NoD (c : Cf) (b : Brd) : Prop := ∀ h, ∀ x ∈ b.d, qDeal c h x = false
section
variable {c : Cf} {b : Brd} (hd : NoD c b)
include hd
theorem noD_find (h : Int) : b.d.find? (qDeal c h) = none := List.find?_eq_none.2 fun x hx => by rw [hd h x hx]; simp
theorem noD_deal (h : Int) : b.deal c h = none := by unfold Brd.deal dealL; rw [noD_find hd h]
theorem noD_first (h : Int) : b.first c h = -1 := fstI_no fun x hx => hd h x hx
theorem noD_in (h : Int) : isInM c b h = false := by unfold isInM; rw [noD_deal hd h]; rfl
theorem noD_halls : hallsL c (isInM c b) = [] := by
  unfold hallsL; rw [List.filter_eq_nil_iff]; intro x _; rw [noD_in hd x]; simp
theorem noD_dlt : hallsL c (fun h => (b.deal c h).isSome) = [] := by
  unfold hallsL; rw [List.filter_eq_nil_iff]; intro x _; rw [noD_deal hd x]; simp
theorem noD_sum : sumM c b = (0, false) := by unfold sumM; rw [noD_halls hd]; rfl
theorem noD_sumQ : sumQ c b = (0, 4) := by unfold sumQ; rw [noD_sum hd]; rfl
theorem noD_ball : ballR c b = (0, 4) := by unfold ballR; rw [noD_sum hd]; rfl
theorem noD_sec (h : Int) : secR c b h = (0, 4) := by unfold secR; rw [noD_in hd h, Bool.and_false]; rfl
theorem noD_guilt : guiltM c b = [] := by
  have e1 : (allH c).flatMap (g1 c b) = [] := List.flatMap_eq_nil_iff.2 fun h _ => by
    have : twiceM c b h = -1 := fstI_no fun x hx => by rw [qTwice, hd h x hx]; rfl
    rw [g1, this]; rfl
  have e2 : (allH c).flatMap (g2 c b) = [] := List.flatMap_eq_nil_iff.2 fun h _ => by rw [g2, noD_first hd h]; rfl
  have e5 : (allH c).flatMap (g5 c b) = [] := List.flatMap_eq_nil_iff.2 fun h _ => by
    have : ∀ x, q5 c b h x = false := fun x => by
      rw [q5, revC, opnC, noD_deal hd, noD_in hd]; simp
    have hi : ∀ (l : List Ln) n, idxG (fun i x => if q5 c b h x then [(h, 5, (i : Int))] else []) n l = [] := by
      intro l
      induction l with
      | nil => intro n; rfl
      | cons x l ih => intro n; simp only [idxG, this x, ih (n + 1)]; rfl
    exact hi b.r 0
  unfold guiltM dltH
  rw [noD_dlt hd, e1, e2, e5]; rfl
end
theorem noD_zero {c : Cf} {b : Brd} (h : ∀ x ∈ b.d, x.kind = 0) : NoD c b := fun k x hx => by
  simp [qDeal, cntB, h x hx]
theorem seven (c : Cf) (hc : c.Ok) (b : Brd) (hb : b.Ok) (bv : V) (hbv : VW bv (bdV b)) (hd : NoD c b) (t : Bool) (ht : b.fits 400 = t)
    (h33 : PureC Tryz.prog 33 [c.v, bdV b] (fun r => r = if b.fits 400 then .tup [gV (guiltM c b), .int .i64 0] else .tup [.nils, .int .i64 2])) :
    PureC Tryz.prog 37 [c.v, bv] (fun r => r = if t then .tup [slI [], .int .i64 0] else .tup [.nils, .int .i64 2]) ∧
    PureC Tryz.prog 32 [c.v, bv] (fun r => r = if t then .tup [slI [], .int .i64 0] else .tup [.nils, .int .i64 2]) ∧
    PureC Tryz.prog 38 [c.v, bv, .int .i64 1] (fun r => r = if t then .tup [.int .i64 0, .int .i64 4] else .tup [.int .i64 0, .int .i64 2]) ∧
    PureC Tryz.prog 24 [c.v, bv] (fun r => r = if t then .tup [.int .i64 0, .int .i64 4] else .tup [.int .i64 0, .int .i64 2]) ∧
    PureC Tryz.prog 31 [c.v, bv] (fun r => r = if t then .tup [.int .i64 0, .int .i64 4] else .tup [.int .i64 0, .int .i64 2]) ∧
    PureC Tryz.prog 33 [c.v, bv] (fun r => r = if t then .tup [.nils, .int .i64 0] else .tup [.nils, .int .i64 2]) ∧
    PureC Tryz.prog 26 [c.v, .int .i64 0, .nils, .nils, bv, .int .i64 9] (fun r => r = if t then .tup [.nils, .int .i64 1] else .tup [.nils, .int .i64 2]) := by
  have c1 := k37 c hc b hb
  have c2 := k32 c hc b hb
  have c3 := k38 c hc b hb 1
  have c4 := k24 c hc b hb
  have c5 := k31 c hc b hb
  have c7 := k26 c hc b hb 0 [] [] (by decide) (by decide) 9
  rw [noD_dlt hd] at c1
  rw [noD_halls hd] at c2
  rw [noD_sec hd] at c3
  rw [noD_sumQ hd] at c4
  rw [noD_ball hd] at c5
  rw [noD_guilt hd] at h33
  have hE : postE c 0 [] [] 9 = 1 := by unfold postE; rw [if_pos (by intro h; omega)]
  rw [hE] at c7
  have hw2 : VWL [c.v, bv] [c.v, bdV b] := .cons (.refl _) (.cons hbv .nil)
  subst ht
  refine ⟨c1.weak hw2, c2.weak hw2, c3.weak (.cons (.refl _) (.cons hbv (.refl _))), c4.weak hw2, c5.weak hw2, h33.weak hw2, ?_⟩
  have := c7.weak (ds := [c.v, .int .i64 0, .nils, .nils, bv, .int .i64 9]) (.cons (.refl _) (.cons (.refl _) (.cons .nils (.cons .nils (.cons hbv (.refl _))))))
  cases hf : b.fits 400
  · rw [hf, if_pos rfl] at this; exact this
  · rw [hf, if_neg (by simp), if_pos (by omega)] at this; exact this
theorem zL_fits {n : Nat} : okL 400 (zL n) = decide (n ≤ 400) := by
  unfold okL
  have : ((zL n).any fun x => decide (64 < x.nums.length)) = false := by
    rw [List.any_eq_false]; intro x hx; rw [List.eq_of_mem_replicate hx]; simp [zLn]
  rw [this]
  simp only [zL, List.length_replicate, Bool.not_false, Bool.and_true]
  congr 1
  rw [eq_iff_iff]; omega
theorem okL_nil : okL 400 [] = true := rfl
theorem zL_vw (n : Nat) : VW (.sl (zerosV zC n) n) (linV (zL n)) := by
  show VW (.sl (zerosV zC n) n) (.sl (linC (zL n)) (zL n).length)
  rw [show (zL n).length = n by simp [zL]]
  exact VW.sl (zC_vw n)
theorem nil_ok : LnsB [] := ⟨by decide, fun x h => by cases h⟩
end Go.Dp
