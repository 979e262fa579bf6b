import Derived.Test.YtkadcajmlkmhjabGreatDqK2
namespace Go.Dp
open Go.RowKit Go.Proofs
attribute [local irreducible] wp wpOps wpOp1 CallW CallT kSeq kBlk kLoop kReg retP retR kAsg kRound kRf
set_option linter.unusedVariables false

def idxI {α : Type} (q : α → Bool) : List α → Nat → Int
  | [], _ => -1
  | a :: l, i => if q a then (i : Int) else idxI q l (i + 1)
theorem idxI_drop {α : Type} {q : α → Bool} {A : List α} {i : Nat} (h : i < A.length) : idxI q (A.drop i) i = if q A[i] then (i : Int) else idxI q (A.drop (i + 1)) (i + 1) := by
  rw [List.drop_eq_getElem_cons h]; rfl
theorem idxI_any {α : Type} {q : α → Bool} : ∀ (A : List α) (i : Nat), (0 ≤ idxI q A i ↔ A.any q = true) ∧ idxI q A i ≤ i + A.length
  | [], i => by simp [idxI]
  | a :: l, i => by
    have ih := idxI_any (q := q) l (i + 1)
    simp only [idxI, List.any_cons, List.length_cons]
    cases h : q a
    · simp only [if_false, Bool.false_or, Bool.false_eq_true]
      refine ⟨ih.1, by have := ih.2; omega⟩
    · simp only [if_true, Bool.true_or, iff_true]; omega

set_option maxRecDepth 10000 in
theorem k120 {α : Type} (e : α → V) (A : List α) (len : Nat) (hl : len = A.length) (hlen : A.length < 2 ^ 40) (g : FuncId) (caps : List V) (q : α → Bool) (ha : ∀ a, (e a).atom = true) (hc : ∀ v ∈ caps, v.atom = true) (hg : ∀ a ∈ A, PureC Tryz.prog g (e a :: caps) (fun r => r = .bool (q a))) :
    PureC Tryz.prog 120 [.sl (A.map e) len, .clo (.func g) [] caps] (fun r => r = .int .i64 (idxI q A 0)) := by
  subst hl
  refine pureC_of_wp .x mixed ok120 rfl ?_
  unfold c120
  dsimp only [argE]
  refine W.go ?_
  refine W.lp (fun i : Nat => [(0, .sl (A.map e) A.length), (1, .clo (.func g) [] caps), (7, .int .i64 (A.length : Int)), (8, .int .i64 (i : Int))]) (fun _ _ => none)
    (fun i => i ≤ A.length ∧ idxI q A 0 = idxI q (A.drop i) i) (fun i => A.length - i) 0 rfl (HS.refl _) ⟨by omega, rfl⟩ ?_
  rintro i nx ⟨h1, h2⟩ hnx
  by_cases hi : i < A.length
  · refine W.go ?_
    have ha' := ha A[i]
    refine W.cl (hg A[i] (List.getElem_mem hi)) ?_
    rw [idxI_drop hi] at h2
    cases hq : q A[i]
    · rw [hq] at h2
      refine W.go ?_
      refine W.kl (i + 1) rfl (HS.refl _) (by omega) ⟨by omega, ?_⟩ (by omega)
      simpa using h2
    · rw [hq] at h2
      refine W.go ?_
      rw [h2]; rfl
  · have : i = A.length := by omega
    subst this
    refine W.go ?_
    rw [h2, List.drop_length]; rfl

set_option maxRecDepth 10000 in
theorem k93 {α : Type} (e : α → V) (A : List α) (len : Nat) (hl : len = A.length) (hlen : A.length < 2 ^ 40) (g : FuncId) (caps : List V) (q : α → Bool) (ha : ∀ a, (e a).atom = true) (hc : ∀ v ∈ caps, v.atom = true) (hg : ∀ a ∈ A, PureC Tryz.prog g (e a :: caps) (fun r => r = .bool (q a))) :
    PureC Tryz.prog 93 [.sl (A.map e) len, .clo (.func g) [] caps] (fun r => r = .bool (A.any q)) := by
  refine pureC_of_wp .x mixed ok93 rfl ?_
  unfold c93
  dsimp only [argE]
  refine W.go ?_
  refine W.cl (k120 e A len hl hlen g caps q ha hc hg) ?_
  have h := idxI_any (q := q) A 0
  cases hq : A.any q
  · have : ¬ 0 ≤ idxI q A 0 := fun h' => by rw [h.1.1 h'] at hq; cases hq
    refine W.go ?_
    rfl
  · have : 0 ≤ idxI q A 0 := h.1.2 hq
    refine W.go ?_
    rfl

set_option maxRecDepth 10000 in
theorem k95 (x lo hi : Int) : PureC Tryz.prog 95 [.int .i64 x, .fp [.int .i64 lo] 0, .fp [.int .i64 hi] 0] (fun r => r = .bool (decide (x < lo ∨ hi < x))) := by
  refine pureC_of_wp .x mixed ok95 rfl ?_
  unfold c95
  dsimp only [argE]
  by_cases h1 : x < lo
  · refine W.go ?_
    rw [decide_eq_true (.inl h1)]
  · refine W.go ?_
    simp [h1]

/-- all numbers within bounds -/
def inB (lo hi : Int) (A : List Int) : Bool := A.all fun x => decide (lo ≤ x ∧ x ≤ hi)

set_option maxRecDepth 10000 in
theorem k65 (lo hi : Int) (A : List Int) (len : Nat) (hl : len = A.length) (hlen : A.length < 2 ^ 40) : PureC Tryz.prog 65 [.int .i64 lo, .int .i64 hi, .sl (A.map (V.int .i64)) len] (fun r => r = .bool (inB lo hi A)) := by
  refine pureC_of_wp .x mixed ok65 rfl ?_
  unfold c65
  dsimp only [argE]
  refine W.go ?_
  refine W.cl (k93 (V.int .i64) A len hl hlen 95 [.fp [.int .i64 lo] 0, .fp [.int .i64 hi] 0] (fun x => decide (x < lo ∨ hi < x)) (fun _ => rfl) (by simp [V.atom]) (fun a _ => k95 a lo hi)) ?_
  refine W.go ?_
  unfold inB
  rw [List.not_any_eq_all_not]
  congr 2
  funext x
  by_cases h1 : x < lo <;> by_cases h2 : hi < x <;> simp [h1, h2] <;> omega
end Go.Dp
