import Derived.Test.YtkadcajmlkmhjabGreatDqG1
namespace Go.Dp
open Go.RowKit Go.Proofs
attribute [local irreducible] wp wpOps wpOp1 CallW CallT kSeq kBlk kLoop kReg retP retR kAsg kRound kRf
set_option linter.unusedVariables false
set_option linter.unusedSimpArgs false

/-- numbers of 64 bits -/
def B64 (x : Int) : Prop := -9223372036854775808 ≤ x ∧ x < 9223372036854775808

set_option maxHeartbeats 1000000 in
theorem k10 (L : List Int) (len : Nat) (hl : len = L.length) (hlen : L.length ≤ maxLen) (m : Nat) (hm : m < 1000) : PureC Tryz.prog 10 [.sl (L.map (V.int .i64)) len, .int .i64 (m : Int)] (fun r => r = .own ((L.take m).map (V.int .i64)) (L.take m).length 1) := by
  have hml : maxLen = 9223372036854775807 := by decide
  rw [hml] at hlen
  clear hml
  subst hl
  refine pureC_of_wp (.s 1) mixed ok10 rfl ?_
  unfold c10
  dsimp only [argE]
  by_cases h : L.length ≤ m
  · rw [List.take_of_length_le h]
    have e : (if (m : Int) < (L.length : Int) then (m : Int) else (L.length : Int)) = (L.length : Int) := by rw [if_neg (by omega)]
    refine W.run ?_
    rfl
  · have e : (if (m : Int) < (L.length : Int) then (m : Int) else (L.length : Int)) = (m : Int) := by rw [if_pos (by omega)]
    clear e
    have e3 : (L.take m).length = m := by simp; omega
    rw [e3]
    refine W.run ?_
    rfl

/-- lists of the same numbers -/
def sameB : List Int → List Int → Bool
  | [], [] => true
  | a :: A, b :: B => decide (a = b) && sameB A B
  | _, _ => false
theorem sameB_iff : ∀ {A B : List Int}, sameB A B = true ↔ A = B
  | [], [] => by simp [sameB]
  | [], b :: B => by simp [sameB]
  | a :: A, [] => by simp [sameB]
  | a :: A, b :: B => by simp [sameB, sameB_iff (A := A) (B := B)]
theorem sameB_len : ∀ {A B : List Int}, A.length ≠ B.length → sameB A B = false
  | [], [], h => by simp at h
  | [], b :: B, h => rfl
  | a :: A, [], h => rfl
  | a :: A, b :: B, h => by simp [sameB, sameB_len (A := A) (B := B) (by simpa using h)]

theorem k15 (A B : List Int) (hA : A.length < 2 ^ 40) (hB : B.length < 2 ^ 40) : PureC Tryz.prog 15 [.sl (A.map (V.int .i64)) A.length, .sl (B.map (V.int .i64)) B.length] (fun r => r = .bool (sameB A B)) := by
  refine pureC_of_wp .x mixed ok15 rfl ?_
  unfold c15
  dsimp only [argE]
  by_cases hl : A.length = B.length
  case neg =>
    rw [sameB_len hl]
    refine W.run ?_
    rfl
  refine W.run ?_
  refine W.lp (fun i : Nat => [(0, .sl (A.map (V.int .i64)) A.length), (1, .sl (B.map (V.int .i64)) B.length), (5, .int .i64 (i : Int))]) (fun _ => fun _ => none)
    (fun i => i ≤ A.length ∧ sameB A B = sameB (A.drop i) (B.drop i)) (fun i => A.length - i) 0 rfl (HS.refl _) ⟨by omega, rfl⟩ ?_
  rintro i nx ⟨hi, hs⟩ hnx
  by_cases hlt : i < A.length
  · rw [List.drop_eq_getElem_cons hlt, List.drop_eq_getElem_cons (by omega : i < B.length)] at hs
    by_cases he : A[i] = B[i]'(by omega)
    · refine W.run ?_
      refine W.kl (i + 1) rfl (HS.refl _) (by omega) ⟨by omega, ?_⟩ (by omega)
      rw [hs]; simp [sameB, he]
    · refine W.run ?_
      rw [hs]; simp [sameB, he]
  · have : i = A.length := by omega
    subst this
    rw [List.drop_length, hl, List.drop_length] at hs
    refine W.run ?_
    rw [hs]; rfl

theorem k29 {R P G : Int} (n : Int) : PureC Tryz.prog 29 [grp R P G, .int .i64 n] (fun r => r = .bool (decide (0 ≤ n ∧ n < P))) := by
  refine pureC_of_wp .x mixed ok29 rfl ?_
  unfold c29
  dsimp only [argE]
  by_cases h1 : 0 ≤ n
  case neg => refine W.run ?_; simp [h1]
  by_cases h2 : n < P
  case neg => refine W.run ?_; simp [h2]
  refine W.run ?_
  simp [h1, h2]

theorem inB_cons (lo hi a : Int) (A : List Int) : inB lo hi (a :: A) = (decide (lo ≤ a ∧ a ≤ hi) && inB lo hi A) := rfl
set_option maxRecDepth 10000 in
theorem k22 {R P G : Int} (A : List Int) (len : Nat) (hl : len = A.length) (hA : A.length < 2 ^ 40) : PureC Tryz.prog 22 [grp R P G, .sl (A.map (V.int .i64)) len] (fun r => r = .int .i64 (polyE P A)) := by
  subst hl
  refine pureC_of_wp .x mixed ok22 rfl ?_
  unfold c22 polyE
  dsimp only [argE]
  by_cases h1 : A.length < 1
  · rw [if_pos (.inl h1)]
    refine W.run ?_
    rfl
  by_cases h2 : 16 < A.length
  · rw [if_pos (.inr h2)]
    refine W.run ?_
    rfl
  rw [if_neg (by omega)]
  refine W.run ?_
  refine W.lp (fun i : Nat => [(1, .sl (A.map (V.int .i64)) A.length), (2, .ptr 0 0 0), (5, .int .i64 (i : Int))]) (fun _ => Hp.put (fun _ => none) 0 { cells := [.int .i64 R, .int .i64 P, .int .i64 G], sz := 3 })
    (fun i => i ≤ A.length ∧ inB 0 (P - 1) A = inB 0 (P - 1) (A.drop i)) (fun i => A.length - i) 0 rfl (HS.refl _) ⟨by omega, rfl⟩ ?_
  rintro i nx ⟨hi, hs⟩ hnx
  by_cases hlt : i < A.length
  · rw [List.drop_eq_getElem_cons hlt, inB_cons] at hs
    have c1 := k29 (R := R) (P := P) (G := G) A[i]
    by_cases he : 0 ≤ A[i] ∧ A[i] < P
    · rw [decide_eq_true he] at c1
      rw [decide_eq_true (by omega : 0 ≤ A[i] ∧ A[i] ≤ P - 1), Bool.true_and] at hs
      refine W.run ?_
      exact W.kl (i + 1) rfl (HS.refl _) (by omega) ⟨by omega, hs⟩ (by omega)
    · rw [decide_eq_false he] at c1
      rw [decide_eq_false (by omega : ¬ (0 ≤ A[i] ∧ A[i] ≤ P - 1)), Bool.false_and] at hs
      refine W.run ?_
      rw [hs]; rfl
  · have : i = A.length := by omega
    subst this
    rw [List.drop_length] at hs
    refine W.run ?_
    rw [hs]; rfl
end Go.Dp

namespace Go.Dp
open Go.RowKit Go.Proofs
attribute [local irreducible] wp wpOps wpOp1 CallW CallT kSeq kBlk kLoop kReg retP retR kAsg kRound kRf
set_option linter.unusedVariables false
set_option linter.unusedSimpArgs false

set_option maxRecDepth 10000 in
theorem k23 {R P G : Int} (hP : 3 ≤ P ∧ P ≤ 65521) (A : List Int) (len : Nat) (hl : len = A.length) (hlen : A.length < 2 ^ 40) (hA : ∀ a ∈ A, 0 ≤ a ∧ a < P) (x : Int) (hx : 0 ≤ x ∧ x < 2 ^ 40) : PureC Tryz.prog 23 [grp R P G, .sl (A.map (V.int .i64)) len, .int .i64 x] (fun r => r = .int .i64 (valM P x A)) := by
  subst hl
  refine pureC_of_wp .x mixed ok23 rfl ?_
  unfold c23
  dsimp only [argE]
  refine W.run ?_
  refine W.lp (fun y : Int × Int => [(1, .sl (A.map (V.int .i64)) A.length), (2, .int .i64 x), (3, .ptr 0 0 0), (7, .int .i64 y.2), (8, .int .i64 y.1)]) (fun _ => Hp.put (fun _ => none) 0 { cells := [.int .i64 R, .int .i64 P, .int .i64 G], sz := 3 })
    (fun y => (-1 ≤ y.1 ∧ y.1 < A.length) ∧ (0 ≤ y.2 ∧ y.2 < P) ∧ y.2 = valM P x (A.drop (y.1 + 1).toNat)) (fun y => (y.1 + 1).toNat) ((A.length : Int) - 1, 0) rfl (HS.refl _) ?_ ?_
  · refine ⟨by dsimp only; omega, by dsimp only; omega, ?_⟩
    dsimp only
    rw [show ((A.length : Int) - 1 + 1).toNat = A.length by omega, List.drop_length]; rfl
  rintro ⟨i, out⟩ nx ⟨⟨h1, h2⟩, h3, h4⟩ hnx
  dsimp only at *
  by_cases hi : 0 ≤ i
  · have hlt : i.toNat < A.length := by omega
    have ha := hA A[i.toNat] (List.getElem_mem hlt)
    have p1 : 0 ≤ out * x ∧ out * x ≤ 65521 * 1099511627776 := ⟨Int.mul_nonneg h3.1 hx.1, Int.mul_le_mul (by omega) (by omega) hx.1 (by omega)⟩
    refine W.run ?_
    refine W.kl (i - 1, _) rfl (HS.refl _) (by omega) ⟨by dsimp only; omega, ⟨Int.emod_nonneg _ (by omega), Int.emod_lt_of_pos _ (by omega)⟩, ?_⟩ (by dsimp only; omega)
    dsimp only
    rw [show (i - 1 + 1).toNat = i.toNat by omega, List.drop_eq_getElem_cons hlt, h4, show (i + 1).toNat = i.toNat + 1 by omega]
    simp only [valM]
    have e : ∀ v : Int, (v * x) % P = (v * (x % P)) % P := fun v => by rw [Int.mul_emod v (x % P), Int.emod_emod, ← Int.mul_emod]
    rw [Int.add_emod, e, ← Int.add_emod, Int.emod_add_emod]
  · refine W.run ?_
    rw [h4, show (i + 1).toNat = 0 by omega]
    rfl

set_option maxRecDepth 10000 in
theorem k24 {R P G : Int} (h : GroupI R P G) (A : List Int) (len : Nat) (hl : len = A.length) (hlen : A.length < 2 ^ 40) (hA : ∀ a ∈ A, 0 ≤ a ∧ a < P) : PureC Tryz.prog 24 [grp R P G, .sl (A.map (V.int .i64)) len] (fun r => r = .own ((comM R G A).map (V.int .i64)) len 1) := by
  have hP := h.hP
  have hR := h.hR
  have hG := h.hG
  subst hl
  refine pureC_of_wp (.s 1) mixed ok24 rfl ?_
  unfold c24
  dsimp only [argE]
  refine W.run ?_
  refine W.lp (fun i : Nat => [(1, .sl (A.map (V.int .i64)) A.length), (2, .ptr 0 0 0), (5, .ref 16 i 0 i), (6, .int .i64 (i : Int))]) (fun i => Hp.put (Hp.put (fun _ => none) 0 { cells := [.int .i64 R, .int .i64 P, .int .i64 G], sz := 3 }) 16 { cells := ((A.take i).map fun a => G ^ a.toNat % R).map (V.int .i64), sz := 1, ver := i, nl := if i = 0 then 1 else 0 })
    (fun i => i ≤ A.length) (fun i => A.length - i) 0 rfl (HS.refl _) (by omega) ?_
  rintro i nx hi hnx
  have hln : (((A.take i).map fun a => G ^ a.toNat % R).map (V.int .i64)).length = i := by simp; omega
  by_cases hlt : i < A.length
  · have ha := hA A[i] (List.getElem_mem hlt)
    have c2 := k63 G A[i] R (by omega) ha.1 (by omega) (by omega) (by omega)
    clear h
    refine W.run ?_
    refine W.kl (i + 1) rfl (HS.skip (HS.put ?_ (HS.refl _)) ?_ _) (by omega) (by omega) (by omega)
    · rw [if_neg (by omega), ← List.take_append_getElem hlt, List.map_append, List.map_append]; rfl
    · simp only [Hp.put]; rw [if_neg (by omega), if_neg (by omega)]
  · have : i = A.length := by omega
    subst this
    rw [List.take_length]
    refine W.run ?_
    rfl

set_option maxRecDepth 10000 in
theorem k42 {R P G : Int} (h : GroupI R P G) : PureC Tryz.prog 42 [grp R P G] (fun r => r = .int .i64 0) := by
  obtain ⟨hR, hP, hd, hG, pR, pP, one⟩ := h
  have c1 := k74 R (by omega) (by omega)
  have c2 := k74 P (by omega) (by omega)
  rw [primeB_of pR] at c1
  rw [primeB_of pP] at c2
  have c3 := k63 G P R (by omega) (by omega) (by omega) (by omega) (by omega)
  rw [one] at c3
  refine pureC_of_wp .x mixed ok42 rfl ?_
  unfold c42
  dsimp only [argE]
  refine W.run ?_
  rfl

/-- whether a number fits -/
def fitB (R P G : Int) (cs : List Int) (x s : Int) : Bool :=
  decide (1 ≤ cs.length ∧ cs.length ≤ 16) && decide (1 ≤ x ∧ x ≤ 64 ∧ x < P) && decide (0 ≤ s ∧ s < P) && cs.all (hasB R P) && decide (hornR R x.toNat cs = G ^ s.toNat % R)

theorem hornR_rng {R : Int} (hR : 3 ≤ R) {x : Nat} (l : List Int) : 0 ≤ hornR R x l ∧ hornR R x l < R := by
  rw [hornR_mP hR]; exact ⟨Int.emod_nonneg _ (by omega), Int.emod_lt_of_pos _ (by omega)⟩
theorem k65b (lo hi x : Int) : PureC Tryz.prog 65 [.int .i64 lo, .int .i64 hi, .sl [.int .i64 x] 1] (fun r => r = .bool (decide (lo ≤ x ∧ x ≤ hi))) := k65s lo hi x

set_option maxRecDepth 10000 in
set_option maxHeartbeats 1000000 in
theorem k25 {R P G : Int} (h : GroupI R P G) (cs : List Int) (len : Nat) (hl : len = cs.length) (hlen : cs.length < 2 ^ 40) (hc : ∀ c ∈ cs, B64 c) (x s : Int) : PureC Tryz.prog 25 [grp R P G, .sl (cs.map (V.int .i64)) len, .int .i64 x, .int .i64 s] (fun r => r = .bool (fitB R P G cs x s)) := by
  have hP := h.hP
  have hR := h.hR
  have c1 := k43 h
  have c2 := k64 h cs len hl hlen
  have c3 := k65s 1 (if P - 1 < 64 then P - 1 else 64) x
  have c4 := k66s (R := R) (G := G) hP s
  have c5 := k67 R P G
  subst hl
  refine pureC_of_wp .x mixed ok25 rfl ?_
  unfold c25 fitB
  dsimp only [argE]
  by_cases h1 : cs.length < 1
  · rw [decide_eq_false (by omega : ¬ (1 ≤ cs.length ∧ cs.length ≤ 16))]
    clear h
    refine W.run ?_
    rfl
  by_cases h2 : 16 < cs.length
  · rw [decide_eq_false (by omega : ¬ (1 ≤ cs.length ∧ cs.length ≤ 16))]
    clear h
    refine W.run ?_
    rfl
  rw [decide_eq_true (by omega : (1 ≤ cs.length ∧ cs.length ≤ 16))]
  cases hb : cs.all (hasB R P)
  · rw [hb] at c2
    clear h
    refine W.run ?_
    simp
  rw [hb] at c2
  have hall : ∀ c ∈ cs, 1 ≤ c ∧ c < R := fun c hc => (hasB_iff.1 (List.all_eq_true.1 hb c hc)).1
  by_cases hx : 1 ≤ x ∧ x ≤ 64 ∧ x < P
  case neg =>
    rw [decide_eq_false hx]
    have : ¬ (1 ≤ x ∧ x ≤ if P - 1 < 64 then P - 1 else 64) := fun hh => by
      apply hx; split at hh <;> omega
    rw [decide_eq_false this] at c3
    clear h this
    refine W.run ?_
    rfl
  rw [decide_eq_true hx]
  have h3 : 1 ≤ x ∧ x ≤ if P - 1 < 64 then P - 1 else 64 := by split <;> omega
  rw [decide_eq_true h3] at c3
  clear h3
  by_cases hs : 0 ≤ s ∧ s < P
  case neg =>
    rw [decide_eq_false hs]
    rw [decide_eq_false hs] at c4
    clear h
    refine W.run ?_
    rfl
  rw [decide_eq_true hs]
  rw [decide_eq_true hs] at c4
  have c6 := k62 h s hs.1 (by omega)
  clear h
  refine W.run ?_
  refine W.lp (fun y : Int × Int => [(1, .sl (cs.map (V.int .i64)) cs.length), (2, .int .i64 x), (3, .int .i64 s), (4, .ptr 0 0 0), (9, .int .i64 y.2), (10, .int .i64 y.1)]) (fun _ => Hp.put (fun _ => none) 0 { cells := [.int .i64 R, .int .i64 P, .int .i64 G], sz := 3 })
    (fun y => (-1 ≤ y.1 ∧ y.1 < cs.length) ∧ (0 ≤ y.2 ∧ y.2 < R) ∧ y.2 = hornR R x.toNat (cs.drop (y.1 + 1).toNat)) (fun y => (y.1 + 1).toNat) ((cs.length : Int) - 1, 1) rfl ?_ ?_ ?_
  · exact HS.skip (HS.skip (HS.refl _) rfl _) rfl _
  · refine ⟨by dsimp only; omega, by dsimp only; omega, ?_⟩
    dsimp only
    rw [show ((cs.length : Int) - 1 + 1).toNat = cs.length by omega, List.drop_length]; rfl
  rintro ⟨i, out⟩ nx ⟨⟨i1, i2⟩, i3, i4⟩ hnx
  dsimp only at *
  by_cases hi : 0 ≤ i
  · have hlt : i.toNat < cs.length := by omega
    have ha := hall cs[i.toNat] (List.getElem_mem hlt)
    have e1 : 0 ≤ out ^ x.toNat % R ∧ out ^ x.toNat % R < R := ⟨Int.emod_nonneg _ (by omega), Int.emod_lt_of_pos _ (by omega)⟩
    have p1 := mul_small e1.1 (by omega : 0 ≤ cs[i.toNat]) e1.2 ha.2 (by omega)
    have c7 := k68 out x R i3.1 (by omega) (by omega) (by omega) (by omega)
    have c8 := k49 R (out ^ x.toNat % R) cs[i.toNat] (by omega) p1.1 p1.2
    refine W.run ?_
    refine W.kl (i - 1, _) rfl (HS.refl _) (by omega) ⟨by dsimp only; omega, ⟨Int.emod_nonneg _ (by omega), Int.emod_lt_of_pos _ (by omega)⟩, ?_⟩ (by dsimp only; omega)
    dsimp only
    rw [show (i - 1 + 1).toNat = i.toNat by omega, List.drop_eq_getElem_cons hlt, i4, show (i + 1).toNat = i.toNat + 1 by omega]
    rfl
  · rw [show (i + 1).toNat = 0 by omega] at i4
    refine W.run ?_
    rw [i4]; rfl

set_option maxRecDepth 10000 in
set_option maxHeartbeats 1000000 in
theorem k69 {R P G : Int} (h : GroupI R P G) (cs : List Int) (len : Nat) (hl : len = cs.length) (hlen : cs.length < 2 ^ 40) (hc : ∀ c ∈ cs, B64 c) (x s : Int) : PureC Tryz.prog 69 [grp R P G, .sl (cs.map (V.int .i64)) len, .int .i64 x, .int .i64 s] (fun r => r = .bool (fitB R P G cs x s)) := by
  have hP := h.hP
  have hR := h.hR
  have hG := h.hG
  have c4 := k29 (R := R) (P := P) (G := G) s
  subst hl
  refine pureC_of_wp .x mixed ok69 rfl ?_
  unfold c69 fitB
  dsimp only [argE]
  by_cases h1 : cs.length < 1
  · rw [decide_eq_false (by omega : ¬ (1 ≤ cs.length ∧ cs.length ≤ 16))]
    clear h
    refine W.run ?_
    rfl
  by_cases h2 : 16 < cs.length
  · rw [decide_eq_false (by omega : ¬ (1 ≤ cs.length ∧ cs.length ≤ 16))]
    clear h
    refine W.run ?_
    rfl
  rw [decide_eq_true (by omega : (1 ≤ cs.length ∧ cs.length ≤ 16))]
  by_cases hx1 : x < 1
  · rw [decide_eq_false (by omega : ¬ (1 ≤ x ∧ x ≤ 64 ∧ x < P))]
    clear h
    refine W.run ?_
    rfl
  by_cases hx2 : 64 < x
  · rw [decide_eq_false (by omega : ¬ (1 ≤ x ∧ x ≤ 64 ∧ x < P))]
    clear h
    refine W.run ?_
    rfl
  by_cases hx3 : P ≤ x
  · rw [decide_eq_false (by omega : ¬ (1 ≤ x ∧ x ≤ 64 ∧ x < P))]
    clear h
    refine W.run ?_
    rfl
  rw [decide_eq_true (by omega : (1 ≤ x ∧ x ≤ 64 ∧ x < P))]
  by_cases hs : 0 ≤ s ∧ s < P
  case neg =>
    rw [decide_eq_false hs]
    rw [decide_eq_false hs] at c4
    clear h
    refine W.run ?_
    rfl
  rw [decide_eq_true hs]
  rw [decide_eq_true hs] at c4
  have c6 := k63 G s R (by omega) hs.1 (by omega) (by omega) (by omega)
  refine W.run ?_
  refine W.lp (fun y : Nat × Int × Int => [(1, .sl (cs.map (V.int .i64)) cs.length), (2, .int .i64 x), (3, .int .i64 s), (4, .ptr 0 0 0), (9, .int .i64 y.2.1), (10, .int .i64 y.2.2), (11, .int .i64 (y.1 : Int))]) (fun _ => Hp.put (fun _ => none) 0 { cells := [.int .i64 R, .int .i64 P, .int .i64 G], sz := 3 })
    (fun y => y.1 ≤ cs.length ∧ (0 ≤ y.2.1 ∧ y.2.1 < R) ∧ (0 ≤ y.2.2 ∧ y.2.2 < P) ∧ (∀ c ∈ cs.take y.1, hasB R P c = true) ∧ refQ R P x 1 1 cs = refQ R P x y.2.1 y.2.2 (cs.drop y.1)) (fun y => cs.length - y.1) (0, 1, 1) rfl (HS.refl _) ?_ ?_
  · exact ⟨by dsimp only; omega, by dsimp only; omega, by dsimp only; omega, fun c hc => by simp at hc, rfl⟩
  rintro ⟨i, acc, at'⟩ nx ⟨i1, i2, i3, i4, i5⟩ hnx
  dsimp only at *
  by_cases hlt : i < cs.length
  · have c7 := k36 h cs[i]
    cases hb : hasB R P cs[i]
    · rw [hb] at c7
      have : cs.all (hasB R P) = false := by
        rw [List.all_eq_false]; exact ⟨cs[i], List.getElem_mem hlt, by rw [hb]; decide⟩
      clear h
      refine W.run ?_
      rw [this]; simp
    · rw [hb] at c7
      have hb' := (hasB_iff.1 hb).1
      have c8 := k63 cs[i] at' R (by omega) (by omega) (by omega) (by omega) (by omega)
      have e1 : 0 ≤ cs[i] ^ at'.toNat % R ∧ cs[i] ^ at'.toNat % R < R := ⟨Int.emod_nonneg _ (by omega), Int.emod_lt_of_pos _ (by omega)⟩
      have p1 := mul_small i2.1 e1.1 i2.2 e1.2 (by omega)
      have p2 := mul_small i3.1 (by omega : 0 ≤ x) i3.2 (by omega) (by omega)
      clear h
      refine W.run ?_
      refine W.kl (i + 1, _, _) rfl (HS.refl _) (by omega) ⟨by dsimp only; omega, ⟨Int.emod_nonneg _ (by omega), Int.emod_lt_of_pos _ (by omega)⟩, ⟨Int.emod_nonneg _ (by omega), Int.emod_lt_of_pos _ (by omega)⟩, ?_, ?_⟩ (by dsimp only; omega)
      · dsimp only
        intro c hc
        rw [← List.take_append_getElem hlt, List.mem_append] at hc
        rcases hc with hc | hc
        · exact i4 c hc
        · have : c = cs[i] := by simpa using hc
          rw [this]; exact hb
      · dsimp only
        rw [i5, List.drop_eq_getElem_cons hlt]; rfl
  · have : i = cs.length := by omega
    subst this
    rw [List.take_length] at i4
    rw [List.drop_length] at i5
    have hall : cs.all (hasB R P) = true := List.all_eq_true.2 i4
    have hdue := due_eq hR.1 hP.1 (by omega : 0 ≤ x) (l := cs) (fun c hc => (hasB_iff.1 (i4 c hc)).2)
    rw [i5] at hdue
    have hd2 : acc = hornR R x.toNat cs := hdue
    rw [hall, ← hd2]
    clear h hdue i5
    refine W.run ?_
    rfl
set_option maxRecDepth 10000 in
theorem k26 {R P G : Int} (h : GroupI R P G) (cs : List Int) (len : Nat) (hl : len = cs.length) (hlen : cs.length < 2 ^ 40) (hc : ∀ c ∈ cs, B64 c) (x s : Int) : PureC Tryz.prog 26 [grp R P G, .sl (cs.map (V.int .i64)) len, .int .i64 x, .int .i64 s] (fun r => r = .bool (fitB R P G cs x s)) := by
  have c1 := k42 h
  have c2 := k69 h cs len hl hlen hc x s
  clear h
  refine pureC_of_wp .x mixed ok26 rfl ?_
  unfold c26
  dsimp only [argE]
  refine W.run ?_
  rfl
end Go.Dp

namespace Go.Dp
open Go.RowKit Go.Proofs
attribute [local irreducible] wp wpOps wpOp1 CallW CallT kSeq kBlk kLoop kReg retP retR kAsg kRound kRf kCut
set_option linter.unusedVariables false
set_option linter.unusedSimpArgs false

set_option maxRecDepth 10000 in
theorem k19e {R P G : Int} (h : GroupI R P G) (A : List Int) (len : Nat) (hl : len = A.length) (hlen : A.length < 2 ^ 40) (hA : polyE P A ≠ 0) (n : Int) : PureC Tryz.prog 19 [grp R P G, .sl (A.map (V.int .i64)) len, .int .i64 n] (fun r => r = .tup [.own [] 0 1, .int .i64 (polyE P A)]) := by
  have c1 := k60 h A len hl hlen
  clear h
  refine pureC_of_wp (.l [.s 1, .x]) mixed ok19 rfl ?_
  unfold c19
  dsimp only [argE]
  refine W.run ?_
  rfl
set_option maxRecDepth 10000 in
theorem k19a {R P G : Int} (h : GroupI R P G) (A : List Int) (len : Nat) (hl : len = A.length) (hlen : A.length < 2 ^ 40) (hA : polyE P A = 0) (n : Int) (hn : ¬ (1 ≤ n ∧ n ≤ 64 ∧ n < P)) : PureC Tryz.prog 19 [grp R P G, .sl (A.map (V.int .i64)) len, .int .i64 n] (fun r => r = .tup [.own [] 0 1, .int .i64 1]) := by
  have c1 := k60 h A len hl hlen
  rw [hA] at c1
  clear h
  refine pureC_of_wp (.l [.s 1, .x]) mixed ok19 rfl ?_
  unfold c19
  dsimp only [argE]
  by_cases h1 : n < 1
  · refine W.run ?_
    rfl
  by_cases h2 : 64 < n
  · refine W.run ?_
    rfl
  by_cases h3 : P ≤ n
  · refine W.run ?_
    rfl
  omega
set_option maxRecDepth 10000 in
theorem k21e {R P G : Int} (h : GroupI R P G) (A B : List Int) (len len2 : Nat) (hl : len = A.length) (hl2 : len2 = B.length) (hlen : A.length < 2 ^ 40) (hlen2 : B.length < 2 ^ 40) (hE : sumE P A B ≠ 0) : PureC Tryz.prog 21 [grp R P G, .sl (A.map (V.int .i64)) len, .sl (B.map (V.int .i64)) len2] (fun r => r = .tup [.own [] 0 1, .int .i64 (sumE P A B)]) := by
  have c1 := k60 h A len hl hlen
  have c2 := k60 h B len2 hl2 hlen2
  clear h
  subst hl hl2
  refine pureC_of_wp (.l [.s 1, .x]) mixed ok21 rfl ?_
  unfold c21
  dsimp only [argE]
  refine W.run ?_
  refine W.lp (fun i : Nat => [(1, .sl (A.map (V.int .i64)) A.length), (2, .sl (B.map (V.int .i64)) B.length), (3, .ptr 0 0 0), (16, .ref 40 0 0 2), (17, .int .i64 2), (18, .int .i64 (i : Int))]) (fun i => Hp.put (Hp.put (fun _ => none) 0 { cells := [.int .i64 R, .int .i64 P, .int .i64 G], sz := 3 }) 40 { cells := [.sl (A.map (V.int .i64)) A.length, .sl (B.map (V.int .i64)) B.length], sz := 1 })
    (fun i => i ≤ 2 ∧ (1 ≤ i → polyE P A = 0) ∧ (2 ≤ i → polyE P B = 0)) (fun i => 2 - i) 0 rfl (HS.refl _) ⟨by omega, by omega, by omega⟩ ?_
  rintro i nx ⟨hi, hi1, hi2⟩ hnx
  by_cases h0 : i = 0
  · subst h0
    by_cases hA : polyE P A = 0
    · rw [hA] at c1
      refine W.run ?_
      exact W.kl 1 rfl (HS.refl _) (by omega) ⟨by omega, fun _ => hA, by omega⟩ (by omega)
    · have : sumE P A B = polyE P A := by unfold sumE; rw [if_pos hA]
      rw [this]
      refine W.run ?_
      rfl
  by_cases h1 : i = 1
  · subst h1
    have hA := hi1 (by omega)
    by_cases hB : polyE P B = 0
    · rw [hB] at c2
      refine W.run ?_
      exact W.kl 2 rfl (HS.refl _) (by omega) ⟨by omega, fun _ => hA, fun _ => hB⟩ (by omega)
    · have : sumE P A B = polyE P B := by unfold sumE; rw [if_neg (by simp [hA]), if_pos hB]
      rw [this]
      refine W.run ?_
      rfl
  have h2 : i = 2 := by omega
  subst h2
  have hA := hi1 (by omega)
  have hB := hi2 (by omega)
  have hne : A.length ≠ B.length := fun e => hE (by unfold sumE; rw [if_neg (by simp [hA]), if_neg (by simp [hB]), if_neg (by simp [e])])
  have : sumE P A B = 7 := by unfold sumE; rw [if_neg (by simp [hA]), if_neg (by simp [hB]), if_pos hne]
  rw [this]
  refine W.run ?_
  rfl
theorem sumE_zero {P : Int} {A B : List Int} (h : sumE P A B = 0) : polyE P A = 0 ∧ polyE P B = 0 ∧ A.length = B.length := by
  unfold sumE at h
  split at h
  · omega
  split at h
  · omega
  split at h
  · omega
  rename_i h1 h2 h3
  exact ⟨by omega, by omega, by omega⟩
end Go.Dp
