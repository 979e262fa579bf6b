import Derived.Test.YtkadcajmlkmhjabGreatDqK8
namespace Go.Dp
open Go.RowKit Go.Proofs
attribute [local irreducible] wp wpOps wpOp1 CallW CallT kSeq kBlk kLoop kReg retP retR kAsg kRound kRf
set_option linter.unusedVariables false
set_option linter.unusedSimpArgs false

set_option maxRecDepth 10000 in
theorem k47 (R P G : Int) : PureC Tryz.prog 47 [grp R P G] (fun r => r = .int .i64 P) := by
  refine pureC_of_wp .x mixed ok47 rfl ?_
  unfold c47
  dsimp only [argE]
  refine W.go ?_
  rfl
set_option maxRecDepth 10000 in
theorem k51 (m a b : Int) (hm : 0 < m) (ha : 0 ≤ a ∧ a < 2 ^ 62) (hb : 0 ≤ b ∧ b < 2 ^ 62) : PureC Tryz.prog 51 [.int .i64 m, .int .i64 a, .int .i64 b] (fun r => r = .int .i64 ((a + b) % m)) := by
  refine pureC_of_wp .x mixed ok51 rfl ?_
  unfold c51
  dsimp only [argE]
  refine W.go ?_
  rfl

/-- what checkPoly answers -/
def polyE (P : Int) (A : List Int) : Int := if A.length < 1 ∨ 16 < A.length then 2 else if inB 0 (P - 1) A = true then 0 else 1

set_option maxRecDepth 10000 in
theorem k60 {R P G : Int} (h : GroupI R P G) (A : List Int) (len : Nat) (hl : len = A.length) (hlen : A.length < 2 ^ 40) : PureC Tryz.prog 60 [grp R P G, .sl (A.map (V.int .i64)) len] (fun r => r = .int .i64 (polyE P A)) := by
  have c1 := k43 h
  have c2 := k66 (R := R) (G := G) h.hP A len hl hlen
  clear h
  subst hl
  refine pureC_of_wp .x mixed ok60 rfl ?_
  unfold c60 polyE
  dsimp only [argE]
  by_cases h1 : A.length < 1
  · rw [if_pos (.inl h1)]
    refine W.go ?_
    refine W.cl c1 ?_
    refine W.go ?_
    rfl
  by_cases h2 : 16 < A.length
  · rw [if_pos (.inr h2)]
    refine W.go ?_
    refine W.cl c1 ?_
    refine W.go ?_
    rfl
  rw [if_neg (by omega)]
  cases hb : inB 0 (P - 1) A
  · rw [hb] at c2
    refine W.go ?_
    refine W.cl c1 ?_
    refine W.go ?_
    refine W.cl c2 ?_
    refine W.go ?_
    rfl
  · rw [hb] at c2
    refine W.go ?_
    refine W.cl c1 ?_
    refine W.go ?_
    refine W.cl c2 ?_
    refine W.go ?_
    rfl

set_option maxRecDepth 10000 in
theorem k61 {R P G : Int} (hP : 3 ≤ P ∧ P ≤ 65521) (A : List Int) (len : Nat) (hl : len = A.length) (hlen : A.length < 2 ^ 40) (hA : ∀ a ∈ A, 0 ≤ a ∧ a < P) (x : Int) (hx : 0 ≤ x) : PureC Tryz.prog 61 [grp R P G, .sl (A.map (V.int .i64)) len, .int .i64 x] (fun r => r = .int .i64 (valM P x A)) := by
  subst hl
  refine pureC_of_wp .x mixed ok61 rfl ?_
  unfold c61
  dsimp only [argE]
  refine W.go ?_
  refine W.lp (fun y : Int × Int => [(1, .sl (A.map (V.int .i64)) A.length), (2, .int .i64 x), (3, .ptr 0 0 0), (7, .int .i64 y.2), (8, .int .i64 y.1)]) (fun _ => Hp.put (fun _ => none) 0 { cells := [.int .i64 R, .int .i64 P, .int .i64 G], sz := 3 })
    (fun y => (-1 ≤ y.1 ∧ y.1 < A.length) ∧ (0 ≤ y.2 ∧ y.2 < P) ∧ y.2 = valM P x (A.drop (y.1 + 1).toNat)) (fun y => (y.1 + 1).toNat) ((A.length : Int) - 1, 0) rfl (HS.refl _) ?_ ?_
  · refine ⟨by dsimp only; omega, by dsimp only; omega, ?_⟩
    dsimp only
    rw [show ((A.length : Int) - 1 + 1).toNat = A.length by omega, List.drop_length]; rfl
  rintro ⟨i, out⟩ nx ⟨⟨h1, h2⟩, h3, h4⟩ hnx
  dsimp only at *
  by_cases hi : 0 ≤ i
  · have hlt : i.toNat < A.length := by omega
    have ha := hA A[i.toNat] (List.getElem_mem hlt)
    have e1 : 0 ≤ x % P ∧ x % P < P := ⟨Int.emod_nonneg _ (by omega), Int.emod_lt_of_pos _ (by omega)⟩
    have p1 := mul_small h3.1 e1.1 h3.2 e1.2 (by omega)
    have c1 := k49 P out (x % P) (by omega) p1.1 p1.2
    have e2 : 0 ≤ out * (x % P) % P ∧ out * (x % P) % P < P := ⟨Int.emod_nonneg _ (by omega), Int.emod_lt_of_pos _ (by omega)⟩
    have c2 := k51 P (out * (x % P) % P) A[i.toNat] (by omega) (by omega) (by omega)
    refine W.go ?_
    refine W.cl (k47 R P G) ?_
    refine W.go ?_
    refine W.cl (k47 R P G) ?_
    refine W.go ?_
    refine W.cl c1 ?_
    refine W.go ?_
    refine W.cl c2 ?_
    refine W.go ?_
    refine W.kl (i - 1, _) rfl (HS.refl _) (by omega) ⟨by dsimp only; omega, ⟨Int.emod_nonneg _ (by omega), Int.emod_lt_of_pos _ (by omega)⟩, ?_⟩ (by dsimp only; omega)
    dsimp only
    rw [show (i - 1 + 1).toNat = i.toNat by omega, List.drop_eq_getElem_cons hlt, h4, show (i + 1).toNat = i.toNat + 1 by omega]
    rfl
  · refine W.go ?_
    rw [h4, show (i + 1).toNat = 0 by omega]
    rfl
end Go.Dp

namespace Go.Dp
open Go.RowKit Go.Proofs
attribute [local irreducible] wp wpOps wpOp1 CallW CallT kSeq kBlk kLoop kReg retP retR kAsg kRound kRf
set_option linter.unusedVariables false
set_option linter.unusedSimpArgs false
theorem polyE_len {P : Int} {A : List Int} (h : polyE P A = 0) : 1 ≤ A.length ∧ A.length ≤ 16 := by
  unfold polyE at h
  split at h
  · omega
  · omega
theorem polyE_rng {P : Int} {A : List Int} (h : polyE P A = 0) : ∀ a ∈ A, 0 ≤ a ∧ a < P := by
  have hl := polyE_len h
  unfold polyE at h
  rw [if_neg (by omega)] at h
  split at h
  · rename_i hb
    intro a ha
    have := List.all_eq_true.1 hb a ha
    simp only [decide_eq_true_eq] at this
    omega
  · omega

set_option maxRecDepth 10000 in
theorem k20 {R P G : Int} (h : GroupI R P G) (A : List Int) (len : Nat) (hl : len = A.length) (hlen : A.length < 2 ^ 40) (hA : polyE P A = 0) : PureC Tryz.prog 20 [grp R P G, .sl (A.map (V.int .i64)) len] (fun r => r = .tup [.own ((comM R G A).map (V.int .i64)) len 1, .int .i64 0]) := by
  have c1 := k60 h A len hl hlen
  rw [hA] at c1
  have hP := h.hP
  subst hl
  refine pureC_of_wp (.l [.s 1, .x]) mixed ok20 rfl ?_
  unfold c20
  dsimp only [argE]
  have hlen1 := polyE_len hA
  have hA2 := polyE_rng hA
  refine W.run ?_
  refine W.lp (fun i : Nat => [(2, .ptr 0 0 0), (7, .ref 72 i 0 i), (16, .sl (A.map (V.int .i64)) A.length), (17, .int .i64 (A.length : Int)), (18, .int .i64 (i : Int))]) (fun i => Hp.put (Hp.put (fun _ => none) 0 { cells := [.int .i64 R, .int .i64 P, .int .i64 G], sz := 3 }) 72 { cells := ((A.take i).map fun a => G ^ a.toNat % R).map (V.int .i64), sz := 1, ver := i, nl := if i = 0 then 1 else 0 })
    (fun i => i ≤ A.length) (fun i => A.length - i) 0 rfl (HS.refl _) (by omega) ?_
  rintro i nx hi hnx
  by_cases hlt : i < A.length
  · have ha := hA2 A[i] (List.getElem_mem hlt)
    have c2 := k62 h A[i] ha.1 (by omega)
    clear h
    have hln : (((A.take i).map fun a => G ^ a.toNat % R).map (V.int .i64)).length = i := by simp; omega
    refine W.run ?_
    refine W.kl (i + 1) rfl (HS.skip (HS.put ?_ (HS.refl _)) ?_ _) (by omega) (by omega) (by omega)
    · rw [if_neg (by omega), ← List.take_append_getElem hlt, List.map_append, List.map_append]; rfl
    · simp only [Hp.put]; rw [if_neg (by omega), if_neg (by omega)]
  · have : i = A.length := by omega
    subst this
    rw [List.take_length, if_neg (by omega)]
    refine W.run ?_
    rfl

set_option maxRecDepth 10000 in
theorem k20e {R P G : Int} (h : GroupI R P G) (A : List Int) (len : Nat) (hl : len = A.length) (hlen : A.length < 2 ^ 40) (hA : polyE P A ≠ 0) : PureC Tryz.prog 20 [grp R P G, .sl (A.map (V.int .i64)) len] (fun r => r = .tup [.own [] 0 1, .int .i64 (polyE P A)]) := by
  have c1 := k60 h A len hl hlen
  refine pureC_of_wp (.l [.s 1, .x]) mixed ok20 rfl ?_
  unfold c20
  dsimp only [argE]
  clear h
  refine W.run ?_
  rfl

/-- the shares -/
def shM (P : Int) (A : List Int) (n : Nat) : List Int := (List.range n).map fun x : Nat => valM P ((x : Int) + 1) A
theorem shM_len (P : Int) (A : List Int) (n : Nat) : (shM P A n).length = n := by simp [shM]
theorem shM_succ (P : Int) (A : List Int) (n : Nat) : shM P A (n + 1) = shM P A n ++ [valM P ((n : Int) + 1) A] := by simp [shM, List.range_succ]
theorem shM_get {P : Int} {A : List Int} {n i : Nat} (h : i < (shM P A n).length) : (shM P A n)[i] = valM P ((i : Int) + 1) A := by simp [shM]

set_option maxRecDepth 10000 in
theorem k19 {R P G : Int} (h : GroupI R P G) (A : List Int) (len : Nat) (hl : len = A.length) (hlen : A.length < 2 ^ 40) (hA : polyE P A = 0) (n : Nat) (hn : 1 ≤ n ∧ n ≤ 64 ∧ (n : Int) < P) : PureC Tryz.prog 19 [grp R P G, .sl (A.map (V.int .i64)) len, .int .i64 (n : Int)] (fun r => r = .tup [.own ((shM P A n).map (V.int .i64)) n 1, .int .i64 0]) := by
  have c1 := k60 h A len hl hlen
  rw [hA] at c1
  have hP := h.hP
  subst hl
  refine pureC_of_wp (.l [.s 1, .x]) mixed ok19 rfl ?_
  unfold c19
  dsimp only [argE]
  have hlen1 := polyE_len hA
  have hA2 := polyE_rng hA
  obtain ⟨hn1, hn2, hn3⟩ := hn
  refine W.run ?_
  refine W.lp (fun i : Nat => [(1, .sl (A.map (V.int .i64)) A.length), (3, .ptr 0 0 0), (9, .ref 168 i 0 i), (29, .int .i64 (n : Int)), (30, .int .i64 (i : Int))]) (fun i => Hp.put (Hp.put (fun _ => none) 0 { cells := [.int .i64 R, .int .i64 P, .int .i64 G], sz := 3 }) 168 { cells := (shM P A i).map (V.int .i64), sz := 1, ver := i, nl := if i = 0 then 1 else 0 })
    (fun i => i ≤ n) (fun i => n - i) 0 rfl (HS.refl _) (by omega) ?_
  rintro i nx hi hnx
  by_cases hlt : i < n
  · have c2 := k61 (R := R) (G := G) hP A A.length rfl hlen hA2 ((i : Int) + 1) (by omega)
    clear h
    have hln := shM_len P A i
    refine W.run ?_
    refine W.kl (i + 1) rfl (HS.skip (HS.put ?_ (HS.refl _)) ?_ _) (by omega) (by omega) (by omega)
    · rw [if_neg (by omega), shM_succ, List.map_append]; rfl
    · simp only [Hp.put]; rw [if_neg (by omega), if_neg (by omega)]
  · have : i = n := by omega
    subst this
    rw [if_neg (by omega)]
    have hln := shM_len P A i
    refine W.run ?_
    rfl

/-- numbers from 0 to P - 1 of any ones -/
def numI (P : Int) (l : List Int) (i : Nat) : Int := match l[i]? with
  | some z => z % 18446744073709551616 % P
  | none => (i : Int) % P
def numM (P : Int) (l : List Int) (n : Nat) : List Int := (List.range n).map (numI P l)
theorem numM_len (P : Int) (l : List Int) (n : Nat) : (numM P l n).length = n := by simp [numM]
theorem numM_succ (P : Int) (l : List Int) (n : Nat) : numM P l (n + 1) = numM P l n ++ [numI P l n] := by simp [numM, List.range_succ]
theorem numI_rng {P : Int} (hP : 0 < P) (l : List Int) (i : Nat) : 0 ≤ numI P l i ∧ numI P l i < P := by
  unfold numI; split <;> exact ⟨Int.emod_nonneg _ (by omega), Int.emod_lt_of_pos _ hP⟩
theorem numM_rng {P : Int} (hP : 0 < P) (l : List Int) (n : Nat) : ∀ a ∈ numM P l n, 0 ≤ a ∧ a < P := by
  intro a ha
  obtain ⟨i, _, rfl⟩ := List.mem_map.1 ha
  exact numI_rng hP l i
theorem polyE_of {P : Int} {A : List Int} (h1 : 1 ≤ A.length ∧ A.length ≤ 16) (h2 : ∀ a ∈ A, 0 ≤ a ∧ a < P) : polyE P A = 0 := by
  unfold polyE
  rw [if_neg (by omega), if_pos]
  exact List.all_eq_true.2 fun a ha => by have := h2 a ha; simp only [decide_eq_true_eq]; omega

set_option maxRecDepth 10000 in
theorem k17 {R P G : Int} (hP : 3 ≤ P ∧ P ≤ 65521) (L : List Int) (len : Nat) (hl : len = L.length) (hlen : L.length ≤ maxLen) (hL : ∀ z ∈ L, -2^63 ≤ z ∧ z < 2^63) (n : Nat) (hn : n < 2 ^ 40) : PureC Tryz.prog 17 [grp R P G, .sl (L.map (V.int .i64)) len, .int .i64 (n : Int)] (fun r => r = .own ((numM P L n).map (V.int .i64)) n 1) := by
  have hml : maxLen = 9223372036854775807 := by decide
  rw [hml] at hlen
  clear hml
  subst hl
  refine pureC_of_wp (.s 1) mixed ok17 rfl ?_
  unfold c17
  dsimp only [argE]
  refine W.run ?_
  refine W.lp (fun i : Nat => [(1, .sl (L.map (V.int .i64)) L.length), (2, .int .i64 (n : Int)), (3, .ptr 0 0 0), (7, .ref 16 i 0 i), (8, .int .i64 (i : Int))]) (fun i => Hp.put (Hp.put (fun _ => none) 0 { cells := [.int .i64 R, .int .i64 P, .int .i64 G], sz := 3 }) 16 { cells := (numM P L i).map (V.int .i64), sz := 1, ver := i, nl := if i = 0 then 1 else 0 })
    (fun i => i ≤ n) (fun i => n - i) 0 rfl (HS.refl _) (by omega) ?_
  rintro i nx hi hnx
  have hln := numM_len P L i
  by_cases hlt : i < n
  · by_cases hiL : i < L.length
    · have hz := hL L[i] (List.getElem_mem hiL)
      have hz2 : 0 ≤ L[i] % 18446744073709551616 ∧ L[i] % 18446744073709551616 < 18446744073709551616 := ⟨Int.emod_nonneg _ (by omega), Int.emod_lt_of_pos _ (by omega)⟩
      have hz3 : 0 ≤ L[i] % 18446744073709551616 % P ∧ L[i] % 18446744073709551616 % P < P := ⟨Int.emod_nonneg _ (by omega), Int.emod_lt_of_pos _ (by omega)⟩
      refine W.run ?_
      refine W.kl (i + 1) rfl (HS.skip (HS.put ?_ (HS.refl _)) ?_ _) (by omega) (by omega) (by omega)
      · rw [if_neg (by omega), numM_succ, List.map_append]
        have : numI P L i = L[i] % 18446744073709551616 % P % P := by
          unfold numI; rw [List.getElem?_eq_getElem hiL]; simp
        rw [this]; rfl
      · simp only [Hp.put]; rw [if_neg (by omega), if_neg (by omega)]
    · refine W.run ?_
      refine W.kl (i + 1) rfl (HS.skip (HS.put ?_ (HS.refl _)) ?_ _) (by omega) (by omega) (by omega)
      · rw [if_neg (by omega), numM_succ, List.map_append]
        have : numI P L i = (i : Int) % P := by
          unfold numI; rw [List.getElem?_eq_none (by omega)]
        rw [this]; rfl
      · simp only [Hp.put]; rw [if_neg (by omega), if_neg (by omega)]
  · have : i = n := by omega
    subst this
    refine W.run ?_
    rfl

/-- what Sum answers -/
def sumE (P : Int) (A B : List Int) : Int := if polyE P A ≠ 0 then polyE P A else if polyE P B ≠ 0 then polyE P B else if A.length ≠ B.length then 7 else 0
theorem addM_take {P : Int} : ∀ {A B : List Int} {i : Nat} (hA : i < A.length) (hB : i < B.length), addM P (A.take (i + 1)) (B.take (i + 1)) = addM P (A.take i) (B.take i) ++ [(A[i] + B[i]) % P]
  | a :: A, b :: B, 0, _, _ => by simp [addM]
  | a :: A, b :: B, i + 1, hA, hB => by
    simp only [List.take_succ_cons, addM, List.getElem_cons_succ, List.cons_append]
    rw [addM_take (by simpa using hA) (by simpa using hB)]

set_option maxRecDepth 10000 in
theorem k21 {R P G : Int} (h : GroupI R P G) (A B : List Int) (len len2 : Nat) (hl : len = A.length) (hl2 : len2 = B.length) (hlen : A.length < 2 ^ 40) (hlen2 : B.length < 2 ^ 40) (hA : polyE P A = 0) (hB : polyE P B = 0) (hAB : A.length = B.length) : PureC Tryz.prog 21 [grp R P G, .sl (A.map (V.int .i64)) len, .sl (B.map (V.int .i64)) len2] (fun r => r = .tup [.own ((addM P A B).map (V.int .i64)) len 1, .int .i64 0]) := by
  have c1 := k60 h A len hl hlen
  have c2 := k60 h B len2 hl2 hlen2
  rw [hA] at c1
  rw [hB] at c2
  have c3 := k47 R P G
  have hP := h.hP
  clear h
  have hlA := polyE_len hA
  have hrA := polyE_rng hA
  have hrB := polyE_rng hB
  subst hl hl2
  refine pureC_of_wp (.l [.s 1, .x]) mixed ok21 rfl ?_
  unfold c21
  dsimp only [argE]
  refine W.run ?_
  refine W.lp (fun i : Nat => [(1, .sl (A.map (V.int .i64)) A.length), (2, .sl (B.map (V.int .i64)) B.length), (3, .ptr 0 0 0), (16, .ref 40 0 0 2), (17, .int .i64 2), (18, .int .i64 (i : Int))]) (fun i => Hp.put (Hp.put (fun _ => none) 0 { cells := [.int .i64 R, .int .i64 P, .int .i64 G], sz := 3 }) 40 { cells := [.sl (A.map (V.int .i64)) A.length, .sl (B.map (V.int .i64)) B.length], sz := 1 })
    (fun i => i ≤ 2) (fun i => 2 - i) 0 rfl (HS.refl _) (by omega) ?_
  rintro i nx hi hnx
  by_cases h0 : i = 0
  · subst h0
    refine W.run ?_
    exact W.kl 1 rfl (HS.refl _) (by omega) (by omega) (by omega)
  by_cases h1 : i = 1
  · subst h1
    refine W.run ?_
    exact W.kl 2 rfl (HS.refl _) (by omega) (by omega) (by omega)
  have h2 : i = 2 := by omega
  subst h2
  refine W.run ?_
  refine W.lp (fun i : Nat => [(2, .sl (B.map (V.int .i64)) B.length), (3, .ptr 0 0 0), (11, .ref (nx + 48) i 0 i), (34, .sl (A.map (V.int .i64)) A.length), (35, .int .i64 (A.length : Int)), (36, .int .i64 (i : Int))]) (fun i => Hp.put (Hp.put (fun _ => none) 0 { cells := [.int .i64 R, .int .i64 P, .int .i64 G], sz := 3 }) (nx + 48) { cells := (addM P (A.take i) (B.take i)).map (V.int .i64), sz := 1, ver := i, nl := if i = 0 then 1 else 0 })
    (fun i => i ≤ A.length) (fun i => A.length - i) 0 rfl ?_ (by omega) ?_
  · exact HS.put rfl (HS.skip (HS.refl _) (by simp only [Hp.put]; rw [if_neg (by omega)]) _)
  rintro i n2 hi hn2
  have hln : (addM P (A.take i) (B.take i)).length = i := by rw [addM_len (by simp [hAB])]; simp; omega
  by_cases hlt : i < A.length
  · have a1 := hrA A[i] (List.getElem_mem hlt)
    have a2 := hrB (B[i]'(by omega)) (List.getElem_mem _)
    have c4 := k51 P A[i] (B[i]'(by omega)) (by omega) (by omega) (by omega)
    refine W.run ?_
    refine W.kl (i + 1) rfl (HS.skip (HS.put ?_ (HS.refl _)) ?_ _) (by omega) (by omega) (by omega)
    · rw [if_neg (by omega), addM_take hlt (by omega), List.map_append]; rfl
    · simp only [Hp.put]; rw [if_neg (by omega), if_neg (by omega)]
  · have : i = A.length := by omega
    subst this
    have hl3 : (addM P A B).length = B.length := by rw [addM_len hAB, hAB]
    rw [List.take_length, hAB, List.take_length]
    refine W.run ?_
    rfl
end Go.Dp

namespace Go.Dp
open Go.RowKit Go.Proofs
attribute [local irreducible] wp wpOps wpOp1 CallW CallT kSeq kBlk kLoop kReg retP retR kAsg kRound kRf kCut
set_option linter.unusedVariables false
theorem k9 {p : Int} (b0 : -2^63 ≤ p) (b1 : p < 2^63) : ∃ R P G, GroupI R P G ∧ PureC Tryz.prog 9 [.int .i64 p] (fun r => r = .tup [grp R P G, grp R P G]) := by
  by_cases hp : 3 ≤ p ∧ p ≤ 65521 ∧ PrimeI p
  · obtain ⟨R, G, K, h, hf, hg⟩ := find_ex hp.2.2 hp.1 hp.2.1
    exact ⟨R, p, G, hg, k9a hf⟩
  · have : (p % 18446744073709551616 % 12).toNat < pr12.length := by show _ < 12; omega
    obtain ⟨q1, q2, q3⟩ := pr12_ok _ (List.getElem_mem this)
    obtain ⟨R, G, K, h, hf, hg⟩ := find_ex q1 q2 q3
    exact ⟨R, _, G, hg, k9b b0 b1 (by by_cases a : p < 3; exact .inl a; by_cases b : 65521 < p; exact .inr (.inl b); exact .inr (.inr fun c => hp ⟨by omega, by omega, c⟩)) (List.getElem?_eq_getElem this) hf⟩

theorem k17l {R P G : Int} (hP : 3 ≤ P ∧ P ≤ 65521) (L : List Int) (len : Nat) (hl : len = L.length) (hlen : L.length ≤ maxLen) (hL : ∀ z ∈ L, -2^63 ≤ z ∧ z < 2^63) (n : Nat) (hn : n < 2 ^ 40) : PureC Tryz.prog 17 [grp R P G, .sl (L.map (V.int .i64)) len, .int .i64 (n : Int)] (fun r => r = .own ((numM P L n).map (V.int .i64)) (numM P L n).length 1) := by
  rw [numM_len]; exact k17 hP L len hl hlen hL n hn
end Go.Dp
