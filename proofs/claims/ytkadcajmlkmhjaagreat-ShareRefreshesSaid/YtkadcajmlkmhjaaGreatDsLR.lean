import Derived.Test.YtkadcajmlkmhjaaGreatDsS2
import Derived.Test.YtkadcajmlkmhjaaGreatDsK9
import Derived.Test.YtkadcajmlkmhjaaGreatDsF4
namespace Go.Dp
open Go.RowKit Go.Proofs
attribute [local irreducible] wp wpOps wpOp1 CallW CallT kSeq kBlk kLoop kReg retP retR kAsg kRound kRf
set_option linter.unusedVariables false
set_option linter.unusedSimpArgs false
set_option maxRecDepth 10000 in
set_option maxHeartbeats 4000000 in
theorem k8 (p : Int) (L M : List Int) (b0 : -2^63 ≤ p ∧ p < 2^63) (hL : L.length ≤ maxLen) (hM : M.length ≤ maxLen) (wL : ∀ z ∈ L, -2^63 ≤ z ∧ z < 2^63) (wM : ∀ z ∈ M, -2^63 ≤ z ∧ z < 2^63) :
    PureC Tryz.prog 8 [.int .i64 p, .agg [.sl (L.map (V.int .i64)) L.length, .sl (M.map (V.int .i64)) M.length]] (fun r => r = .bool true) := by
  obtain ⟨R, P, G, hg, hk⟩ := k18 (R := 0) (G := 0) b0.1 b0.2
  have hR := hg.hR
  have hP := hg.hP
  refine pureC_of_wp .x mixed ok8 rfl ?_
  unfold c8
  dsimp only [argE]
  obtain ⟨n, hn, hn1, hn2, hn3⟩ : ∃ n : Nat, (if (if (L.length : Int) > 1 then (L.length : Int) else 1) < (if P - 1 < 6 then P - 1 else 6) then (if (L.length : Int) > 1 then (L.length : Int) else 1) else (if P - 1 < 6 then P - 1 else 6)) = (n : Int) ∧ 1 ≤ n ∧ n ≤ 6 ∧ (n : Int) ≤ P - 1 := by
    clear hk hg
    refine ⟨(if (if (L.length : Int) > 1 then (L.length : Int) else 1) < (if P - 1 < 6 then P - 1 else 6) then (if (L.length : Int) > 1 then (L.length : Int) else 1) else (if P - 1 < 6 then P - 1 else 6)).toNat, ?_, ?_, ?_, ?_⟩ <;> (split <;> split <;> (try split) <;> omega)
  obtain ⟨m, hm, hm1, hm2, hm3⟩ : ∃ m : Nat, (if P - 1 < 10 then P - 1 else 10) = (m : Int) ∧ 1 ≤ m ∧ m ≤ 10 ∧ (m : Int) ≤ P - 1 := by
    clear hk hg
    refine ⟨(if P - 1 < 10 then P - 1 else 10).toNat, ?_, ?_, ?_, ?_⟩ <;> (split <;> omega)
  have c1 := k23 (R := R) (G := G) hP L L.length rfl hL wL n (by omega)
  have c2 := k23 (R := R) (G := G) hP M M.length rfl hM wM n (by omega)
  obtain ⟨A, hA⟩ : ∃ A, A = numM P L n := ⟨_, rfl⟩
  obtain ⟨B0, hB0⟩ : ∃ B, B = numM P M n := ⟨_, rfl⟩
  have hAl : A.length = n := by rw [hA]; exact numM_len P L n
  have hBl : B0.length = n := by rw [hB0]; exact numM_len P M n
  have hAr := numM_rng (P := P) (by omega) L n
  have hBr := numM_rng (P := P) (by omega) M n
  rw [← hA] at c1 hAr
  rw [← hB0] at c2 hBr
  obtain ⟨b, B, rfl⟩ : ∃ b B, B0 = b :: B := by
    cases B0 with
    | nil => simp at hBl; omega
    | cons b B => exact ⟨b, B, rfl⟩
  clear hA hB0
  have hBr2 : ∀ a ∈ (0 :: B), 0 ≤ a ∧ a < P := fun a ha => by
    rcases List.mem_cons.1 ha with rfl | ha
    · omega
    · exact hBr a (List.mem_cons_of_mem _ ha)
  have hBl2 : (0 :: B).length = n := by simpa using hBl
  have hB1 : B.length + 1 = n := by simpa using hBl2
  have pA : polyE P A = 0 := polyE_of (by omega) hAr
  have pB : polyE P (0 :: B) = 0 := polyE_of (by omega) hBr2
  obtain ⟨C, hC⟩ : ∃ C, C = addM P A (0 :: B) := ⟨_, rfl⟩
  have hCl : C.length = n := by rw [hC, addM_len (by omega), hAl]
  have hCr : ∀ a ∈ C, 0 ≤ a ∧ a < P := fun a ha => by
    obtain ⟨i, hi, rfl⟩ := List.getElem_of_mem ha
    have := addM_get (P := P) (l := A) (m := 0 :: B) (i := i) (by omega) (by omega)
    rw [← hC, List.getElem?_eq_getElem hi, Option.some.injEq] at this
    rw [this]; exact ⟨Int.emod_nonneg _ (by omega), Int.emod_lt_of_pos _ (by omega)⟩
  have pC : polyE P C = 0 := polyE_of (by omega) hCr
  have hC0 : C[0]'(by omega) = A[0]'(by omega) := by
    have := addM_get (P := P) (l := A) (m := 0 :: B) (i := 0) (by omega) (by omega)
    rw [← hC, List.getElem?_eq_getElem (by omega), Option.some.injEq] at this
    rw [this, List.getElem_cons_zero, Int.add_zero]
    have := hAr A[0] (List.getElem_mem _)
    exact Int.emod_eq_of_lt this.1 this.2
  have c3 := k30 hg A (0 :: B) n n hAl.symm hBl2.symm (by omega) (by omega) pA pB (by omega)
  rw [← hC] at c3
  have c4 := k12 hg A n hAl.symm (by omega) pA m (by omega)
  have c5 := k12 hg (0 :: B) n hBl2.symm (by omega) pB m (by omega)
  have c6 := k12 hg C n hCl.symm (by omega) pC m (by omega)
  have c7 := k31 hg A n hAl.symm (by omega) pA
  have c8 := k31 hg (0 :: B) n hBl2.symm (by omega) pB
  have c9 := k31 hg C n hCl.symm (by omega) pC
  obtain ⟨X, hX⟩ : ∃ X, X = shM P A m := ⟨_, rfl⟩
  obtain ⟨Y, hY⟩ : ∃ Y, Y = shM P (0 :: B) m := ⟨_, rfl⟩
  obtain ⟨Z, hZ⟩ : ∃ Z, Z = shM P C m := ⟨_, rfl⟩
  have hXl : X.length = m := by rw [hX, shM_len]
  have hYl : Y.length = m := by rw [hY, shM_len]
  have hZl : Z.length = m := by rw [hZ, shM_len]
  have hz : ∀ t (h : t < m), Z[t]'(by omega) = (X[t]'(by omega) + Y[t]'(by omega)) % P := fun t h => by
    simp only [hX, hY, hZ, shM_get]
    rw [hC]; exact valM_add (by omega)
  have hXr : ∀ t (h : t < m), 0 ≤ X[t]'(by omega) ∧ X[t]'(by omega) < P := fun t h => by
    simp only [hX, shM_get]; exact valM_rng (by omega) _
  have hYr : ∀ t (h : t < m), 0 ≤ Y[t]'(by omega) ∧ Y[t]'(by omega) < P := fun t h => by
    simp only [hY, shM_get]; exact valM_rng (by omega) _
  obtain ⟨U, hU⟩ : ∃ U, U = comM R G A := ⟨_, rfl⟩
  obtain ⟨V1, hV⟩ : ∃ V1, V1 = comM R G (0 :: B) := ⟨_, rfl⟩
  obtain ⟨W1, hW⟩ : ∃ W1, W1 = comM R G C := ⟨_, rfl⟩
  have hUl : U.length = n := by rw [hU]; simp [comM, hAl]
  have hVl : V1.length = n := by rw [hV]; simpa [comM] using hBl
  have hWl : W1.length = n := by rw [hW]; simp [comM, hCl]
  have hw : ∀ t (h : t < n), W1[t]'(by omega) = (U[t]'(by omega) * V1[t]'(by omega)) % R := fun t h => by
    simp only [hU, hV, hW, comM, List.getElem_map]
    have := addM_get (P := P) (l := A) (m := 0 :: B) (i := t) (by omega) (by omega)
    rw [← hC, List.getElem?_eq_getElem (by omega), Option.some.injEq] at this
    rw [this]
    exact el_add hg (hAr _ (List.getElem_mem _)).1 (hBr2 _ (List.getElem_mem _)).1
  have hUr : ∀ t (h : t < n), 0 ≤ U[t]'(by omega) ∧ U[t]'(by omega) < R := fun t h => by
    simp only [hU, comM, List.getElem_map]; exact ⟨Int.emod_nonneg _ (by omega), Int.emod_lt_of_pos _ (by omega)⟩
  have hVr : ∀ t (h : t < n), 0 ≤ V1[t]'(by omega) ∧ V1[t]'(by omega) < R := fun t h => by
    simp only [hV, comM, List.getElem_map]; exact ⟨Int.emod_nonneg _ (by omega), Int.emod_lt_of_pos _ (by omega)⟩
  rw [← hX] at c4
  rw [← hY] at c5
  rw [← hZ] at c6
  rw [← hU] at c7
  rw [← hV] at c8
  rw [← hW] at c9
  rw [List.map_cons] at c2 c3 c5 c8
  have c10 := k25
  clear hX hY hZ hU hV hW hC hBr hg pA pB pC hL hM wL wM b0
  refine W.run ?_
  rw [hn]
  refine W.run ?_
  rw [hm]
  clear hn hm
  refine W.run ?_
  clear c1 c2 c3 c4 c5 c6 c7 c8 c9 hk
  refine W.lp (fun i : Nat => [(6, .ptr 64 0 0), (7, .int .i64 (n : Int)), (12, .int .i64 (m : Int)), (13, .sl (X.map (V.int .i64)) m), (15, .sl (Y.map (V.int .i64)) m), (17, .sl (Z.map (V.int .i64)) m), (19, .sl (U.map (V.int .i64)) n), (21, .sl (V1.map (V.int .i64)) n), (23, .sl (W1.map (V.int .i64)) n), (25, .int .i64 (i : Int))]) (fun _ => Hp.put (fun _ => none) 64 { cells := [.int .i64 R, .int .i64 P, .int .i64 G], sz := 3 })
    (fun i => i ≤ m) (fun i => m - i) 0 rfl ?_ (by omega) ?_
  · exact HS.skip (HS.skip (HS.put rfl (HS.emp _)) rfl _) rfl _
  rintro i nx hi hnx
  by_cases hlt : i < m
  · have e1 := hz i hlt
    have e2 := hXr i hlt
    have e3 := hYr i hlt
    refine W.run ?_
    exact W.kl (i + 1) rfl (HS.refl _) (by omega) (by omega) (by omega)
  have : i = m := by omega
  subst this
  refine W.run ?_
  refine W.lp (fun i : Nat => [(6, .ptr 64 0 0), (7, .int .i64 (n : Int)), (19, .sl (U.map (V.int .i64)) n), (21, .sl (V1.map (V.int .i64)) n), (23, .sl (W1.map (V.int .i64)) n), (26, .int .i64 (i : Int))]) (fun _ => Hp.put (fun _ => none) 64 { cells := [.int .i64 R, .int .i64 P, .int .i64 G], sz := 3 })
    (fun i => i ≤ n) (fun i => n - i) 0 rfl (HS.refl _) (by omega) ?_
  rintro j n2 hj hn2
  by_cases hlt : j < n
  · have e1 := hw j hlt
    have e2 := hUr j hlt
    have e3 := hVr j hlt
    have e4 := mul_small e2.1 e3.1 e2.2 e3.2 (by omega)
    refine W.run ?_
    exact W.kl (j + 1) rfl (HS.refl _) (by omega) (by omega) (by omega)
  refine W.run ?_
  rfl
end Go.Dp
