import Derived.Test.YtkadcajmlkmhjabGreatDqD2
import Derived.Test.YtkadcajmlkmhjabGreatDqR3
import Derived.Test.YtkadcajmlkmhjabGreatDqAw
import Derived.Test.YtkadcajmlkmhjabGreatDqG1
namespace Go.Dp
open Go.RowKit Go.Proofs
attribute [local irreducible] wp wpOps wpOp1 CallW CallT kSeq kBlk kLoop kReg retP retR kAsg kRound kRf kCut kItr
set_option linter.unusedVariables false
set_option linter.unusedSimpArgs false

theorem fitB_com {R P G x s : Int} (h : GroupI R P G) {A : List Int} (hl : 1 ≤ A.length ∧ A.length ≤ 16) (hA : ∀ a ∈ A, 0 ≤ a ∧ a < P) (hx : 1 ≤ x ∧ x ≤ 64 ∧ x < P) (hs : 0 ≤ s ∧ s < P) : fitB R P G (comM R G A) x s = decide (s = valM P x A) := by
  have hcl : (comM R G A).length = A.length := by simp [comM]
  have hall : (comM R G A).all (hasB R P) = true := by
    rw [List.all_eq_true]
    intro c hc
    obtain ⟨a, _, rfl⟩ := List.mem_map.1 hc
    exact hasB_pow h a
  unfold fitB
  rw [hall, hcl, decide_eq_true hl, decide_eq_true hx, decide_eq_true hs]
  simp only [Bool.true_and]
  have := fits_iff h (by omega : 0 ≤ x) (fun a ha => (hA a ha).1) hs
  rw [Bool.eq_iff_iff, decide_eq_true_eq, decide_eq_true_eq]
  exact this
theorem recL_val {R P G : Int} (h : GroupI R P G) {A X : List Int} (hA : ∀ a ∈ A, 0 ≤ a ∧ a < P) (hl : A.length = X.length) (h0 : 0 < A.length) (hX : ∀ x ∈ X, 1 ≤ x ∧ x < P) (hn : X.Nodup) : recL P X 0 X (X.map fun x => valM P x A) = A[0] := by
  have hP := h.hP
  rw [recL_lag hP.1 X _ 0 (by omega) rfl, Int.zero_add, lagrange h.pP hP.1 (fun x hx => by have := hX x hx; omega) hn (Nat.le_of_eq hl) (fun x hx => by rw [valM_ev, Int.emod_emod]) 0]
  have h1 := hA A[0] (List.getElem_mem _)
  match A, h0 with
  | a :: l, _ =>
    show (a + 0 * evI l 0) % P = a
    rw [Int.zero_mul, Int.add_zero]
    exact Int.emod_eq_of_lt h1.1 h1.2

set_option maxRecDepth 10000 in
set_option maxHeartbeats 4000000 in
theorem k5 (p : Int) (L M : List Int) (b0 : B64 p) (hL : L.length ≤ maxLen) (hM : M.length ≤ maxLen) (wL : ∀ z ∈ L, B64 z) (wM : ∀ z ∈ M, B64 z) :
    PureC Tryz.prog 5 [.int .i64 p, .sl (L.map (V.int .i64)) L.length, .sl (M.map (V.int .i64)) M.length] (fun r => r = .bool true) := by
  obtain ⟨R, P, G, hg, hk⟩ := k9 (p := p) (by unfold B64 at b0; omega) (by unfold B64 at b0; omega)
  have hR := hg.hR
  have hP := hg.hP
  obtain ⟨n, hn, hn1, hn2, hn3⟩ : ∃ n : Nat, (if (if (L.length : Int) > 1 then (L.length : Int) else 1) < (if P - 2 < 8 then P - 2 else 8) then (if (L.length : Int) > 1 then (L.length : Int) else 1) else (if P - 2 < 8 then P - 2 else 8)) = (n : Int) ∧ 1 ≤ n ∧ n ≤ 8 ∧ (n : Int) ≤ P - 2 :=
    ⟨(if (if (L.length : Int) > 1 then (L.length : Int) else 1) < (if P - 2 < 8 then P - 2 else 8) then (if (L.length : Int) > 1 then (L.length : Int) else 1) else (if P - 2 < 8 then P - 2 else 8)).toNat, by omega, by omega, by omega, by omega⟩
  obtain ⟨m, hm, hm1, hm2, hm3, hnm⟩ : ∃ m : Nat, (if P - 1 < 16 then P - 1 else 16) = (m : Int) ∧ 1 ≤ m ∧ m ≤ 16 ∧ (m : Int) ≤ P - 1 ∧ n ≤ m :=
    ⟨(if P - 1 < 16 then P - 1 else 16).toNat, by omega, by omega, by omega, by omega, by omega⟩
  have c1 := k17 (R := R) (G := G) hP L L.length rfl hL (fun z hz => by have := wL z hz; unfold B64 at this; omega) n (by omega)
  obtain ⟨A, hA⟩ : ∃ A, A = numM P L n := ⟨_, rfl⟩
  have hAl : A.length = n := by rw [hA]; exact numM_len P L n
  have hAr := numM_rng (P := P) (by omega) L n
  rw [← hA] at c1 hAr
  have pA : polyE P A = 0 := polyE_of (by omega) hAr
  have c2 := k19 hg A n hAl.symm (by omega) pA m (by omega)
  have c3 := k20 hg A n hAl.symm (by omega) pA
  have hml : maxLen = 9223372036854775807 := by decide
  rw [hml] at hM
  clear hml hL
  refine pureC_of_wp .x mixed ok5 rfl ?_
  unfold c5
  dsimp only [argE]
  refine W.run ?_
  rw [hn]
  refine W.run ?_
  rw [hm]
  refine W.run ?_
  clear c1 c2 c3 hk hn hm
  obtain ⟨S, hSe, hSl⟩ : ∃ S, S = shM P A m ∧ S.length = m := ⟨_, rfl, shM_len P A m⟩
  have hSg : ∀ i (hi : i < m), S[i]'(by omega) = valM P ((i : Int) + 1) A := fun i hi => by simp only [hSe, shM_get]
  rw [← hSe]
  clear hSe
  have hcl : (comM R G A).length = n := by simp [comM, hAl]
  have hcb : ∀ c ∈ comM R G A, B64 c := fun c hc => by
    obtain ⟨a, _, rfl⟩ := List.mem_map.1 hc
    have h1 : 0 ≤ G ^ a.toNat % R := Int.emod_nonneg _ (by omega)
    have h2 : G ^ a.toNat % R < R := Int.emod_lt_of_pos _ (by omega)
    unfold B64; omega
  refine W.lp (fun z : Nat × List Int => [(2, .sl (M.map (V.int .i64)) M.length), (7, .ptr 48 0 0), (8, .ptr 56 0 0), (9, .int .i64 (n : Int)), (10, .sl (A.map (V.int .i64)) n), (11, .int .i64 (m : Int)), (12, .sl (S.map (V.int .i64)) m), (14, .sl ((comM R G A).map (V.int .i64)) n), (16, .ref 456 z.2.length 0 z.2.length), (17, .ref 464 z.2.length 0 z.2.length), (18, .int .i64 (z.1 : Int))]) (fun z => (((Hp.put (fun _ => none) 48 { cells := [.int .i64 R, .int .i64 P, .int .i64 G], sz := 3 }).put 56 { cells := [.int .i64 R, .int .i64 P, .int .i64 G], sz := 3 }).put 456 { cells := z.2.map (V.int .i64), sz := 1, ver := z.2.length, nl := if z.2.length = 0 then 1 else 0 }).put 464 { cells := (z.2.map fun x => valM P x A).map (V.int .i64), sz := 1, ver := z.2.length, nl := if z.2.length = 0 then 1 else 0 })
    (fun z => z.1 ≤ m ∧ z.2.length ≤ n ∧ n ≤ z.2.length + (m - z.1) ∧ z.2.Nodup ∧ ∀ x ∈ z.2, 1 ≤ x ∧ x ≤ z.1) (fun z => m - z.1) (0, []) rfl ?_ ?_ ?_
  · exact HS.put rfl (HS.put rfl (HS.refl _))
  · exact ⟨by dsimp only; omega, by simp, by simp; omega, by simp, fun x hx => by cases hx⟩
  rintro ⟨i, X⟩ n2 ⟨hi, hX1, hX2, hXn, hXr⟩ hn2
  dsimp only at hi hX1 hX2 hXn hXr ⊢
  by_cases hlt : i < m
  · have hSi := hSg i hlt
    have hv := valM_rng (P := P) (x := (i : Int) + 1) (by omega) A
    have hv2 : 0 ≤ (S[i]'(by omega) + 1) % P ∧ (S[i]'(by omega) + 1) % P < P := ⟨Int.emod_nonneg _ (by omega), Int.emod_lt_of_pos _ (by omega)⟩
    have hne : (S[i]'(by omega) + 1) % P ≠ S[i]'(by omega) := by
      rw [hSi]
      by_cases hc : valM P ((i : Int) + 1) A + 1 < P
      · rw [Int.emod_eq_of_lt (by omega) hc]; omega
      · have : valM P ((i : Int) + 1) A + 1 = P := by omega
        rw [this, Int.emod_self]; omega
    rw [← hSi] at hv
    have c1 := k25 hg (comM R G A) n hcl.symm (by omega) hcb ((i : Int) + 1) (S[i]'(by omega))
    have c2 := k25 hg (comM R G A) n hcl.symm (by omega) hcb ((i : Int) + 1) ((S[i]'(by omega) + 1) % P)
    rw [fitB_com hg (by omega) hAr (by omega) (by omega), ← hSi] at c1 c2
    rw [decide_eq_true rfl] at c1
    rw [decide_eq_false hne] at c2
    have hXn' : (X ++ [(i : Int) + 1]).Nodup := nodup_snoc.2 ⟨hXn, fun h => by have := hXr _ h; omega⟩
    have hXr' : ∀ x ∈ X ++ [(i : Int) + 1], 1 ≤ x ∧ x ≤ ((i + 1 : Nat) : Int) := fun x hx => by
      rw [List.mem_append, List.mem_singleton] at hx
      rcases hx with h | rfl
      · have := hXr x h; omega
      · omega
    have hml : (List.map (fun x => valM P x A) X).length = X.length := by simp
    clear hg hv2 hne
    by_cases hXl : X.length < n
    case neg =>
      refine W.run ?_
      exact W.kl (i + 1, X) rfl (HS.put (by dsimp only; rw [if_neg (by omega)]) (HS.put (by dsimp only; rw [if_neg (by omega)]) (HS.refl _))) (by omega) ⟨by dsimp only; omega, hX1, by dsimp only; omega, hXn, fun x hx => by have := hXr x hx; dsimp only; omega⟩ (by dsimp only; omega)
    by_cases hr : (m : Int) - i ≤ n - X.length
    · by_cases hi2 : i < M.length
      · by_cases ho : (M[i]'hi2).tmod 2 = 0
        · refine W.run ?_
          refine W.kl (i + 1, X ++ [(i : Int) + 1]) (by dsimp only; rw [List.length_append, List.length_singleton]; rfl) ?_ (by omega) ⟨by dsimp only; omega, by simp; omega, by simp; omega, hXn', hXr'⟩ (by dsimp only; omega)
          refine HS.skip (HS.skip (HS.put ?_ (HS.put ?_ (HS.refl _))) ?_ _) ?_ _
          · dsimp only; rw [List.length_append, List.length_singleton, if_neg (by omega), List.map_append, List.map_append]; simp [hSi]
          · dsimp only; rw [List.length_append, List.length_singleton, if_neg (by omega), List.map_append]; rfl
          · simp only [Hp.put]; repeat (rw [if_neg (by omega)])
          · simp only [Hp.put]; repeat (rw [if_neg (by omega)])
        · refine W.run ?_
          refine W.kl (i + 1, X ++ [(i : Int) + 1]) (by dsimp only; rw [List.length_append, List.length_singleton]; rfl) ?_ (by omega) ⟨by dsimp only; omega, by simp; omega, by simp; omega, hXn', hXr'⟩ (by dsimp only; omega)
          refine HS.skip (HS.skip (HS.put ?_ (HS.put ?_ (HS.refl _))) ?_ _) ?_ _
          · dsimp only; rw [List.length_append, List.length_singleton, if_neg (by omega), List.map_append, List.map_append]; simp [hSi]
          · dsimp only; rw [List.length_append, List.length_singleton, if_neg (by omega), List.map_append]; rfl
          · simp only [Hp.put]; repeat (rw [if_neg (by omega)])
          · simp only [Hp.put]; repeat (rw [if_neg (by omega)])
      · refine W.run ?_
        refine W.kl (i + 1, X ++ [(i : Int) + 1]) (by dsimp only; rw [List.length_append, List.length_singleton]; rfl) ?_ (by omega) ⟨by dsimp only; omega, by simp; omega, by simp; omega, hXn', hXr'⟩ (by dsimp only; omega)
        refine HS.skip (HS.skip (HS.put ?_ (HS.put ?_ (HS.refl _))) ?_ _) ?_ _
        · dsimp only; rw [List.length_append, List.length_singleton, if_neg (by omega), List.map_append, List.map_append]; simp [hSi]
        · dsimp only; rw [List.length_append, List.length_singleton, if_neg (by omega), List.map_append]; rfl
        · simp only [Hp.put]; repeat (rw [if_neg (by omega)])
        · simp only [Hp.put]; repeat (rw [if_neg (by omega)])
    · by_cases hi2 : i < M.length
      · by_cases ho : (M[i]'hi2).tmod 2 = 0
        · refine W.run ?_
          exact W.kl (i + 1, X) rfl (HS.refl _) (by omega) ⟨by dsimp only; omega, hX1, by dsimp only; omega, hXn, fun x hx => by have := hXr x hx; dsimp only; omega⟩ (by dsimp only; omega)
        · refine W.run ?_
          refine W.kl (i + 1, X ++ [(i : Int) + 1]) (by dsimp only; rw [List.length_append, List.length_singleton]; rfl) ?_ (by omega) ⟨by dsimp only; omega, by simp; omega, by simp; omega, hXn', hXr'⟩ (by dsimp only; omega)
          refine HS.skip (HS.skip (HS.put ?_ (HS.put ?_ (HS.refl _))) ?_ _) ?_ _
          · dsimp only; rw [List.length_append, List.length_singleton, if_neg (by omega), List.map_append, List.map_append]; simp [hSi]
          · dsimp only; rw [List.length_append, List.length_singleton, if_neg (by omega), List.map_append]; rfl
          · simp only [Hp.put]; repeat (rw [if_neg (by omega)])
          · simp only [Hp.put]; repeat (rw [if_neg (by omega)])
      · refine W.run ?_
        exact W.kl (i + 1, X) rfl (HS.refl _) (by omega) ⟨by dsimp only; omega, hX1, by dsimp only; omega, hXn, fun x hx => by have := hXr x hx; dsimp only; omega⟩ (by dsimp only; omega)
  · have : i = m := by omega
    subst this
    have hXe : X.length = n := by omega
    have hXr2 : ∀ x ∈ X, 1 ≤ x ∧ x < P := fun x hx => by have := hXr x hx; omega
    have hA0 : 0 < A.length := by omega
    have hrec := recL_val hg hAr (by omega) hA0 hXr2 hXn
    have hchk : chkE P X (X.map fun x => valM P x A) = 0 := by
      unfold chkE
      rw [if_neg (by simp), if_neg (by omega), if_pos, if_pos hXn]
      rw [Bool.and_eq_true, List.all_eq_true, List.all_eq_true]
      refine ⟨fun x hx => decide_eq_true (hXr2 x hx), fun s hs => decide_eq_true ?_⟩
      obtain ⟨x, _, rfl⟩ := List.mem_map.1 hs
      exact valM_rng (by omega) A
    have c1 := k11 hg X (X.map fun x => valM P x A) (by simp) hchk
    rw [hrec] at c1
    have c2 := k18
    have hml : (List.map (fun x => valM P x A) X).length = X.length := by simp
    clear hg hrec hchk hXr2 hXr hXn
    refine W.run ?_
    rfl
end Go.Dp
