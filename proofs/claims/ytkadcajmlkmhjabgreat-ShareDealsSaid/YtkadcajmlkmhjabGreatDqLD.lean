import Derived.Test.YtkadcajmlkmhjabGreatDqD3
import Derived.Test.YtkadcajmlkmhjabGreatDqAw
namespace Go.Dp
open Go.RowKit Go.Proofs
attribute [local irreducible] wp wpOps wpOp1 CallW CallT kSeq kBlk kLoop kReg retP retR kAsg kRound kRf kCut
set_option linter.unusedVariables false
set_option linter.unusedSimpArgs false

theorem k9 {p : Int} (b0 : -2^63 ≤ p) (b1 : p < 2^63) : ∃ R P G, GroupI R P G ∧ PureC Tryz.prog 9 [.int .i64 p] (fun r => r = .tup [grp R P G, grp R P G]) := by
  by_cases hp : 3 ≤ p ∧ p ≤ 65521 ∧ PrimeI p
  · obtain ⟨R, G, K, h, hf, hg⟩ := find_ex hp.2.2 hp.1 hp.2.1
    exact ⟨R, p, G, hg, k9a hf⟩
  · have : (p % 18446744073709551616 % 12).toNat < pr12.length := by show _ < 12; omega
    obtain ⟨q1, q2, q3⟩ := pr12_ok _ (List.getElem_mem this)
    obtain ⟨R, G, K, h, hf, hg⟩ := find_ex q1 q2 q3
    exact ⟨R, _, G, hg, k9b b0 b1 (by by_cases a : p < 3; exact .inl a; by_cases b : 65521 < p; exact .inr (.inl b); exact .inr (.inr fun c => hp ⟨by omega, by omega, c⟩)) (List.getElem?_eq_getElem this) hf⟩

theorem k17l {R P G : Int} (hP : 3 ≤ P ∧ P ≤ 65521) (L : List Int) (len : Nat) (hl : len = L.length) (hlen : L.length ≤ maxLen) (hL : ∀ z ∈ L, -2^63 ≤ z ∧ z < 2^63) (n : Nat) (hn : n < 2 ^ 40) : PureC Tryz.prog 17 [grp R P G, .sl (L.map (V.int .i64)) len, .int .i64 (n : Int)] (fun r => r = .own ((numM P L n).map (V.int .i64)) (numM P L n).length 1) := by
  rw [numM_len]; exact k17 hP L len hl hlen hL n hn
/-- the objects of a round -/
def hp4 (L M : List Int) (u v w R P G : Int) (A B : List Int) (o1 o2 n1 n2 f1 f2 : Nat) : Hp :=
  (((((Hp.put (fun _ => none) 0 { cells := [.sl (L.map (V.int .i64)) L.length, .sl (M.map (V.int .i64)) M.length], sz := 2 }).put 8 { cells := [.int .i64 u, .int .i64 v, .int .i64 w], sz := 3 }).put 64 { cells := [.int .i64 R, .int .i64 P, .int .i64 G], sz := 3 }).put 72 { cells := [.int .i64 R, .int .i64 P, .int .i64 G], sz := 3 }).put o1 { cells := A.map (V.int .i64), sz := 1, fz := f1, nl := n1 }).put o2 { cells := B.map (V.int .i64), sz := 1, fz := f2, nl := n2 }
structure Q4 where
  k : Nat
  A : List Int
  B : List Int
  h : Int
  o1 : Nat
  o2 : Nat
  n1 : Nat
  n2 : Nat
  f1 : Nat
  f2 : Nat

set_option maxRecDepth 10000 in
set_option maxHeartbeats 4000000 in
theorem k4 (p : Int) (L M : List Int) (u v w : Int) (b0 : B64 p) (hu : B64 u) (hv : B64 v) (hw : B64 w) (hL : L.length ≤ maxLen) (hM : M.length ≤ maxLen) (wL : ∀ z ∈ L, B64 z) (wM : ∀ z ∈ M, B64 z) :
    PureC Tryz.prog 4 [.int .i64 p, .agg [.sl (L.map (V.int .i64)) L.length, .sl (M.map (V.int .i64)) M.length], .agg [.int .i64 u, .int .i64 v, .int .i64 w]] (fun r => r = .bool true) := by
  obtain ⟨R, P, G, hg, hk⟩ := k9 (p := p) (by unfold B64 at b0; omega) (by unfold B64 at b0; omega)
  have hR := hg.hR
  have hP := hg.hP
  have c1 := k10 L L.length rfl hL 18 (by omega)
  have c2 := k10 M M.length rfl hM 18 (by omega)
  rw [show ((18 : Nat) : Int) = 18 from rfl] at c1 c2
  have hu' := hu
  unfold B64 at hu'
  have hu100 : -100 < u.tmod 100 ∧ u.tmod 100 < 100 := by
    have h1 := Int.lt_tmod_of_pos u (by omega : (0 : Int) < 100)
    have h2 := Int.tmod_lt_of_pos u (by omega : (0 : Int) < 100)
    omega
  refine pureC_of_wp .x mixed ok4 rfl ?_
  unfold c4
  dsimp only [argE]
  refine W.run ?_
  clear c1 c2 hk
  refine W.lp (fun q : Q4 => [(4, .ptr 0 0 0), (5, .ptr 8 0 0), (7, .ptr 64 0 0), (8, .ptr 72 0 0), (9, .ref q.o1 0 0 q.A.length), (10, .ref q.o2 0 0 q.B.length), (11, .int .i64 q.h), (12, .int .i64 (q.k : Int))]) (fun q => hp4 L M u v w R P G q.A q.B q.o1 q.o2 q.n1 q.n2 q.f1 q.f2)
    (fun q => q.k ≤ 2 ∧ 72 < q.o1 ∧ q.o1 < q.o2 ∧ (q.A.length ≤ 18 ∧ q.B.length ≤ 18) ∧ (∀ a ∈ q.A, B64 a) ∧ (∀ a ∈ q.B, B64 a) ∧ (-100 < q.h ∧ q.h < 100)) (fun q => 2 - q.k) ⟨0, L.take 18, M.take 18, u.tmod 100, 112, 136, _, _, _, _⟩ rfl (HS.refl _) ?_ ?_
  · refine ⟨by dsimp only; omega, by dsimp only; omega, by dsimp only; omega, ⟨by simp; omega, by simp; omega⟩, fun a ha => wL a (List.mem_of_mem_take ha), fun a ha => wM a (List.mem_of_mem_take ha), hu100⟩
  rintro ⟨k, A, B, h, o1, o2, n1, n2, f1, f2⟩ nx ⟨hk, ho1, ho2, ⟨hA, hB⟩, wA, wB, hh⟩ hnx
  dsimp only [hp4] at hk ho1 ho2 hA hB wA wB hh ⊢
  by_cases hk2 : k < 2
  case neg =>
    have c := k18
    refine W.run ?_
    rfl
  refine W.seq (W.seq ?_)
  refine W.gos ?_
  refine W.seq (W.blk ?_)
  by_cases hpA : polyE P A = 0
  · have hrA := polyE_rng hpA
    have hlA := polyE_len hpA
    have c2 := k20 hg A A.length rfl (by omega) hpA
    have c4 := k22 (R := R) (P := P) (G := G) A A.length rfl (by omega)
    have c5 := k22 (R := R) (P := P) (G := G) B B.length rfl (by omega)
    rw [hpA] at c4
    have hCl : (comM R G A).length = A.length := by simp [comM]
    have hCb : ∀ c ∈ comM R G A, B64 c := fun c hc => by
      obtain ⟨a, _, rfl⟩ := List.mem_map.1 hc
      have h1 : 0 ≤ G ^ a.toNat % R := Int.emod_nonneg _ (by omega)
      have h2 : G ^ a.toNat % R < R := Int.emod_lt_of_pos _ (by omega)
      unfold B64; omega
    refine W.assoc (W.assoc (W.assoc (W.assoc (W.assoc (W.assoc (W.assoc (W.assoc (W.assoc (W.assoc (W.assoc (W.assoc (W.cut (fun _ : Nat × Nat => [(4, .ptr 0 0 0), (5, .ptr 8 0 0), (7, .ptr 64 0 0), (8, .ptr 72 0 0), (9, .ref o1 0 0 A.length), (10, .ref o2 0 0 B.length), (12, .int .i64 (k : Int)), (15, .sl ((comM R G A).map (V.int .i64)) A.length), (19, .int .i64 0)]) (fun x => hp4 L M u v w R P G A B o1 o2 n1 n2 x.1 x.2) (fun _ => True) nx ?_ ?_))))))))))))
    · rintro ⟨g1, g2⟩ n' _ hn'
      dsimp only [hp4]
      have c1 := k24 hg A A.length rfl (by omega) hrA
      have c3 := k15 (comM R G A) (comM R G A) (by omega) (by omega)
      rw [sameB_iff.2 rfl, hCl] at c3
      clear c2 c4 c5
      refine W.run ?_
      clear c1 c3
      refine W.lp (fun y : Nat × Int × Int × Nat => [(4, .ptr 0 0 0), (5, .ptr 8 0 0), (7, .ptr 64 0 0), (8, .ptr 72 0 0), (9, .ref o1 0 0 A.length), (12, .int .i64 (k : Int)), (19, .int .i64 0), (25, .sl ((comM R G A).map (V.int .i64)) A.length), (26, .int .i64 y.2.1), (27, .int .i64 y.2.2.1), (28, .int .i64 (y.1 : Int))]) (fun y => hp4 L M u v w R P G A B o1 o2 n1 n2 y.2.2.2 g2) (fun y => y.1 ≤ 3 ∧ B64 y.2.1 ∧ B64 y.2.2.1) (fun y => 3 - y.1) (0, v, w, _) rfl (HS.refl _) ⟨by dsimp only; omega, hv, hw⟩ ?_
      rintro ⟨i, x, y, g3⟩ n3 ⟨hi, hx, hy⟩ hn3
      dsimp only [hp4] at hi hx hy ⊢
      by_cases hlt : i < 3
      · have c7 := k25 hg (comM R G A) A.length hCl.symm (by omega) hCb x y
        have c8 := k26 hg (comM R G A) A.length hCl.symm (by omega) hCb x y
        have e1 : 0 ≤ x % 18446744073709551616 ∧ x % 18446744073709551616 < 18446744073709551616 := ⟨Int.emod_nonneg _ (by omega), Int.emod_lt_of_pos _ (by omega)⟩
        have e2 : 0 ≤ y % 18446744073709551616 ∧ y % 18446744073709551616 < 18446744073709551616 := ⟨Int.emod_nonneg _ (by omega), Int.emod_lt_of_pos _ (by omega)⟩
        have e3 : 0 ≤ x % 18446744073709551616 % (if P - 1 < 64 then P - 1 else 64) ∧ x % 18446744073709551616 % (if P - 1 < 64 then P - 1 else 64) < (if P - 1 < 64 then P - 1 else 64) := ⟨Int.emod_nonneg _ (by omega), Int.emod_lt_of_pos _ (by omega)⟩
        have e4 : 0 ≤ y % 18446744073709551616 % P ∧ y % 18446744073709551616 % P < P := ⟨Int.emod_nonneg _ (by omega), Int.emod_lt_of_pos _ (by omega)⟩
        have hbx : B64 (1 + x % 18446744073709551616 % (if P - 1 < 64 then P - 1 else 64)) := by unfold B64; omega
        have hby : B64 (y % 18446744073709551616 % P) := by unfold B64; omega
        have c9 := k23 (R := R) (G := G) hP A A.length rfl (by omega) hrA (1 + x % 18446744073709551616 % (if P - 1 < 64 then P - 1 else 64)) (by omega)
        have e5 := valM_rng (P := P) (x := 1 + x % 18446744073709551616 % (if P - 1 < 64 then P - 1 else 64)) (by omega) A
        have hbv : B64 (valM P (1 + x % 18446744073709551616 % (if P - 1 < 64 then P - 1 else 64)) A) := by unfold B64; omega
        clear hg
        by_cases hi1 : i = 1
        · subst hi1
          refine W.run ?_
          exact W.kl (2, _, _, _) rfl (HS.refl _) (by omega) ⟨by dsimp only; omega, hbx, hbv⟩ (by dsimp only; omega)
        · refine W.run ?_
          exact W.kl (i + 1, _, _, _) rfl (HS.refl _) (by omega) ⟨by dsimp only; omega, hbx, hby⟩ (by dsimp only; omega)
      · obtain ⟨nn, hnn, hnn1, hnn2⟩ : ∃ nn : Nat, 1 + u % 18446744073709551616 % 8 = (nn : Int) ∧ 1 ≤ nn ∧ nn ≤ 8 := ⟨(1 + u % 18446744073709551616 % 8).toNat, by omega, by omega, by omega⟩
        have c1 := k17l (R := R) (G := G) hP L L.length rfl hL (fun z hz => by have := wL z hz; unfold B64 at this; omega) nn (by omega)
        have c2 := k17l (R := R) (G := G) hP M M.length rfl hM (fun z hz => by have := wM z hz; unfold B64 at this; omega) nn (by omega)
        have e3 : 0 ≤ u % 18446744073709551616 % (if P - 1 < 20 then P - 1 else 20) ∧ u % 18446744073709551616 % (if P - 1 < 20 then P - 1 else 20) < (if P - 1 < 20 then P - 1 else 20) := ⟨Int.emod_nonneg _ (by omega), Int.emod_lt_of_pos _ (by omega)⟩
        have e4 : 0 ≤ u % 18446744073709551616 ∧ u % 18446744073709551616 < 18446744073709551616 := ⟨Int.emod_nonneg _ (by omega), Int.emod_lt_of_pos _ (by omega)⟩
        have r1 := numM_rng (P := P) (by omega) L nn
        have r2 := numM_rng (P := P) (by omega) M nn
        have l1 := numM_len P L nn
        have l2 := numM_len P M nn
        clear hg
        refine W.run ?_
        rw [hnn]
        refine W.run ?_
        refine W.kl (⟨k + 1, numM P L nn, numM P M nn, _, _, _, if (List.map (V.int .i64) (numM P L nn)).isEmpty = true then 2 else 0, if (List.map (V.int .i64) (numM P M nn)).isEmpty = true then 2 else 0, 0, 0⟩ : Q4) rfl ?_ (by omega) ⟨by dsimp only; omega, ?_, ?_, ⟨by dsimp only; omega, by dsimp only; omega⟩, fun a ha => ?_, fun a ha => ?_, ?_⟩ (by dsimp only; omega)
        · exact HS.put rfl (HS.put rfl (HS.skip (HS.skip (HS.refl _) (by simp only [Hp.put]; rw [if_neg (by omega), if_neg (by omega), if_neg (by omega), if_neg (by omega)]) _) (by simp only [Hp.put]; rw [if_neg (by omega), if_neg (by omega), if_neg (by omega), if_neg (by omega)]) _))
        · dsimp only; omega
        · dsimp only; omega
        · have := r1 a ha; unfold B64; omega
        · have := r2 a ha; unfold B64; omega
        · dsimp only; omega
    · intro Gc hG
      refine W.seq (W.seq (W.seq (W.seq ?_)))
      obtain ⟨U, c3, hU0, hU1⟩ : ∃ U : List Int, PureC Tryz.prog 21 [grp R P G, .sl (A.map (V.int .i64)) A.length, .sl (B.map (V.int .i64)) B.length] (fun r => r = .tup [.own (U.map (V.int .i64)) U.length 1, .int .i64 (sumE P A B)]) ∧ (sumE P A B = 0 → U = addM P A B) ∧ (sumE P A B ≠ 0 → U = []) := by
        by_cases hs : sumE P A B = 0
        · obtain ⟨_, hpB, hAB⟩ := sumE_zero hs
          refine ⟨addM P A B, ?_, fun _ => rfl, fun h => absurd hs h⟩
          rw [hs, addM_len hAB]
          exact k21 hg A B A.length B.length rfl rfl (by omega) (by omega) hpA hpB hAB
        · exact ⟨[], k21e hg A B A.length B.length rfl rfl (by omega) (by omega) hs, fun h => absurd h hs, fun _ => rfl⟩
      refine W.cut (fun _ : Nat × Nat => [(4, .ptr 0 0 0), (5, .ptr 8 0 0), (7, .ptr 64 0 0), (8, .ptr 72 0 0), (9, .ref o1 0 0 A.length), (10, .ref o2 0 0 B.length), (12, .int .i64 (k : Int)), (15, .sl ((comM R G A).map (V.int .i64)) A.length), (17, .sl (U.map (V.int .i64)) U.length), (18, .int .i64 (sumE P A B)), (19, .int .i64 0), (20, .int .i64 (polyE P B))]) (fun x => hp4 L M u v w R P G A B o1 o2 n1 n2 x.1 x.2) (fun _ => True) nx ?_ ?_
      · rintro ⟨g1, g2⟩ n' _ hn'
        dsimp only [hp4]
        clear c2 c3 c4 c5
        by_cases hs : sumE P A B = 0
        · obtain ⟨_, hpB, hAB⟩ := sumE_zero hs
          have hrB := polyE_rng hpB
          have hUe := hU0 hs
          have hUl := addM_len (P := P) hAB
          have hU := fun (i : Nat) (hi : i < A.length) => addM_get (P := P) hAB hi
          rw [← hUe] at hUl hU
          rw [hs, hpB]
          clear hU0 hU1 hUe hs hpB
          refine W.run ?_
          refine W.lp (fun i : Nat => [(4, .ptr 0 0 0), (5, .ptr 8 0 0), (7, .ptr 64 0 0), (8, .ptr 72 0 0), (9, .ref o1 0 0 A.length), (10, .ref o2 0 0 B.length), (12, .int .i64 (k : Int)), (15, .sl ((comM R G A).map (V.int .i64)) A.length), (17, .sl (U.map (V.int .i64)) U.length), (19, .int .i64 0), (24, .int .i64 (i : Int))]) (fun _ => hp4 L M u v w R P G A B o1 o2 n1 n2 g1 g2) (fun i => i ≤ A.length) (fun i => A.length - i) 0 rfl (HS.refl _) (by omega) ?_
          rintro i n3 hi hn3
          dsimp only [hp4]
          by_cases hlt : i < A.length
          · have e1 := hU i hlt
            rw [List.getElem?_eq_getElem (by omega), Option.some.injEq] at e1
            have e2 := hrA A[i] (List.getElem_mem hlt)
            have e3 := hrB (B[i]'(by omega)) (List.getElem_mem _)
            clear hU hg
            refine W.run ?_
            exact W.kl (i + 1) rfl (HS.refl _) (by omega) (by omega) (by omega)
          · clear hU hg
            refine W.run ?_
            exact W.kc hG (_, _) trivial (by omega) (HS.refl _)
        · have hUe := hU1 hs
          subst hUe
          have hse : sumE P A B = if polyE P B ≠ 0 then polyE P B else if A.length ≠ B.length then 7 else 0 := by
            unfold sumE; rw [if_neg (by simp [hpA])]
          have fin : ∀ (g1 g2 n3 : Nat), nx ≤ n3 → True := fun _ _ _ _ => trivial
          by_cases hpB : polyE P B = 0
          · rw [if_neg (by simp [hpB])] at hse
            have hne : A.length ≠ B.length := fun e => hs (by rw [hse, if_neg (by simp [e])])
            rw [if_pos hne] at hse
            rw [hse, hpB]
            clear hU0 hU1 hse hs hpB hg
            refine W.run ?_
            refine W.lp (fun _ : Unit => [(4, .ptr 0 0 0), (5, .ptr 8 0 0), (7, .ptr 64 0 0), (8, .ptr 72 0 0), (9, .ref o1 0 0 A.length), (10, .ref o2 0 0 B.length), (12, .int .i64 (k : Int)), (15, .sl ((comM R G A).map (V.int .i64)) A.length), (17, .sl [] 0), (19, .int .i64 0), (24, .int .i64 0)]) (fun _ => hp4 L M u v w R P G A B o1 o2 n1 n2 g1 g2) (fun _ => True) (fun _ => 0) () rfl (HS.refl _) trivial ?_
            rintro _ n2' _ hn2
            dsimp only [hp4]
            refine W.run ?_
            exact W.kc hG (_, _) trivial (by omega) (HS.refl _)
          · rw [if_pos hpB] at hse
            rw [hse]
            clear hU0 hU1 hse hs hg
            refine W.run ?_
            refine W.lp (fun _ : Unit => [(4, .ptr 0 0 0), (5, .ptr 8 0 0), (7, .ptr 64 0 0), (8, .ptr 72 0 0), (9, .ref o1 0 0 A.length), (10, .ref o2 0 0 B.length), (12, .int .i64 (k : Int)), (15, .sl ((comM R G A).map (V.int .i64)) A.length), (17, .sl [] 0), (19, .int .i64 0), (24, .int .i64 0)]) (fun _ => hp4 L M u v w R P G A B o1 o2 n1 n2 g1 g2) (fun _ => True) (fun _ => 0) () rfl (HS.refl _) trivial ?_
            rintro _ n2' _ hn2
            dsimp only [hp4]
            refine W.run ?_
            exact W.kc hG (_, _) trivial (by omega) (HS.refl _)
      · intro G2 hG2
        clear hU0 hU1 hG
        by_cases hgood : 1 ≤ h ∧ h ≤ 64 ∧ h < P
        · obtain ⟨n, rfl⟩ : ∃ n : Nat, h = (n : Int) := ⟨h.toNat, by omega⟩
          obtain ⟨S, hSl, hSg, hSr, c1⟩ : ∃ S : List Int, ∃ hl : S.length = n, (∀ i (hi : i < n), S[i]'(by omega) = valM P ((i : Int) + 1) A) ∧ (∀ i (hi : i < n), 0 ≤ S[i]'(by omega) ∧ S[i]'(by omega) < P) ∧ PureC Tryz.prog 19 [grp R P G, .sl (A.map (V.int .i64)) A.length, .int .i64 (n : Int)] (fun r => r = .tup [.own (S.map (V.int .i64)) n 1, .int .i64 0]) :=
            ⟨shM P A n, shM_len P A n, fun i hi => shM_get _, fun i hi => by rw [shM_get]; exact valM_rng (by omega) _, k19 hg A A.length rfl (by omega) hpA n (by omega)⟩
          clear hg
          refine W.run ?_
          clear c1 c2 c3 c4 c5
          refine W.lp (fun y : Nat × Nat => [(4, .ptr 0 0 0), (5, .ptr 8 0 0), (7, .ptr 64 0 0), (8, .ptr 72 0 0), (9, .ref o1 0 0 A.length), (10, .ref o2 0 0 B.length), (11, .int .i64 (n : Int)), (12, .int .i64 (k : Int)), (13, .sl (S.map (V.int .i64)) n), (15, .sl ((comM R G A).map (V.int .i64)) A.length), (17, .sl (U.map (V.int .i64)) U.length), (18, .int .i64 (sumE P A B)), (19, .int .i64 0), (20, .int .i64 (polyE P B)), (22, .int .i64 (y.1 : Int))]) (fun y => hp4 L M u v w R P G A B o1 o2 n1 n2 y.2 _) (fun y => y.1 ≤ n) (fun y => n - y.1) (0, _) rfl (HS.refl _) (by dsimp only; omega) ?_
          rintro ⟨i, g1⟩ n3 hi hn3
          dsimp only [hp4] at hi ⊢
          by_cases hlt : i < n
          · have e1 := hSg i hlt
            have e2 := hSr i hlt
            have c1 := k23 (R := R) (G := G) hP A A.length rfl (by omega) hrA ((i : Int) + 1) (by omega)
            rw [← e1] at c1
            clear e1
            refine W.run ?_
            exact W.kl (i + 1, _) rfl (HS.refl _) (by omega) (by dsimp only; omega) (by dsimp only; omega)
          · refine W.run ?_
            exact W.kc hG2 (_, _) trivial (by omega) (HS.refl _)
        · have c1 := k19a hg A A.length rfl (by omega) hpA h hgood
          clear hg
          by_cases h1 : h < 1
          · refine W.run ?_
            exact W.kc hG2 (_, _) trivial (by omega) (HS.refl _)
          by_cases h2 : 64 < h
          · refine W.run ?_
            exact W.kc hG2 (_, _) trivial (by omega) (HS.refl _)
          have h3 : P ≤ h := by omega
          refine W.run ?_
          exact W.kc hG2 (_, _) trivial (by omega) (HS.refl _)
  · have c1 := k19e hg A A.length rfl (by omega) hpA h
    have c2 := k20e hg A A.length rfl (by omega) hpA
    have hse : sumE P A B = polyE P A := by unfold sumE; rw [if_pos hpA]
    have c3 := k21e hg A B A.length B.length rfl rfl (by omega) (by omega) (by rw [hse]; exact hpA)
    have c4 := k22 (R := R) (P := P) (G := G) A A.length rfl (by omega)
    have c5 := k22 (R := R) (P := P) (G := G) B B.length rfl (by omega)
    rw [hse] at c3
    refine W.assoc (W.assoc (W.assoc (W.assoc (W.assoc (W.assoc (W.assoc (W.assoc (W.assoc (W.assoc (W.assoc (W.assoc (W.cut (fun _ : Nat × Nat => [(4, .ptr 0 0 0), (5, .ptr 8 0 0), (7, .ptr 64 0 0), (8, .ptr 72 0 0), (9, .ref o1 0 0 A.length), (10, .ref o2 0 0 B.length), (12, .int .i64 (k : Int)), (15, .sl [] 0), (19, .int .i64 (polyE P A))]) (fun x => hp4 L M u v w R P G A B o1 o2 n1 n2 x.1 x.2) (fun _ => True) nx ?_ ?_))))))))))))
    · rintro ⟨g1, g2⟩ n' _ hn'
      dsimp only [hp4]
      clear c1 c2 c3 c4 c5
      refine W.run ?_
      refine W.lp (fun y : Nat × Int × Int × Nat => [(4, .ptr 0 0 0), (5, .ptr 8 0 0), (7, .ptr 64 0 0), (8, .ptr 72 0 0), (9, .ref o1 0 0 A.length), (12, .int .i64 (k : Int)), (19, .int .i64 (polyE P A)), (25, .ref o2 0 0 B.length), (26, .int .i64 y.2.1), (27, .int .i64 y.2.2.1), (28, .int .i64 (y.1 : Int))]) (fun y => hp4 L M u v w R P G A B o1 o2 n1 n2 g1 y.2.2.2) (fun y => y.1 ≤ 3 ∧ B64 y.2.1 ∧ B64 y.2.2.1) (fun y => 3 - y.1) (0, v, w, g2) rfl (HS.refl _) ⟨by dsimp only; omega, hv, hw⟩ ?_
      rintro ⟨i, x, y, g3⟩ n3 ⟨hi, hx, hy⟩ hn3
      dsimp only [hp4] at hi hx hy ⊢
      by_cases hlt : i < 3
      · have c7 := k25 hg B B.length rfl (by omega) wB x y
        have c8 := k26 hg B B.length rfl (by omega) wB x y
        have e1 : 0 ≤ x % 18446744073709551616 ∧ x % 18446744073709551616 < 18446744073709551616 := ⟨Int.emod_nonneg _ (by omega), Int.emod_lt_of_pos _ (by omega)⟩
        have e2 : 0 ≤ y % 18446744073709551616 ∧ y % 18446744073709551616 < 18446744073709551616 := ⟨Int.emod_nonneg _ (by omega), Int.emod_lt_of_pos _ (by omega)⟩
        have e3 : 0 ≤ x % 18446744073709551616 % (if P - 1 < 64 then P - 1 else 64) ∧ x % 18446744073709551616 % (if P - 1 < 64 then P - 1 else 64) < (if P - 1 < 64 then P - 1 else 64) := ⟨Int.emod_nonneg _ (by omega), Int.emod_lt_of_pos _ (by omega)⟩
        have e4 : 0 ≤ y % 18446744073709551616 % P ∧ y % 18446744073709551616 % P < P := ⟨Int.emod_nonneg _ (by omega), Int.emod_lt_of_pos _ (by omega)⟩
        have hbx : B64 (1 + x % 18446744073709551616 % (if P - 1 < 64 then P - 1 else 64)) := by unfold B64; omega
        have hby : B64 (y % 18446744073709551616 % P) := by unfold B64; omega
        clear hg
        by_cases hi1 : i = 1
        · subst hi1
          refine W.run ?_
          exact W.kl (2, _, _, _) rfl (HS.refl _) (by omega) ⟨by dsimp only; omega, hbx, hby⟩ (by dsimp only; omega)
        · refine W.run ?_
          exact W.kl (i + 1, _, _, _) rfl (HS.refl _) (by omega) ⟨by dsimp only; omega, hbx, hby⟩ (by dsimp only; omega)
      · obtain ⟨nn, hnn, hnn1, hnn2⟩ : ∃ nn : Nat, 1 + u % 18446744073709551616 % 8 = (nn : Int) ∧ 1 ≤ nn ∧ nn ≤ 8 := ⟨(1 + u % 18446744073709551616 % 8).toNat, by omega, by omega, by omega⟩
        have c1 := k17l (R := R) (G := G) hP L L.length rfl hL (fun z hz => by have := wL z hz; unfold B64 at this; omega) nn (by omega)
        have c2 := k17l (R := R) (G := G) hP M M.length rfl hM (fun z hz => by have := wM z hz; unfold B64 at this; omega) nn (by omega)
        have e3 : 0 ≤ u % 18446744073709551616 % (if P - 1 < 20 then P - 1 else 20) ∧ u % 18446744073709551616 % (if P - 1 < 20 then P - 1 else 20) < (if P - 1 < 20 then P - 1 else 20) := ⟨Int.emod_nonneg _ (by omega), Int.emod_lt_of_pos _ (by omega)⟩
        have e4 : 0 ≤ u % 18446744073709551616 ∧ u % 18446744073709551616 < 18446744073709551616 := ⟨Int.emod_nonneg _ (by omega), Int.emod_lt_of_pos _ (by omega)⟩
        have r1 := numM_rng (P := P) (by omega) L nn
        have r2 := numM_rng (P := P) (by omega) M nn
        have l1 := numM_len P L nn
        have l2 := numM_len P M nn
        clear hg
        refine W.run ?_
        rw [hnn]
        refine W.run ?_
        refine W.kl (⟨k + 1, numM P L nn, numM P M nn, _, _, _, if (List.map (V.int .i64) (numM P L nn)).isEmpty = true then 2 else 0, if (List.map (V.int .i64) (numM P M nn)).isEmpty = true then 2 else 0, 0, 0⟩ : Q4) rfl ?_ (by omega) ⟨by dsimp only; omega, ?_, ?_, ⟨by dsimp only; omega, by dsimp only; omega⟩, fun a ha => ?_, fun a ha => ?_, ?_⟩ (by dsimp only; omega)
        · exact HS.put rfl (HS.put rfl (HS.skip (HS.skip (HS.refl _) (by simp only [Hp.put]; rw [if_neg (by omega), if_neg (by omega), if_neg (by omega), if_neg (by omega)]) _) (by simp only [Hp.put]; rw [if_neg (by omega), if_neg (by omega), if_neg (by omega), if_neg (by omega)]) _))
        · dsimp only; omega
        · dsimp only; omega
        · have := r1 a ha; unfold B64; omega
        · have := r2 a ha; unfold B64; omega
        · dsimp only; omega
    · intro Gc hG
      refine W.run ?_
      refine W.lp (fun _ : Unit => [(4, .ptr 0 0 0), (5, .ptr 8 0 0), (7, .ptr 64 0 0), (8, .ptr 72 0 0), (9, .ref o1 0 0 A.length), (10, .ref o2 0 0 B.length), (12, .int .i64 (k : Int)), (15, .sl [] 0), (17, .sl [] 0), (19, .int .i64 (polyE P A)), (24, .int .i64 0)]) (fun _ => hp4 L M u v w R P G A B o1 o2 n1 n2 _ _) (fun _ => True) (fun _ => 0) () rfl (HS.refl _) trivial ?_
      rintro _ n2' _ hn2
      dsimp only [hp4]
      refine W.run ?_
      exact W.kc hG (_, _) trivial (by omega) (HS.refl _)
end Go.Dp
