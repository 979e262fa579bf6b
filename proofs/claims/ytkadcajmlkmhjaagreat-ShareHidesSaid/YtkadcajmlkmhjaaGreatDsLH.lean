import Derived.Test.YtkadcajmlkmhjaaGreatDsS2
import Derived.Test.YtkadcajmlkmhjaaGreatDsM5
import Derived.Test.YtkadcajmlkmhjaaGreatDsK9
namespace Go.Dp
open Go.RowKit Go.Proofs
attribute [local irreducible] wp wpOps wpOp1 CallW CallT kSeq kBlk kLoop kReg retP retR kAsg kRound kRf kCut
set_option linter.unusedVariables false
set_option linter.unusedSimpArgs false

theorem modP {u P : Int} (hP : 0 < P) : 0 ≤ u % 18446744073709551616 % P ∧ u % 18446744073709551616 % P < P := ⟨Int.emod_nonneg _ (by omega), Int.emod_lt_of_pos _ hP⟩

theorem zeros_map (n : Nat) : zerosV [V.int .i64 0] n = (List.replicate n (0 : Int)).map (V.int .i64) := by
  induction n with
  | zero => rfl
  | succ n ih => rw [zerosV, ih]; rfl
/-- the counts: one for those that are done, v for the one at hand -/
def CS (a n : Nat) (v : Int) (C : List Int) : Prop := C.length = n ∧ (∀ i, i < a → C[i]? = some 1) ∧ C[a]? = some v ∧ ∀ i, a < i → i < n → C[i]? = some 0
theorem CS.set {a n : Nat} {v : Int} {C : List Int} (h : CS a n v C) (u : Int) : CS a n u (C.set a u) := by
  obtain ⟨h1, h2, h3, h4⟩ := h
  have := (List.getElem?_eq_some_iff.1 h3).1
  refine ⟨by rw [List.length_set]; exact h1, fun i hi => ?_, ?_, fun i hi hn => ?_⟩
  · rw [List.getElem?_set_ne (by omega)]; exact h2 i hi
  · rw [List.getElem?_set_self this]
  · rw [List.getElem?_set_ne (by omega)]; exact h4 i hi hn
set_option maxRecDepth 10000 in
set_option maxHeartbeats 4000000 in
theorem k5 (p a0 a1 a2 a3 : Int) (b0 : -9223372036854775808 ≤ p ∧ p < 9223372036854775808) (h0 : -9223372036854775808 ≤ a0 ∧ a0 < 9223372036854775808) (h1 : -9223372036854775808 ≤ a1 ∧ a1 < 9223372036854775808) (h2 : -9223372036854775808 ≤ a2 ∧ a2 < 9223372036854775808) (h3 : -9223372036854775808 ≤ a3 ∧ a3 < 9223372036854775808) :
    PureC Tryz.prog 5 [.int .i64 p, .agg [.int .i64 a0, .int .i64 a1, .int .i64 a2, .int .i64 a3]] (fun r => r = .bool true) := by
  obtain ⟨q, hq, hq1, pq⟩ : ∃ q : Int, ([5, 7, 11] : List Int)[(p % 18446744073709551616 % 3).toNat]? = some q ∧ (5 ≤ q ∧ q ≤ 11) ∧ PrimeI q := by
    have h5 : PrimeI 5 := (pr12_ok 5 (by simp [pr12])).1
    have h7 : PrimeI 7 := (pr12_ok 7 (by simp [pr12])).1
    have h11 : PrimeI 11 := (pr12_ok 11 (by simp [pr12])).1
    have : (p % 18446744073709551616 % 3).toNat < 3 := by omega
    generalize (p % 18446744073709551616 % 3).toNat = i at this
    match i, this with
    | 0, _ => exact ⟨5, rfl, by omega, h5⟩
    | 1, _ => exact ⟨7, rfl, by omega, h7⟩
    | 2, _ => exact ⟨11, rfl, by omega, h11⟩
  obtain ⟨R, G, K, hh, hf, hg⟩ := find_ex pq (by omega) (by omega)
  have ck := k18a hf
  have hR := hg.hR
  have hq2 : ∀ hlt, ([.int .i64 5, .int .i64 7, .int .i64 11] : List V)[(p % 18446744073709551616 % 3).toNat]'hlt = V.int .i64 q := fun hlt => by
    have e : (([5, 7, 11] : List Int).map (V.int .i64))[(p % 18446744073709551616 % 3).toNat]? = some (V.int .i64 q) := by rw [List.getElem?_map, hq]; rfl
    exact (List.getElem?_eq_some_iff.1 e).2
  have m0 := modP (u := a0) (P := q - 1) (by omega)
  have m1 := modP (u := a1) (P := q - 1) (by omega)
  have m2 := modP (u := a2) (P := q) (by omega)
  have m3 := modP (u := a3) (P := q) (by omega)
  have z0 : 0 ≤ a0 % 18446744073709551616 ∧ a0 % 18446744073709551616 < 18446744073709551616 := by omega
  have z1 : 0 ≤ a1 % 18446744073709551616 ∧ a1 % 18446744073709551616 < 18446744073709551616 := by omega
  have z2 : 0 ≤ a2 % 18446744073709551616 ∧ a2 % 18446744073709551616 < 18446744073709551616 := by omega
  have z3 : 0 ≤ a3 % 18446744073709551616 ∧ a3 % 18446744073709551616 < 18446744073709551616 := by omega
  clear hf hq
  refine pureC_of_wp .x mixed ok5 rfl ?_
  unfold c5
  dsimp only [argE]
  refine W.assoc (W.assoc (W.assoc (W.assoc (W.cut (fun x : Int × Int => [(3, .ptr 0 0 0), (6, .ptr 112 0 0), (7, .ptr 120 0 0), (8, .int .i64 x.1), (9, .int .i64 x.2)]) (fun _ => ((Hp.put (fun _ => none) 0 { cells := [.int .i64 a0, .int .i64 a1, .int .i64 a2, .int .i64 a3], sz := 4 }).put 112 { cells := [.int .i64 R, .int .i64 q, .int .i64 G], sz := 3 }).put 120 { cells := [.int .i64 R, .int .i64 q, .int .i64 G], sz := 3 }) (fun x => (1 ≤ x.1 ∧ x.1 < q) ∧ (1 ≤ x.2 ∧ x.2 < q) ∧ x.1 ≠ x.2) 344 ?_ ?_))))
  · rintro ⟨x, y⟩ nx ⟨hx, hy, hxy⟩ hnx
    dsimp only at hx hy hxy ⊢
    clear ck hq2
    refine W.run ?_
    rw [zeros_map]
    have e0 : nx + 144 + 16 = nx + 160 := rfl
    obtain ⟨s, hs⟩ : ∃ s, s = a2 % 18446744073709551616 % q := ⟨_, rfl⟩
    obtain ⟨t, ht⟩ : ∃ t, t = a3 % 18446744073709551616 % q := ⟨_, rfl⟩
    rw [← hs] at m2 ⊢
    rw [← ht] at m3 ⊢
    clear hs ht z0 z1 z2 z3 m0 m1 h0 h1 h2 h3 b0
    obtain ⟨n, rfl⟩ : ∃ n : Nat, q = (n : Int) := ⟨q.toNat, by omega⟩
    rw [Int.toNat_natCast]
    generalize ho : nx + 144 + 16 = o
    refine W.lp (fun z : Nat × List Int => [(6, .ptr 112 0 0), (7, .ptr 120 0 0), (8, .int .i64 x), (9, .int .i64 y), (10, .int .i64 s), (11, .int .i64 t), (12, .ref o 0 0 n), (13, .int .i64 (z.1 : Int))]) (fun z => (((Hp.put (fun _ => none) 112 { cells := [.int .i64 R, .int .i64 (n : Int), .int .i64 G], sz := 3 }).put 120 { cells := [.int .i64 R, .int .i64 (n : Int), .int .i64 G], sz := 3 }).put o { cells := z.2.map (V.int .i64), sz := 1 }))
      (fun z => z.1 ≤ n ∧ z.2.length = n ∧ (∀ i, i < z.1 → z.2[i]? = some 1) ∧ ∀ i, z.1 ≤ i → i < n → z.2[i]? = some 0) (fun z => n - z.1) (0, List.replicate n 0) rfl ?_ ?_ ?_
    · exact HS.put rfl (HS.put rfl (HS.put rfl (HS.skip (HS.refl _) rfl _)))
    · refine ⟨by dsimp only; omega, by simp, fun i hi => absurd hi (by dsimp only; omega), fun i _ hi => ?_⟩
      dsimp only; rw [List.getElem?_replicate, if_pos hi]
    rintro ⟨a, C⟩ na ⟨ha, hC1, hC2, hC3⟩ hna
    dsimp only at ha hC1 hC2 hC3 ⊢
    by_cases haq : a < n
    case neg =>
      have : a = n := by omega
      subst this
      refine W.run ?_
      refine W.lp (fun i : Nat => [(7, .ptr 120 0 0), (12, .ref o 0 0 a), (18, .int .i64 (i : Int))]) (fun _ => (((Hp.put (fun _ => none) 112 { cells := [.int .i64 R, .int .i64 (a : Int), .int .i64 G], sz := 3 }).put 120 { cells := [.int .i64 R, .int .i64 (a : Int), .int .i64 G], sz := 3 }).put o { cells := C.map (V.int .i64), sz := 1 }))
        (fun i => i ≤ a) (fun i => a - i) 0 rfl (HS.refl _) (by omega) ?_
      rintro i ni hi hni
      by_cases hia : i < a
      · have e := hC2 i hia
        rw [List.getElem?_eq_getElem (by omega), Option.some.injEq] at e
        clear hC2 hC3 hg
        refine W.run ?_
        exact W.kl (i + 1) rfl (HS.refl _) (by omega) (by omega) (by omega)
      · have c := k25
        clear hC2 hC3 hg
        refine W.run ?_
        rfl
    have hone := all_one (P := (n : Int)) pq (by omega) hx hy hxy m2 m3 (a := (a : Int)) (by omega)
    rw [Int.toNat_natCast] at hone
    have hin : CS a n 0 C := ⟨hC1, hC2, hC3 a (Nat.le_refl _) haq, fun i hi hn => hC3 i (by omega) hn⟩
    clear hC1 hC2 hC3
    refine W.run ?_
    refine W.lp (fun z : Nat × List Int => [(6, .ptr 112 0 0), (7, .ptr 120 0 0), (8, .int .i64 x), (9, .int .i64 y), (10, .int .i64 s), (11, .int .i64 t), (12, .ref o 0 0 n), (13, .int .i64 (a : Int)), (14, .int .i64 (z.1 : Int))]) (fun z => (((Hp.put (fun _ => none) 112 { cells := [.int .i64 R, .int .i64 (n : Int), .int .i64 G], sz := 3 }).put 120 { cells := [.int .i64 R, .int .i64 (n : Int), .int .i64 G], sz := 3 }).put o { cells := z.2.map (V.int .i64), sz := 1 }))
      (fun z => z.1 ≤ n ∧ CS a n (cB (hitB n x y s t a) n z.1) z.2) (fun z => n - z.1) (0, C) rfl (HS.refl _) ⟨by dsimp only; omega, hin⟩ ?_
    clear hin C
    rintro ⟨b, C⟩ nb ⟨hb, hC⟩ hnb
    dsimp only at hb hC ⊢
    by_cases hbq : b < n
    case neg =>
      have : b = n := by omega
      subst this
      rw [hone] at hC
      obtain ⟨h1, h2, h3, h4⟩ := hC
      refine W.run ?_
      refine W.kl (a + 1, _) rfl (HS.refl _) (by omega) ⟨by dsimp only; omega, h1, fun i hi => ?_, fun i hi hn => h4 i (by dsimp only at hi; omega) hn⟩ (by dsimp only; omega)
      dsimp only at hi
      by_cases hia : i = a
      · subst hia; exact h3
      · exact h2 i (by omega)
    refine W.run ?_
    refine W.lp (fun z : Nat × List Int => [(6, .ptr 112 0 0), (7, .ptr 120 0 0), (8, .int .i64 x), (9, .int .i64 y), (10, .int .i64 s), (11, .int .i64 t), (12, .ref o 0 0 n), (13, .int .i64 (a : Int)), (14, .int .i64 (b : Int)), (15, .int .i64 (z.1 : Int))]) (fun z => (((Hp.put (fun _ => none) 112 { cells := [.int .i64 R, .int .i64 (n : Int), .int .i64 G], sz := 3 }).put 120 { cells := [.int .i64 R, .int .i64 (n : Int), .int .i64 G], sz := 3 }).put o { cells := z.2.map (V.int .i64), sz := 1 }))
      (fun z => z.1 ≤ n ∧ CS a n (cB (hitB n x y s t a) n b + cC (hitB n x y s t a b) z.1) z.2) (fun z => n - z.1) (0, C) rfl (HS.refl _) ⟨by dsimp only; omega, by simpa [cC] using hC⟩ ?_
    clear hC C
    rintro ⟨c, C⟩ nc ⟨hc, hC⟩ hnc
    dsimp only at hc hC ⊢
    by_cases hcq : c < n
    case neg =>
      have : c = n := by omega
      subst this
      refine W.run ?_
      exact W.kl (b + 1, _) rfl (HS.refl _) (by omega) ⟨by dsimp only; omega, by simpa [cB] using hC⟩ (by dsimp only; omega)
    obtain ⟨h1, h2, h3, h4⟩ := id hC
    have pl : polyE (n : Int) [(a : Int), (b : Int), (c : Int)] = 0 := polyE_of (by simp) (fun z hz => by
      simp only [List.mem_cons, List.not_mem_nil, or_false] at hz; omega)
    obtain ⟨S, hSl, hSx, hSy, c1⟩ : ∃ S : List Int, ∃ hl : S.length = n - 1, S[(x - 1).toNat]'(by omega) = valM n x [(a : Int), (b : Int), (c : Int)] ∧ S[(y - 1).toNat]'(by omega) = valM n y [(a : Int), (b : Int), (c : Int)] ∧ PureC Tryz.prog 12 [grp R n G, .sl [.int .i64 (a : Int), .int .i64 (b : Int), .int .i64 (c : Int)] 3, .int .i64 ((n : Int) - 1)] (fun r => r = .tup [.own (S.map (V.int .i64)) (n - 1) 1, .int .i64 0]) := by
      refine ⟨shM n [(a : Int), (b : Int), (c : Int)] (n - 1), shM_len _ _ _, ?_, ?_, ?_⟩
      · rw [shM_get]; congr 1; omega
      · rw [shM_get]; congr 1; omega
      · have := k12 hg [(a : Int), (b : Int), (c : Int)] 3 rfl (by simp) pl (n - 1) (by omega)
        rw [show ((n - 1 : Nat) : Int) = (n : Int) - 1 by omega] at this
        exact this
    have hrange := cB_rng (hitB n x y s t a) n b
    have hrange2 := cC_rng (hitB n x y s t a b) c
    have hnb : ((n * b : Nat) : Int) ≤ 11 * 11 := by
      have : n * b ≤ 11 * 11 := Nat.mul_le_mul (by omega) (by omega)
      omega
    have hstep : cB (hitB n x y s t a) n b + cC (hitB n x y s t a b) (c + 1) = (cB (hitB n x y s t a) n b + cC (hitB n x y s t a b) c) + (if valM n x [(a : Int), (b : Int), (c : Int)] = s ∧ valM n y [(a : Int), (b : Int), (c : Int)] = t then 1 else 0) := by
      simp only [cC, hitB, decide_eq_true_eq]; omega
    rw [← hSx, ← hSy] at hstep
    have hCa : C[a]'(by omega) = cB (hitB n x y s t a) n b + cC (hitB n x y s t a b) c := by
      rw [List.getElem?_eq_getElem (by omega), Option.some.injEq] at h3; exact h3
    have hbd : -1000 < C[a]'(by omega) ∧ C[a]'(by omega) < 1000 := by rw [hCa]; omega
    clear h2 h3 h4 hg hone hrange hrange2 hnb pl
    by_cases hx1 : S[(x - 1).toNat]'(by omega) = s
    · by_cases hy1 : S[(y - 1).toNat]'(by omega) = t
      · rw [if_pos ⟨hx1, hy1⟩] at hstep
        refine W.run ?_
        refine W.kl (c + 1, C.set a (C[a]'(by omega) + 1)) rfl ?_ (by omega) ⟨by dsimp only; omega, ?_⟩ (by dsimp only; omega)
        · refine HS.skip (HS.put ?_ (HS.refl _)) ?_ _
          · rw [List.set_eq_take_append_cons_drop, if_pos (by omega)]; simp
          · simp only [Hp.put]; rw [if_neg (by omega), if_neg (by omega), if_neg (by omega)]
        · dsimp only
          rw [hstep, hCa]; exact hC.set _
      · rw [if_neg (fun h => hy1 h.2), Int.add_zero] at hstep
        refine W.run ?_
        refine W.kl (c + 1, C) rfl ?_ (by omega) ⟨by dsimp only; omega, by dsimp only; rw [hstep]; exact hC⟩ (by dsimp only; omega)
        first | exact HS.refl _ | exact HS.skip (HS.refl _) (by simp only [Hp.put]; rw [if_neg (by omega), if_neg (by omega), if_neg (by omega)]) _
    · rw [if_neg (fun h => hx1 h.1), Int.add_zero] at hstep
      refine W.run ?_
      refine W.kl (c + 1, C) rfl ?_ (by omega) ⟨by dsimp only; omega, by dsimp only; rw [hstep]; exact hC⟩ (by dsimp only; omega)
      first | exact HS.refl _ | exact HS.skip (HS.refl _) (by simp only [Hp.put]; rw [if_neg (by omega), if_neg (by omega), if_neg (by omega)]) _
  · intro Gc hG
    refine W.run ?_
    rw [hq2 (by show _ < 3; omega)]
    have hHS : ∀ (w : Ob), HS (((Hp.put (fun _ => none) 0 { cells := [.int .i64 a0, .int .i64 a1, .int .i64 a2, .int .i64 a3], sz := 4 }).put 112 { cells := [.int .i64 R, .int .i64 q, .int .i64 G], sz := 3 }).put 120 { cells := [.int .i64 R, .int .i64 q, .int .i64 G], sz := 3 }) ((((Hp.put (fun _ => none) 0 { cells := [.int .i64 a0, .int .i64 a1, .int .i64 a2, .int .i64 a3], sz := 4 }).put 24 w).put 112 { cells := [.int .i64 R, .int .i64 q, .int .i64 G], sz := 3 }).put 120 { cells := [.int .i64 R, .int .i64 q, .int .i64 G], sz := 3 }) := fun w => HS.put rfl (HS.put rfl (HS.skip (HS.refl _) rfl w))
    by_cases he : 1 + a0 % 18446744073709551616 % (q - 1) = 1 + a1 % 18446744073709551616 % (q - 1)
    · have m5 : 0 ≤ (1 + a0 % 18446744073709551616 % (q - 1)) % (q - 1) ∧ (1 + a0 % 18446744073709551616 % (q - 1)) % (q - 1) < q - 1 := ⟨Int.emod_nonneg _ (by omega), Int.emod_lt_of_pos _ (by omega)⟩
      have hne : 1 + a0 % 18446744073709551616 % (q - 1) ≠ 1 + (1 + a0 % 18446744073709551616 % (q - 1)) % (q - 1) := by
        by_cases hc : 1 + a0 % 18446744073709551616 % (q - 1) < q - 1
        · rw [Int.emod_eq_of_lt (by omega) hc]; omega
        · have : 1 + a0 % 18446744073709551616 % (q - 1) = q - 1 := by omega
          rw [this, Int.emod_self]; omega
      refine W.run ?_
      exact W.kc hG (_, _) ⟨by dsimp only; omega, by dsimp only; omega, hne⟩ (by omega) (hHS _)
    · refine W.run ?_
      exact W.kc hG (_, _) ⟨by dsimp only; omega, by dsimp only; omega, he⟩ (by omega) (hHS _)
end Go.Dp
