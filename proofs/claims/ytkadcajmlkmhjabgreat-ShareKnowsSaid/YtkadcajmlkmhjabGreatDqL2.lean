import Derived.Test.YtkadcajmlkmhjabGreatDqN4
namespace Go.Dp
open Go.RowKit Go.Proofs
attribute [local irreducible] wp wpOps wpOp1 CallW CallT kSeq kBlk kLoop kReg retP retR kAsg kRound kRf
set_option linter.unusedVariables false
set_option linter.unusedSimpArgs false

set_option maxRecDepth 10000 in
set_option maxHeartbeats 2000000 in
theorem k7 (p a b c d : Int) (b0 : B64 p) (ha : B64 a) (hb : B64 b) (hc : B64 c) (hd : B64 d) : PureC Tryz.prog 7 [.int .i64 p, .agg [.int .i64 a, .int .i64 b, .int .i64 c, .int .i64 d]] (fun r => r = .bool true) := by
  simp only [B64] at *
  have hq : ∃ q, (∀ hh, ([.int .i64 5, .int .i64 7, .int .i64 11, .int .i64 13] : List V)[(p % 18446744073709551616 % 4).toNat]'hh = V.int .i64 q) ∧ -2^63 ≤ q ∧ q < 2^63 := by
    have : (p % 18446744073709551616 % 4).toNat = 0 ∨ (p % 18446744073709551616 % 4).toNat = 1 ∨ (p % 18446744073709551616 % 4).toNat = 2 ∨ (p % 18446744073709551616 % 4).toNat = 3 := by omega
    rcases this with e | e | e | e <;> simp only [e]
    · exact ⟨5, fun _ => rfl, by omega, by omega⟩
    · exact ⟨7, fun _ => rfl, by omega, by omega⟩
    · exact ⟨11, fun _ => rfl, by omega, by omega⟩
    · exact ⟨13, fun _ => rfl, by omega, by omega⟩
  obtain ⟨q, hq1, hq2, hq3⟩ := hq
  obtain ⟨R, P, G, hg, hk⟩ := k9 hq2 hq3
  have hR := hg.hR
  have hP := hg.hP
  refine pureC_of_wp .x mixed ok7 rfl ?_
  unfold c7
  dsimp only [argE]
  refine W.go ?_
  rw [hq1 (by show _ < 4; omega)]
  refine W.cl hk ?_
  clear hk hq1 b0
  refine W.go ?_
  refine W.lp (fun y : Int × Int × Int × Int × Int => [(3, .ptr 0 0 0), (6, .ptr 112 0 0), (7, .ptr 120 0 0), (8, .ptr 144 0 0), (9, .int .i64 y.1)]) (fun y => Hp.put (Hp.put (Hp.put (Hp.put (Hp.put (fun _ => none) 0 { cells := [.int .i64 a, .int .i64 b, .int .i64 c, .int .i64 d], sz := 4 }) 24 { cells := [.int .i64 5, .int .i64 7, .int .i64 11, .int .i64 13], sz := 4 }) 112 { cells := [.int .i64 R, .int .i64 P, .int .i64 G], sz := 3 }) 120 { cells := [.int .i64 R, .int .i64 P, .int .i64 G], sz := 3 }) 144 { cells := [.int .i64 y.2.1, .int .i64 y.2.2.1, .int .i64 y.2.2.2.1, .int .i64 y.2.2.2.2], sz := 4 })
    (fun y => (0 ≤ y.1 ∧ y.1 ≤ 4) ∧ (0 ≤ y.2.1 ∧ y.2.1 < P) ∧ (0 ≤ y.2.2.1 ∧ y.2.2.1 < P) ∧ (0 ≤ y.2.2.2.1 ∧ y.2.2.2.1 < P) ∧ (0 ≤ y.2.2.2.2 ∧ y.2.2.2.2 < P)) (fun y => (4 - y.1).toNat) (0, 0, 0, 0, 0) rfl (HS.refl _) (by dsimp only; omega) ?_
  rintro ⟨i, n0, n1, n2, n3⟩ nx ⟨⟨hi0, hi1⟩, h0, h1, h2, h3⟩ hnx
  dsimp only at *
  by_cases hi : i < 4
  · have ea : 0 ≤ a % 18446744073709551616 % P ∧ a % 18446744073709551616 % P < P := ⟨Int.emod_nonneg _ (by omega), Int.emod_lt_of_pos _ (by omega)⟩
    have eb : 0 ≤ b % 18446744073709551616 % P ∧ b % 18446744073709551616 % P < P := ⟨Int.emod_nonneg _ (by omega), Int.emod_lt_of_pos _ (by omega)⟩
    have ec : 0 ≤ c % 18446744073709551616 % P ∧ c % 18446744073709551616 % P < P := ⟨Int.emod_nonneg _ (by omega), Int.emod_lt_of_pos _ (by omega)⟩
    have ed : 0 ≤ d % 18446744073709551616 % P ∧ d % 18446744073709551616 % P < P := ⟨Int.emod_nonneg _ (by omega), Int.emod_lt_of_pos _ (by omega)⟩
    have hi3 : i = 0 ∨ i = 1 ∨ i = 2 ∨ i = 3 := by omega
    rcases hi3 with rfl | rfl | rfl | rfl
    · refine W.go ?_
      refine W.kl (1, _, n1, n2, n3) rfl (HS.refl _) (by omega) ?_ (by dsimp only; omega)
      dsimp only; omega
    · refine W.go ?_
      refine W.kl (2, n0, _, n2, n3) rfl (HS.refl _) (by omega) ?_ (by dsimp only; omega)
      dsimp only; omega
    · refine W.go ?_
      refine W.kl (3, n0, n1, _, n3) rfl (HS.refl _) (by omega) ?_ (by dsimp only; omega)
      dsimp only; omega
    · refine W.go ?_
      refine W.kl (4, n0, n1, n2, _) rfl (HS.refl _) (by omega) ?_ (by dsimp only; omega)
      dsimp only; omega
  clear ha hb hc hd hq2 hq3
  have hkey : hasB R P (G ^ n0.toNat % R) = true := hasB_pw hg (hasB_gen hg) _
  have hkey1 := (hasB_iff.1 hkey).1
  have hann : hasB R P (G ^ n1.toNat % R) = true := hasB_pw hg (hasB_gen hg) _
  have hz2 : 0 ≤ (n1 + n2 * n0) % P ∧ (n1 + n2 * n0) % P < P := ⟨Int.emod_nonneg _ (by omega), Int.emod_lt_of_pos _ (by omega)⟩
  have hz3 : 0 ≤ (n1 + n3 * n0) % P ∧ (n1 + n3 * n0) % P < P := ⟨Int.emod_nonneg _ (by omega), Int.emod_lt_of_pos _ (by omega)⟩
  have hv2 : validB R P (G ^ n1.toNat % R) n2 ((n1 + n2 * n0) % P) = true := validB_iff.2 ⟨hann, h2, hz2⟩
  have hv3 : validB R P (G ^ n1.toNat % R) n3 ((n1 + n3 * n0) % P) = true := validB_iff.2 ⟨hann, h3, hz3⟩
  have c39 := k39 hg n0 h0.1 h0.2
  have c28 := k28 hg n0 n1 n2 ⟨h0, h1, h2⟩
  have c28b := k28 hg n0 n1 n3 ⟨h0, h1, h3⟩
  have c31 := k31 hg (G ^ n0.toNat % R) (G ^ n1.toNat % R) n2 ((n1 + n2 * n0) % P)
  have c31b := k31 hg (G ^ n0.toNat % R) (G ^ n1.toNat % R) n3 ((n1 + n3 * n0) % P)
  have c33 := k33 hg (G ^ n1.toNat % R) n2 ((n1 + n2 * n0) % P) (G ^ n1.toNat % R) n3 ((n1 + n3 * n0) % P)
  rw [show holdsB R P G (G ^ n0.toNat % R) (G ^ n1.toNat % R) n2 ((n1 + n2 * n0) % P) = true by
    simp only [holdsB, hkey, hv2, imit_prove hg h0 h1 h2, Bool.true_and, decide_true]] at c31
  rw [show holdsB R P G (G ^ n0.toNat % R) (G ^ n1.toNat % R) n3 ((n1 + n3 * n0) % P) = true by
    simp only [holdsB, hkey, hv3, imit_prove hg h0 h1 h3, Bool.true_and, decide_true]] at c31b
  rw [show extV R P (G ^ n1.toNat % R) n2 ((n1 + n2 * n0) % P) (G ^ n1.toNat % R) n3 ((n1 + n3 * n0) % P) = (if n2 = n3 then .tup [.int .i64 0, .int .i64 81] else .tup [.int .i64 n0, .int .i64 0]) by
    unfold extV
    rw [if_pos ⟨hv2, hv3, rfl⟩]
    by_cases he : n2 = n3
    · rw [if_pos he, if_pos he]
    · rw [if_neg he, if_neg he, ext_secret hg h0 h2 h3 he]] at c33
  unfold proveV at c28 c28b
  clear hv2 hv3 hz2 hz3 hann
  obtain ⟨key, hke⟩ : ∃ key, key = G ^ n0.toNat % R := ⟨_, rfl⟩
  rw [← hke] at hkey hkey1 c39 c31 c31b
  have hip : ∀ x, 0 ≤ x ∧ x < P → imitV R P G key n2 ((x + n2 * n0) % P) = G ^ x.toNat % R := fun x hx => by rw [hke]; exact imit_prove hg h0 hx h2
  clear hke
  refine W.go ?_
  refine W.cl c39 ?_
  refine W.go ?_
  refine W.cl c28 ?_
  refine W.go ?_
  refine W.cl c28b ?_
  refine W.go ?_
  refine W.cl c31 ?_
  refine W.go ?_
  refine W.cl c31b ?_
  refine W.go ?_
  have hpair : (n2 = n3 ∧ PureC Tryz.prog 33 [grp R P G, grp (G ^ n1.toNat % R) n2 ((n1 + n2 * n0) % P), grp (G ^ n1.toNat % R) n3 ((n1 + n3 * n0) % P)] (fun r => r = .tup [.int .i64 0, .int .i64 81])) ∨ (n2 ≠ n3 ∧ PureC Tryz.prog 33 [grp R P G, grp (G ^ n1.toNat % R) n2 ((n1 + n2 * n0) % P), grp (G ^ n1.toNat % R) n3 ((n1 + n3 * n0) % P)] (fun r => r = .tup [.int .i64 n0, .int .i64 0])) := by
    by_cases he : n2 = n3
    · rw [if_pos he] at c33; exact .inl ⟨he, c33⟩
    · rw [if_neg he] at c33; exact .inr ⟨he, c33⟩
  obtain ⟨s, t, c33', hst⟩ : ∃ s t, PureC Tryz.prog 33 [grp R P G, grp (G ^ n1.toNat % R) n2 ((n1 + n2 * n0) % P), grp (G ^ n1.toNat % R) n3 ((n1 + n3 * n0) % P)] (fun r => r = .tup [.int .i64 s, .int .i64 t]) ∧ (n2 = n3 ∧ t = 81 ∨ n2 ≠ n3 ∧ s = n0 ∧ t = 0) := by
    rcases hpair with ⟨he, hc⟩ | ⟨he, hc⟩
    · exact ⟨0, 81, hc, .inl ⟨he, rfl⟩⟩
    · exact ⟨n0, 0, hc, .inr ⟨he, rfl, rfl⟩⟩
  clear c39 c28 c28b c31 c31b c33 hpair
  refine W.cl c33' ?_
  clear c33'
  refine W.gos ?_
  refine W.midS (fun j x => [(6, .ptr 112 0 0), (7, .ptr 120 0 0), (8, .ptr 144 0 0), (10, .int .i64 key), (j, x)]) (Hp.put (Hp.put (Hp.put (Hp.put (Hp.put (fun _ => none) 0 { cells := [.int .i64 a, .int .i64 b, .int .i64 c, .int .i64 d], sz := 4 }) 24 { cells := [.int .i64 5, .int .i64 7, .int .i64 11, .int .i64 13], sz := 4 }) 112 { cells := [.int .i64 R, .int .i64 P, .int .i64 G], sz := 3 }) 120 { cells := [.int .i64 R, .int .i64 P, .int .i64 G], sz := 3 }) 144 { cells := [.int .i64 n0, .int .i64 n1, .int .i64 n2, .int .i64 n3], sz := 4 }) nx ?_ ?_
  · rcases hst with ⟨he, ht⟩ | ⟨he, hs, ht⟩
    · refine W.go ?_
      refine ⟨⟨_, _, rfl⟩, ?_, by dsimp only; omega⟩
      repeat' (first | with_reducible exact HS.refl _ | refine HS.skip ?_ ?_ _ | (simp only [Hp.put]; rw [if_neg (by omega), if_neg (by omega), if_neg (by omega), if_neg (by omega), if_neg (by omega)]))
    · refine W.go ?_
      refine ⟨⟨_, _, rfl⟩, ?_, by dsimp only; omega⟩
      repeat' (first | with_reducible exact HS.refl _ | refine HS.skip ?_ ?_ _ | (simp only [Hp.put]; rw [if_neg (by omega), if_neg (by omega), if_neg (by omega), if_neg (by omega), if_neg (by omega)]))
  clear hst
  intro j1 q1 H n4 hH hn4
  refine W.go ?_
  refine W.lp (fun x : Int => [(6, .ptr 112 0 0), (7, .ptr 120 0 0), (8, .ptr 144 0 0), (10, .int .i64 key), (18, .int .i64 x)]) (fun _ => Hp.put (Hp.put (Hp.put (Hp.put (Hp.put (fun _ => none) 0 { cells := [.int .i64 a, .int .i64 b, .int .i64 c, .int .i64 d], sz := 4 }) 24 { cells := [.int .i64 5, .int .i64 7, .int .i64 11, .int .i64 13], sz := 4 }) 112 { cells := [.int .i64 R, .int .i64 P, .int .i64 G], sz := 3 }) 120 { cells := [.int .i64 R, .int .i64 P, .int .i64 G], sz := 3 }) 144 { cells := [.int .i64 n0, .int .i64 n1, .int .i64 n2, .int .i64 n3], sz := 4 })
    (fun x => 0 ≤ x ∧ x ≤ P) (fun x => (P - x).toNat) 0 rfl hH ⟨by omega, by omega⟩ ?_
  clear hH
  rintro x nx2 ⟨hx0, hx1⟩ hnx2
  by_cases hxP : x < P
  case neg =>
    refine W.go ?_
    refine W.cl k18 ?_
    refine W.go ?_
    rfl
  have hzx : 0 ≤ (x + n2 * n0) % P ∧ (x + n2 * n0) % P < P := ⟨Int.emod_nonneg _ (by omega), Int.emod_lt_of_pos _ (by omega)⟩
  have c28 := k28 hg n0 x n2 ⟨h0, ⟨hx0, hxP⟩, h2⟩
  have c35 := k35 hg key n2 ((x + n2 * n0) % P) hkey h2 hzx
  rw [hip x ⟨hx0, hxP⟩] at c35
  have c35b := k35 hg key n2 x hkey h2 ⟨hx0, hxP⟩
  have c31 := k31 hg key (imitV R P G key n2 x) n2 x
  rw [holds_imit hg hkey h2 ⟨hx0, hxP⟩] at c31
  have hy0 : 0 ≤ (x - n2 * n0) % P ∧ (x - n2 * n0) % P < P := ⟨Int.emod_nonneg _ (by omega), Int.emod_lt_of_pos _ (by omega)⟩
  have hy1 : (((x - n2 * n0) % P) + n2 * n0) % P = x := nonce_ex hP.1 ⟨hx0, hxP⟩
  have hy2 := hip _ hy0
  rw [hy1] at hy2
  obtain ⟨y0, hye⟩ : ∃ y0, y0 = (x - n2 * n0) % P := ⟨_, rfl⟩
  rw [← hye] at hy0 hy1 hy2
  obtain ⟨ann, hae⟩ : ∃ ann, ann = imitV R P G key n2 x := ⟨_, rfl⟩
  rw [← hae] at hy2 c31 c35b
  clear hye hae
  unfold proveV at c28
  refine W.go ?_
  refine W.cl c28 ?_
  refine W.go ?_
  refine W.cl c35 ?_
  refine W.go ?_
  refine W.cl c35b ?_
  clear c28 c35 c35b hzx
  refine W.go ?_
  refine W.lp (fun z : Int × Bool => [(6, .ptr 112 0 0), (7, .ptr 120 0 0), (8, .ptr 144 0 0), (10, .int .i64 key), (18, .int .i64 x), (23, .ptr (nx2 + 328 + 72) 0 0), (24, .int .i64 0), (25, .bool z.2), (26, .int .i64 z.1)]) (fun _ => Hp.put (Hp.put (Hp.put (Hp.put (Hp.put (Hp.put (fun _ => none) 0 { cells := [.int .i64 a, .int .i64 b, .int .i64 c, .int .i64 d], sz := 4 }) 24 { cells := [.int .i64 5, .int .i64 7, .int .i64 11, .int .i64 13], sz := 4 }) 112 { cells := [.int .i64 R, .int .i64 P, .int .i64 G], sz := 3 }) 120 { cells := [.int .i64 R, .int .i64 P, .int .i64 G], sz := 3 }) 144 { cells := [.int .i64 n0, .int .i64 n1, .int .i64 n2, .int .i64 n3], sz := 4 }) (nx2 + 328 + 72) { cells := [.int .i64 ann, .int .i64 n2, .int .i64 x], sz := 3 })
    (fun z => (0 ≤ z.1 ∧ z.1 ≤ P) ∧ (y0 < z.1 → z.2 = true)) (fun z => (P - z.1).toNat) (0, false) rfl (HS.put rfl (HS.skip (HS.skip (HS.refl _) ?_ _) ?_ _)) ⟨⟨by dsimp only; omega, by dsimp only; omega⟩, fun hy => absurd hy (by dsimp only; omega)⟩ ?_
  · simp only [Hp.put]; rw [if_neg (by omega), if_neg (by omega), if_neg (by omega), if_neg (by omega), if_neg (by omega)]
  · simp only [Hp.put]; rw [if_neg (by omega), if_neg (by omega), if_neg (by omega), if_neg (by omega), if_neg (by omega)]
  rintro ⟨y, fb⟩ nx3 ⟨⟨hyy0, hyy1⟩, hfb⟩ hnx3
  dsimp only at *
  by_cases hyP : y < P
  · have c28 := k28 hg n0 y n2 ⟨h0, ⟨hyy0, hyP⟩, h2⟩
    unfold proveV at c28
    have hfb2 := Hid.mk hfb
    clear hfb c31
    refine W.go ?_
    refine W.cl c28 ?_
    cases fb
    · refine W.go ?_
      refine W.kl (y + 1, _) rfl (by refine HS.skip (HS.refl _) ?_ _; simp only [Hp.put]; rw [if_neg (by omega), if_neg (by omega), if_neg (by omega), if_neg (by omega), if_neg (by omega), if_neg (by omega)]) (by omega) ⟨⟨by dsimp only; omega, by dsimp only; omega⟩, ?_⟩ (by dsimp only; omega)
      dsimp only
      intro hlt
      have hye : y = y0 := by
        by_cases h : y0 < y
        · exact absurd (hfb2.out h) (by simp)
        · omega
      subst hye
      simp [hy1, hy2]
    · refine W.go ?_
      refine W.kl (y + 1, true) rfl (by refine HS.skip (HS.refl _) ?_ _; simp only [Hp.put]; rw [if_neg (by omega), if_neg (by omega), if_neg (by omega), if_neg (by omega), if_neg (by omega), if_neg (by omega)]) (by omega) ⟨⟨by dsimp only; omega, by dsimp only; omega⟩, fun _ => rfl⟩ (by dsimp only; omega)
  · have hfb2 : fb = true := hfb (by omega)
    subst hfb2
    clear hfb
    refine W.go ?_
    refine W.cl c31 ?_
    refine W.go ?_
    refine W.kl (x + 1) rfl ?_ (by omega) ⟨by omega, by omega⟩ (by omega)
    refine HS.skip (HS.refl _) ?_ _
    simp only [Hp.put]; rw [if_neg (by omega), if_neg (by omega), if_neg (by omega), if_neg (by omega), if_neg (by omega)]
end Go.Dp
