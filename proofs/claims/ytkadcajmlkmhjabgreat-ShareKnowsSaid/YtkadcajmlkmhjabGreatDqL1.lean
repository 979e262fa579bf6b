import Derived.Test.YtkadcajmlkmhjabGreatDqL0
import Derived.Test.YtkadcajmlkmhjabGreatDqAw
namespace Go.Dp
open Go.RowKit Go.Proofs
section
variable {P : Program} {Y : Ys} {K : Ex → St → Prop} {st : St}
/-- a cut: all that is known behind the first part; a test's slot may be left -/
theorem W.midE {a b : C} (E0 : Nat → V → Env) (H0 : Hp) (n0 : Nat) (h1 : wp P Y a (kSeq (fun s => (∃ j v, s.fr = E0 j v) ∧ s.H = H0 ∧ n0 ≤ s.nx) K) st) (h2 : ∀ j v n, n0 ≤ n → wp P Y b K ⟨E0 j v, H0, n⟩) : wp P Y (.seq a b) K st := by
  refine W.seq (wp_mono (fun e s hk => ?_) h1)
  cases e with
  | nm => obtain ⟨fr, H, nx⟩ := s; obtain ⟨⟨j, v, rfl⟩, rfl, hn⟩ := hk; exact h2 _ _ _ hn
  | ex _ => exact hk
  | rt => exact hk
theorem W.midS {a b : C} (E0 : Nat → V → Env) (H0 : Hp) (n0 : Nat) (h1 : wp P Y a (kSeq (fun s => (∃ j v, s.fr = E0 j v) ∧ HS H0 s.H ∧ n0 ≤ s.nx) K) st) (h2 : ∀ j v H n, HS H0 H → n0 ≤ n → wp P Y b K ⟨E0 j v, H, n⟩) : wp P Y (.seq a b) K st := by
  refine W.seq (wp_mono (fun e s hk => ?_) h1)
  cases e with
  | nm => obtain ⟨fr, H, nx⟩ := s; obtain ⟨⟨j, v, rfl⟩, hH, hn⟩ := hk; exact h2 _ _ _ _ hH hn
  | ex _ => exact hk
  | rt => exact hk
end
attribute [local irreducible] wp wpOps wpOp1 CallW CallT kSeq kBlk kLoop kReg retP retR kAsg kRound kRf
set_option linter.unusedVariables false

theorem k9 {p : Int} (b0 : -2^63 ≤ p) (b1 : p < 2^63) : ∃ R P G, GroupI R P G ∧ PureC Tryz.prog 9 [.int .i64 p] (fun r => r = .tup [grp R P G, grp R P G]) := by
  by_cases hp : 3 ≤ p ∧ p ≤ 65521 ∧ PrimeI p
  · obtain ⟨R, G, K, h, hf, hg⟩ := find_ex hp.2.2 hp.1 hp.2.1
    exact ⟨R, p, G, hg, k9a hf⟩
  · have : (p % 18446744073709551616 % 12).toNat < pr12.length := by show _ < 12; omega
    obtain ⟨q1, q2, q3⟩ := pr12_ok _ (List.getElem_mem this)
    obtain ⟨R, G, K, h, hf, hg⟩ := find_ex q1 q2 q3
    exact ⟨R, _, G, hg, k9b b0 b1 (by by_cases a : p < 3; exact .inl a; by_cases b : 65521 < p; exact .inr (.inl b); exact .inr (.inr fun c => hp ⟨by omega, by omega, c⟩)) (List.getElem?_eq_getElem this) hf⟩

theorem extV_form (R P x1 y1 z1 x2 y2 z2 : Int) : ∃ u v, extV R P x1 y1 z1 x2 y2 z2 = .tup [.int .i64 u, .int .i64 v] := by
  unfold extV; split
  · split <;> exact ⟨_, _, rfl⟩
  · exact ⟨_, _, rfl⟩

theorem hasB_mul {R P G : Int} (h : GroupI R P G) {a b : Int} (ha : hasB R P a = true) (hb : hasB R P b = true) : hasB R P (a * b % R) = true := by
  have hR := h.hR
  have hP := h.hP
  obtain ⟨a1, a2⟩ := hasB_iff.1 ha
  obtain ⟨b1, b2⟩ := hasB_iff.1 hb
  have h1 : (a * b % R) ^ P.toNat % R = 1 := by
    rw [pmod, Int.mul_pow, Int.mul_emod, a2, b2]
    exact Int.emod_eq_of_lt (by omega) (by omega)
  have h2 : 0 ≤ a * b % R := Int.emod_nonneg _ (by omega)
  have h3 : a * b % R < R := Int.emod_lt_of_pos _ (by omega)
  have h4 : a * b % R ≠ 0 := fun e => by
    rw [e, Int.zero_pow (by omega)] at h1; simp at h1
  exact hasB_iff.2 ⟨by omega, h1⟩
theorem hasB_pw {R P G : Int} (h : GroupI R P G) {a : Int} (ha : hasB R P a = true) (n : Nat) : hasB R P (a ^ n % R) = true := by
  have hR := h.hR
  have hP := h.hP
  obtain ⟨a1, a2⟩ := hasB_iff.1 ha
  have h1 : (a ^ n % R) ^ P.toNat % R = 1 := by
    rw [pmod, ← Int.pow_mul, Nat.mul_comm, Int.pow_mul, ← pmod, a2, Int.one_pow]
    exact Int.emod_eq_of_lt (by omega) (by omega)
  have h2 : 0 ≤ a ^ n % R := Int.emod_nonneg _ (by omega)
  have h3 : a ^ n % R < R := Int.emod_lt_of_pos _ (by omega)
  have h4 : a ^ n % R ≠ 0 := fun e => by
    rw [e, Int.zero_pow (by omega)] at h1; simp at h1
  exact hasB_iff.2 ⟨by omega, h1⟩
theorem hasB_gen {R P G : Int} (h : GroupI R P G) : hasB R P G = true := hasB_iff.2 ⟨by have := h.hG; omega, h.one⟩
theorem holds_imit {R P G key y z : Int} (h : GroupI R P G) (hk : hasB R P key = true) (hy : 0 ≤ y ∧ y < P) (hz : 0 ≤ z ∧ z < P) : holdsB R P G key (imitV R P G key y z) y z = true := by
  have : hasB R P (imitV R P G key y z) = true := hasB_mul h (hasB_pw h (hasB_gen h) _) (hasB_pw h hk _)
  simp only [holdsB, hk, validB, this, Bool.true_and, Bool.and_eq_true, decide_eq_true_eq]
  exact ⟨⟨hy, hz⟩, trivial⟩

set_option maxRecDepth 10000 in
set_option maxHeartbeats 2000000 in
theorem k6 (p key : Int) (l : I6) (b0 : -2^63 ≤ p ∧ p < 2^63) (b1 : B64 key) (bl : B64 l.a ∧ B64 l.b ∧ B64 l.c ∧ B64 l.d ∧ B64 l.e ∧ B64 l.f) : PureC Tryz.prog 6 [.int .i64 p, .agg [.int .i64 l.a, .int .i64 l.b, .int .i64 l.c, .int .i64 l.d, .int .i64 l.e, .int .i64 l.f], .int .i64 key] (fun r => r = .bool true) := by
  obtain ⟨R, P, G, hg, hk⟩ := k9 b0.1 b0.2
  have hR := hg.hR
  have hP := hg.hP
  refine pureC_of_wp .x mixed ok6 rfl ?_
  unfold c6
  dsimp only [argE]
  refine W.go ?_
  refine W.cl hk ?_
  refine W.go ?_
  refine W.lp (fun y : Int × Int × I6 => [(2, .int .i64 y.2.1), (4, .ptr 0 0 0), (7, .ptr 56 0 0), (8, .ptr 64 0 0), (9, .int .i64 y.1)])
    (fun y => Hp.put (Hp.put (Hp.put (fun _ => none) 0 { cells := [.int .i64 y.2.2.a, .int .i64 y.2.2.b, .int .i64 y.2.2.c, .int .i64 y.2.2.d, .int .i64 y.2.2.e, .int .i64 y.2.2.f], sz := 6 }) 56 { cells := [.int .i64 R, .int .i64 P, .int .i64 G], sz := 3 }) 64 { cells := [.int .i64 R, .int .i64 P, .int .i64 G], sz := 3 })
    (fun y => (0 ≤ y.1 ∧ y.1 ≤ 3) ∧ B64 y.2.1 ∧ B64 y.2.2.a ∧ B64 y.2.2.b ∧ B64 y.2.2.c ∧ B64 y.2.2.d ∧ B64 y.2.2.e ∧ B64 y.2.2.f) (fun y => (3 - y.1).toNat) (0, key, l) rfl (HS.refl _) ⟨⟨by omega, by omega⟩, b1, bl⟩ ?_
  clear b1 bl
  rintro ⟨k, key, ⟨a, b, c, d, e, f⟩⟩ nx ⟨⟨hk0, hk1⟩, hkey, ha, hb, hc, hd, he, hf⟩ hnx
  simp only [B64] at *
  by_cases hk3 : k < 3
  case neg =>
    refine W.go ?_
    refine W.cl k18 ?_
    refine W.go ?_
    rfl
  -- a proof, or the error
  obtain ⟨u, v, w, t, k28a, hor⟩ : ∃ u v w t, PureC Tryz.prog 28 [grp R P G, .int .i64 a, .int .i64 b, .int .i64 c] (fun r => r = .tup [grp u v w, .int .i64 t]) ∧
      (((0 ≤ a ∧ a < P) ∧ (0 ≤ b ∧ b < P) ∧ (0 ≤ c ∧ c < P)) ∧ t = 0 ∧ PureC Tryz.prog 30 [grp R P G, .int .i64 a, .int .i64 b, .int .i64 c] (fun r => r = grp u v w) ∨ ¬ ((0 ≤ a ∧ a < P) ∧ (0 ≤ b ∧ b < P) ∧ (0 ≤ c ∧ c < P)) ∧ t = 1 ∧ u = 0 ∧ v = 0 ∧ w = 0) := by
    by_cases ho : (0 ≤ a ∧ a < P) ∧ (0 ≤ b ∧ b < P) ∧ (0 ≤ c ∧ c < P)
    · exact ⟨_, _, _, _, k28 hg a b c ho, .inl ⟨ho, rfl, k30 hg a b c ho⟩⟩
    · exact ⟨_, _, _, _, k28f hg a b c ho, .inr ⟨ho, rfl, rfl, rfl, rfl⟩⟩
  obtain ⟨u2, v2, w2, t2, k35a, hor2⟩ : ∃ u v w t, PureC Tryz.prog 35 [grp R P G, .int .i64 key, .int .i64 e, .int .i64 f] (fun r => r = .tup [grp u v w, .int .i64 t]) ∧
      ((hasB R P key = true ∧ (0 ≤ e ∧ e < P) ∧ (0 ≤ f ∧ f < P)) ∧ t = 0 ∧ PureC Tryz.prog 37 [grp R P G, .int .i64 key, .int .i64 e, .int .i64 f] (fun r => r = grp u v w) ∧ PureC Tryz.prog 32 [grp R P G, .int .i64 key, grp u v w] (fun r => r = .bool true) ∨ ¬ (hasB R P key = true ∧ (0 ≤ e ∧ e < P) ∧ (0 ≤ f ∧ f < P)) ∧ t = 1 ∧ u = 0 ∧ v = 0 ∧ w = 0) := by
    by_cases ho : hasB R P key = true ∧ (0 ≤ e ∧ e < P) ∧ (0 ≤ f ∧ f < P)
    · have h32 := k32 hg key (imitV R P G key e f) e f
      rw [holds_imit hg ho.1 ho.2.1 ho.2.2] at h32
      exact ⟨_, _, _, _, k35 hg key e f ho.1 ho.2.1 ho.2.2, .inl ⟨ho, rfl, k37 hg key e f (by have := (hasB_iff.1 ho.1).1; omega) ho.2.1 ho.2.2, h32⟩⟩
    · exact ⟨_, _, _, _, k35f hg key e f ho, .inr ⟨ho, rfl, rfl, rfl, rfl⟩⟩
  obtain ⟨x1, x2, hext⟩ := extV_form R P a b c d e f
  have k33a := k33 hg a b c d e f
  have k34a := k34 hg a b c d e f
  rw [hext] at k33a k34a
  have k31a := k31 hg key a b c
  have k32a := k32 hg key a b c
  have k36a := k36 hg key
  clear hext
  refine W.go ?_
  refine W.cl (k27 a b c) ?_
  refine W.go ?_
  refine W.cl (k27 d e f) ?_
  refine W.go ?_
  refine W.cl k28a ?_
  clear k28a
  refine W.gos ?_
  refine W.midE (fun j x => [(2, .int .i64 key), (4, .ptr 0 0 0), (7, .ptr 56 0 0), (8, .ptr 64 0 0), (9, .int .i64 k), (10, .ptr (nx + 16 + 48) 0 0), (11, .ptr (nx + 16 + 56) 0 0), (j, x)]) (Hp.put (Hp.put (Hp.put (Hp.put (Hp.put (Hp.put (fun _ => none) 0 { cells := [.int .i64 a, .int .i64 b, .int .i64 c, .int .i64 d, .int .i64 e, .int .i64 f], sz := 6 }) 56 { cells := [.int .i64 R, .int .i64 P, .int .i64 G], sz := 3 }) 64 { cells := [.int .i64 R, .int .i64 P, .int .i64 G], sz := 3 }) (nx + 16 + 48) { cells := [.int .i64 a, .int .i64 b, .int .i64 c], sz := 3 }) (nx + 16 + 56) { cells := [.int .i64 d, .int .i64 e, .int .i64 f], sz := 3 }) (nx + 96 + 112) { cells := [.int .i64 u, .int .i64 v, .int .i64 w], sz := 3 }) (nx + 232) ?_ ?_
  · clear hor2
    rcases hor with ⟨ho, ht, k30a⟩ | ⟨ho, ht, hu, hv, hw⟩
    · subst ht
      refine W.go ?_
      refine W.cl (k29 a) ?_
      refine W.go ?_
      refine W.cl (k29 b) ?_
      refine W.go ?_
      refine W.cl (k29 c) ?_
      refine W.go ?_
      refine W.cl k30a ?_
      refine W.go ?_
      exact ⟨⟨_, _, rfl⟩, rfl, by dsimp only; omega⟩
    · subst ht hu hv hw
      by_cases o1 : 0 ≤ a ∧ a < P
      · by_cases o2 : 0 ≤ b ∧ b < P
        · have o3 : ¬ (0 ≤ c ∧ c < P) := fun o3 => ho ⟨o1, o2, o3⟩
          refine W.go ?_
          refine W.cl (k29 a) ?_
          refine W.go ?_
          refine W.cl (k29 b) ?_
          refine W.go ?_
          refine W.cl (k29 c) ?_
          refine W.go ?_
          exact ⟨⟨_, _, rfl⟩, rfl, by dsimp only; omega⟩
        · refine W.go ?_
          refine W.cl (k29 a) ?_
          refine W.go ?_
          refine W.cl (k29 b) ?_
          refine W.go ?_
          exact ⟨⟨_, _, rfl⟩, rfl, by dsimp only; omega⟩
      · refine W.go ?_
        refine W.cl (k29 a) ?_
        refine W.go ?_
        exact ⟨⟨_, _, rfl⟩, rfl, by dsimp only; omega⟩
  clear hor
  intro j1 q1 n1 hn1
  have hor3 : Hid (_ ∨ _) := ⟨hor2⟩
  clear hor2
  refine W.go ?_
  refine W.cl k31a ?_
  refine W.go ?_
  refine W.cl k32a ?_
  refine W.go ?_
  refine W.cl k33a ?_
  refine W.go ?_
  refine W.cl k34a ?_
  refine W.go ?_
  refine W.cl k35a ?_
  clear k31a k32a k33a k34a k35a
  refine W.gos ?_
  refine W.midS (fun j x => [(2, .int .i64 key), (4, .ptr 0 0 0), (7, .ptr 56 0 0), (8, .ptr 64 0 0), (9, .int .i64 k), (j, x)]) (Hp.put (Hp.put (Hp.put (fun _ => none) 0 { cells := [.int .i64 a, .int .i64 b, .int .i64 c, .int .i64 d, .int .i64 e, .int .i64 f], sz := 6 }) 56 { cells := [.int .i64 R, .int .i64 P, .int .i64 G], sz := 3 }) 64 { cells := [.int .i64 R, .int .i64 P, .int .i64 G], sz := 3 }) nx ?_ ?_
  · obtain ⟨hor2⟩ := hor3
    rcases hor2 with ⟨⟨o1, o2, o3⟩, ht, k37a, k32b⟩ | ⟨ho, ht, hu, hv, hw⟩
    · subst ht
      rw [o1] at k36a
      clear o1
      refine W.go ?_
      refine W.cl k36a ?_
      refine W.go ?_
      refine W.cl (k29 e) ?_
      refine W.go ?_
      refine W.cl (k29 f) ?_
      refine W.go ?_
      refine W.cl k37a ?_
      refine W.go ?_
      refine W.cl k32b ?_
      refine W.go ?_
      refine ⟨⟨_, _, rfl⟩, ?_, by dsimp only; omega⟩
      repeat' (first | with_reducible exact HS.refl _ | refine HS.skip ?_ ?_ _ | (simp only [Hp.put]; rw [if_neg (by omega), if_neg (by omega), if_neg (by omega)]))
    · subst ht hu hv hw
      cases o1 : hasB R P key
      · rw [o1] at k36a
        clear o1 ho
        refine W.go ?_
        refine W.cl k36a ?_
        refine W.go ?_
        refine ⟨⟨_, _, rfl⟩, ?_, by dsimp only; omega⟩
        repeat' (first | with_reducible exact HS.refl _ | refine HS.skip ?_ ?_ _ | (simp only [Hp.put]; rw [if_neg (by omega), if_neg (by omega), if_neg (by omega)]))
      · rw [o1] at k36a ho
        clear o1
        by_cases o2 : 0 ≤ e ∧ e < P
        · have o3 : ¬ (0 ≤ f ∧ f < P) := fun o3 => ho ⟨rfl, o2, o3⟩
          clear ho
          refine W.go ?_
          refine W.cl k36a ?_
          refine W.go ?_
          refine W.cl (k29 e) ?_
          refine W.go ?_
          refine W.cl (k29 f) ?_
          refine W.go ?_
          refine ⟨⟨_, _, rfl⟩, ?_, by dsimp only; omega⟩
          repeat' (first | with_reducible exact HS.refl _ | refine HS.skip ?_ ?_ _ | (simp only [Hp.put]; rw [if_neg (by omega), if_neg (by omega), if_neg (by omega)]))
        · clear ho
          refine W.go ?_
          refine W.cl k36a ?_
          refine W.go ?_
          refine W.cl (k29 e) ?_
          refine W.go ?_
          refine ⟨⟨_, _, rfl⟩, ?_, by dsimp only; omega⟩
          repeat' (first | with_reducible exact HS.refl _ | refine HS.skip ?_ ?_ _ | (simp only [Hp.put]; rw [if_neg (by omega), if_neg (by omega), if_neg (by omega)]))
  clear hor3 k36a
  intro j2 q2 H n2 hH hn2
  refine tail6 hg key k (by simp only [B64]; omega) ⟨hk0, hk3⟩ a b c d e f (by simp only [B64]; omega) (by simp only [B64]; omega) (by simp only [B64]; omega) (by simp only [B64]; omega) (by simp only [B64]; omega) (by simp only [B64]; omega) j2 q2 H n2 (by omega) hH _ ?_
  rintro key2 l2 E2 H2 n3 hk2 hl2 hE hH2 hn3
  rcases hE with rfl | rfl
  · refine W.go ?_
    refine W.kl (k + 1, key2, l2) rfl hH2 (by omega) ⟨⟨by dsimp only; omega, by dsimp only; omega⟩, hk2, hl2⟩ (by dsimp only; omega)
  · refine W.go ?_
    refine W.kl (k + 1, key2, l2) rfl hH2 (by omega) ⟨⟨by dsimp only; omega, by dsimp only; omega⟩, hk2, hl2⟩ (by dsimp only; omega)
end Go.Dp
