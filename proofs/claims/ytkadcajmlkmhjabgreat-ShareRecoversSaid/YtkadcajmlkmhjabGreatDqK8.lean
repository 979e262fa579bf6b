import Derived.Test.YtkadcajmlkmhjabGreatDqK5
namespace Go.Dp
open Go.RowKit Go.Proofs
attribute [local irreducible] wp wpOps wpOp1 CallW CallT kSeq kBlk kLoop kReg retP retR kAsg kRound kRf
set_option linter.unusedVariables false

theorem k65s (lo hi x : Int) : PureC Tryz.prog 65 [.int .i64 lo, .int .i64 hi, .sl [.int .i64 x] 1] (fun r => r = .bool (decide (lo ≤ x ∧ x ≤ hi))) := by
  have h := k65 lo hi [x] 1 rfl (by simp)
  simpa [inB] using h
theorem k73t {n : Int} (h0 : -2^63 ≤ n) (hn : n < 2^40) (h : PrimeI n) : PureC Tryz.prog 73 [.int .i64 n] (fun r => r = .bool true) := by
  have := k73 n h0 hn; rwa [primeB_of h] at this
theorem k73f {n : Int} (h0 : -2^63 ≤ n) (hn : n < 2^40) (h : ¬ PrimeI n) : PureC Tryz.prog 73 [.int .i64 n] (fun r => r = .bool false) := by
  have := k73 n h0 hn; rwa [primeB_not h] at this

set_option maxRecDepth 10000 in
theorem k43 {R P G : Int} (h : GroupI R P G) : PureC Tryz.prog 43 [grp R P G] (fun r => r = .int .i64 0) := by
  obtain ⟨hR, hP, hd, hG, pR, pP, one⟩ := h
  refine pureC_of_wp .x mixed ok43 rfl ?_
  unfold c43
  dsimp only [argE]
  refine W.go ?_
  refine W.cl (k65s 3 2147483647 R) ?_
  refine W.go ?_
  refine W.cl (k65s 3 65521 P) ?_
  refine W.go ?_
  refine W.cl (k65s 2 (R - 1) G) ?_
  refine W.go ?_
  refine W.cl (k73t (by omega) (by omega) pR) ?_
  refine W.go ?_
  refine W.cl (k73t (by omega) (by omega) pP) ?_
  refine W.go ?_
  refine W.cl (k68 G P R (by omega) (by omega) (by omega) (by omega) (by omega)) ?_
  refine W.go ?_
  rfl

set_option maxRecDepth 10000 in
theorem k43f {R P G : Int} (b : (-2^63 ≤ R ∧ R < 2^63) ∧ (-2^63 ≤ P ∧ P < 2^63) ∧ (-2^63 ≤ G ∧ G < 2^63)) (h : ¬ GroupI R P G) : PureC Tryz.prog 43 [grp R P G] (fun r => r = .int .i64 80) := by
  refine pureC_of_wp .x mixed ok43 rfl ?_
  unfold c43
  dsimp only [argE]
  refine W.go ?_
  refine W.cl (k65s 3 2147483647 R) ?_
  by_cases hR : 3 ≤ R ∧ R ≤ 2147483647
  case neg => refine W.go ?_; rfl
  refine W.go ?_
  refine W.cl (k65s 3 65521 P) ?_
  by_cases hP : 3 ≤ P ∧ P ≤ 65521
  case neg => refine W.go ?_; rfl
  by_cases hd : (R - 1) % P = 0
  case neg => refine W.go ?_; rfl
  refine W.go ?_
  refine W.cl (k65s 2 (R - 1) G) ?_
  by_cases hG : 2 ≤ G ∧ G < R
  case neg => refine W.go ?_; rfl
  refine W.go ?_
  by_cases pR : PrimeI R
  case neg => refine W.cl (k73f (by omega) (by omega) pR) ?_; refine W.go ?_; rfl
  refine W.cl (k73t (by omega) (by omega) pR) ?_
  refine W.go ?_
  by_cases pP : PrimeI P
  case neg => refine W.cl (k73f (by omega) (by omega) pP) ?_; refine W.go ?_; rfl
  refine W.cl (k73t (by omega) (by omega) pP) ?_
  refine W.go ?_
  refine W.cl (k68 G P R (by omega) (by omega) (by omega) (by omega) (by omega)) ?_
  have one : ¬ G ^ P.toNat % R = 1 := fun one => h ⟨hR, hP, hd, hG, pR, pP, one⟩
  refine W.go ?_
  rfl

set_option maxRecDepth 10000 in
theorem k67 (R P G : Int) : PureC Tryz.prog 67 [grp R P G] (fun r => r = .int .i64 R) := by
  refine pureC_of_wp .x mixed ok67 rfl ?_
  unfold c67
  dsimp only [argE]
  refine W.go ?_
  rfl

set_option maxRecDepth 10000 in
theorem k66 {R P G : Int} (hP : 3 ≤ P ∧ P ≤ 65521) (A : List Int) (len : Nat) (hl : len = A.length) (hlen : A.length < 2 ^ 40) : PureC Tryz.prog 66 [grp R P G, .sl (A.map (V.int .i64)) len] (fun r => r = .bool (inB 0 (P - 1) A)) := by
  refine pureC_of_wp .x mixed ok66 rfl ?_
  unfold c66
  dsimp only [argE]
  refine W.go ?_
  refine W.cl (k65 0 (P - 1) A len hl hlen) ?_
  refine W.go ?_
  rfl
theorem k66s {R P G : Int} (hP : 3 ≤ P ∧ P ≤ 65521) (x : Int) : PureC Tryz.prog 66 [grp R P G, .sl [.int .i64 x] 1] (fun r => r = .bool (decide (0 ≤ x ∧ x < P))) := by
  have h := k66 (R := R) (G := G) hP [x] 1 rfl (by simp)
  have e : decide (0 ≤ x ∧ x < P) = decide (0 ≤ x ∧ x ≤ P - 1) := by congr 1; apply propext; omega
  rw [e]
  simpa [inB] using h

set_option maxRecDepth 10000 in
theorem k62 {R P G : Int} (h : GroupI R P G) (n : Int) (hn : 0 ≤ n) (hn2 : n < 2 ^ 63) : PureC Tryz.prog 62 [grp R P G, .int .i64 n] (fun r => r = .int .i64 (G ^ n.toNat % R)) := by
  obtain ⟨hR, hP, hd, hG, pR, pP, one⟩ := h
  refine pureC_of_wp .x mixed ok62 rfl ?_
  unfold c62
  dsimp only [argE]
  refine W.go ?_
  refine W.cl (k67 R P G) ?_
  refine W.go ?_
  refine W.cl (k68 G n R (by omega) (by omega) (by omega) (by omega) (by omega)) ?_
  refine W.go ?_
  rfl
end Go.Dp

namespace Go.Dp
open Go.RowKit Go.Proofs
attribute [local irreducible] wp wpOps wpOp1 CallW CallT kSeq kBlk kLoop kReg retP retR kAsg kRound kRf
set_option linter.unusedVariables false

set_option maxRecDepth 10000 in
theorem k94 {R P G : Int} (h : GroupI R P G) (x : Int) (h1 : 0 ≤ x) : PureC Tryz.prog 94 [.int .i64 x, .fp [.int .i64 R, .int .i64 P, .int .i64 G] 0] (fun r => r = .bool (decide (x ^ P.toNat % R ≠ 1))) := by
  obtain ⟨hR, hP, hd, hG, pR, pP, one⟩ := h
  refine pureC_of_wp .x mixed ok94 rfl ?_
  unfold c94
  dsimp only [argE]
  refine W.go ?_
  refine W.cl (k67 R P G) ?_
  refine W.go ?_
  refine W.cl (k68 x P R h1 (by omega) (by omega) (by omega) (by omega)) ?_
  refine W.go ?_
  rfl

set_option maxRecDepth 10000 in
theorem k64 {R P G : Int} (h : GroupI R P G) (A : List Int) (len : Nat) (hl : len = A.length) (hlen : A.length < 2 ^ 40) : PureC Tryz.prog 64 [grp R P G, .sl (A.map (V.int .i64)) len] (fun r => r = .bool (A.all (hasB R P))) := by
  have h' := h
  obtain ⟨hR, hP, hd, hG, pR, pP, one⟩ := h
  refine pureC_of_wp .x mixed ok64 rfl ?_
  unfold c64
  dsimp only [argE]
  refine W.go ?_
  refine W.cl (k65 1 (R - 1) A len hl hlen) ?_
  cases hb : inB 1 (R - 1) A
  · refine W.go ?_
    have : A.all (hasB R P) = false := by
      cases e : A.all (hasB R P)
      · rfl
      · exfalso
        rw [List.all_eq_true] at e
        have : inB 1 (R - 1) A = true := by
          unfold inB; rw [List.all_eq_true]; intro x hx
          have := e x hx
          simp only [hasB, Bool.and_eq_true, decide_eq_true_eq] at this ⊢
          omega
        rw [hb] at this; cases this
    rw [this]
  · have hin : ∀ x ∈ A, 1 ≤ x ∧ x < R := by
      intro x hx
      unfold inB at hb; rw [List.all_eq_true] at hb
      have := hb x hx
      simp only [decide_eq_true_eq] at this
      omega
    refine W.go ?_
    refine W.cl (k93 (V.int .i64) A len hl hlen 94 [.fp [.int .i64 R, .int .i64 P, .int .i64 G] 0] (fun x => decide (x ^ P.toNat % R ≠ 1)) (fun _ => rfl) (by simp [V.atom]) (fun a ha => k94 h' a (by have := hin a ha; omega))) ?_
    refine W.go ?_
    congr 1
    rw [List.not_any_eq_all_not, Bool.eq_iff_iff, List.all_eq_true, List.all_eq_true]
    constructor
    · intro hh x hx
      have := hh x hx
      have h2 := hin x hx
      simpa [hasB, h2] using this
    · intro hh x hx
      have := hh x hx
      have h2 := hin x hx
      simpa [hasB, h2] using this
theorem k64s {R P G : Int} (h : GroupI R P G) (x : Int) : PureC Tryz.prog 64 [grp R P G, .sl [.int .i64 x] 1] (fun r => r = .bool (hasB R P x)) := by
  simpa using k64 h [x] 1 rfl (by simp)

set_option maxRecDepth 10000 in
theorem k45 {R P G : Int} (h : GroupI R P G) (x : Int) : PureC Tryz.prog 45 [grp R P G, .int .i64 x] (fun r => r = .bool (hasB R P x)) := by
  refine pureC_of_wp .x mixed ok45 rfl ?_
  unfold c45
  dsimp only [argE]
  refine W.go ?_
  refine W.cl (k43 h) ?_
  refine W.go ?_
  refine W.cl (k64s h x) ?_
  refine W.go ?_
  rfl

set_option maxRecDepth 10000 in
theorem k39 {R P G : Int} (h : GroupI R P G) (n : Int) (h0 : 0 ≤ n) (h1 : n < P) : PureC Tryz.prog 39 [grp R P G, .int .i64 n] (fun r => r = .tup [.int .i64 (G ^ n.toNat % R), .int .i64 0]) := by
  have hP := h.hP
  refine pureC_of_wp .x mixed ok39 rfl ?_
  unfold c39
  dsimp only [argE]
  refine W.go ?_
  refine W.cl (k43 h) ?_
  refine W.go ?_
  refine W.cl (k66s hP n) ?_
  refine W.go ?_
  refine W.cl (k62 h n h0 (by omega)) ?_
  refine W.go ?_
  rfl
set_option maxRecDepth 10000 in
theorem k39f {R P G : Int} (h : GroupI R P G) (n : Int) (h0 : ¬ (0 ≤ n ∧ n < P)) : PureC Tryz.prog 39 [grp R P G, .int .i64 n] (fun r => r = .tup [.int .i64 0, .int .i64 1]) := by
  have hP := h.hP
  refine pureC_of_wp .x mixed ok39 rfl ?_
  unfold c39
  dsimp only [argE]
  refine W.go ?_
  refine W.cl (k43 h) ?_
  refine W.go ?_
  refine W.cl (k66s hP n) ?_
  refine W.go ?_
  rfl

set_option maxRecDepth 10000 in
theorem k38 {R P G : Int} (h : GroupI R P G) (n : Int) (h0 : 0 ≤ n) (h1 : n < 2 ^ 63) : PureC Tryz.prog 38 [grp R P G, .int .i64 n] (fun r => r = .int .i64 (G ^ n.toNat % R)) := by
  have hG := h.hG
  have hR := h.hR
  refine pureC_of_wp .x mixed ok38 rfl ?_
  unfold c38
  dsimp only [argE]
  refine W.go ?_
  refine W.cl (k63 G n R (by omega) h0 h1 (by omega) (by omega)) ?_
  refine W.go ?_
  rfl

set_option maxRecDepth 10000 in
theorem k36 {R P G : Int} (h : GroupI R P G) (x : Int) : PureC Tryz.prog 36 [grp R P G, .int .i64 x] (fun r => r = .bool (hasB R P x)) := by
  have hP := h.hP
  have hR := h.hR
  refine pureC_of_wp .x mixed ok36 rfl ?_
  unfold c36 hasB
  dsimp only [argE]
  by_cases h1 : 1 ≤ x
  case neg => refine W.go ?_; simp [h1]
  by_cases h2 : x < R
  case neg => refine W.go ?_; simp [h2]
  refine W.go ?_
  refine W.cl (k63 x P R (by omega) (by omega) (by omega) (by omega) (by omega)) ?_
  refine W.go ?_
  simp [h1, h2]
end Go.Dp

namespace Go.Dp
open Go.RowKit Go.Proofs
attribute [local irreducible] wp wpOps wpOp1 CallW CallT kSeq kBlk kLoop kReg retP retR kAsg kRound kRf
set_option linter.unusedVariables false

theorem find_ex {p : Int} (h : PrimeI p) (h1 : 3 ≤ p) (h2 : p ≤ 65521) : ∃ R G K h, FindI p R G K h ∧ GroupI R p G := by
  obtain ⟨K, ⟨pR, hR⟩, hmin⟩ := exists_min (fun k : Nat => k) (above_ex h h1 h2)
  have hK0 : (0 : Int) ≤ (K : Int) * p := Int.mul_nonneg (by omega) (by omega)
  obtain ⟨R, hRe⟩ : ∃ R, R = p + 1 + (K : Int) * p := ⟨_, rfl⟩
  have hq : (R - 1) = p * (K + 1) := by rw [hRe, Int.mul_add, Int.mul_one, Int.mul_comm]; omega
  have hq1 : (R - 1) / p = K + 1 := by rw [hq]; exact Int.mul_ediv_cancel_left _ (by omega)
  have hq2 : (R - 1) % p = 0 := by rw [hq]; exact Int.mul_emod_right _ _
  rw [← hRe] at pR hR
  have hk3 : 3 * ((K : Int) + 1) ≤ p * (K + 1) := Int.mul_le_mul_of_nonneg_right h1 (by omega)
  have hex : ∃ m : Nat, 2 ≤ m ∧ (m : Int) < R ∧ (m : Int) ^ ((R - 1) / p).toNat % R ≠ 1 := by
    rw [hq1]
    obtain ⟨a, a1, a2, a3⟩ := no_root (k := ((K : Int) + 1).toNat) pR (by omega) (by omega)
    exact ⟨a.toNat, by omega, by omega, by rw [Int.toNat_of_nonneg (by omega)]; exact a3⟩
  obtain ⟨m, ⟨m1, m2, m3⟩, hmm⟩ := exists_min (fun k : Nat => k) hex
  have hnd : ¬ R ∣ (m : Int) := not_dvd_small (by omega) (by omega)
  have hG0 : 0 ≤ (m : Int) ^ ((R - 1) / p).toNat % R := Int.emod_nonneg _ (by omega)
  have hG1 : (m : Int) ^ ((R - 1) / p).toNat % R < R := Int.emod_lt_of_pos _ (by omega)
  have hone : ((m : Int) ^ ((R - 1) / p).toNat % R) ^ p.toNat % R = 1 := by
    rw [pmod, ← Int.pow_mul]
    have : ((R - 1) / p).toNat * p.toNat = (R - 1).toNat := by
      rw [hq1, hq]
      have : (((((K : Int) + 1).toNat * p.toNat : Nat)) : Int) = p * (K + 1) := by
        rw [Int.natCast_mul, Int.toNat_of_nonneg (by omega), Int.toNat_of_nonneg (by omega), Int.mul_comm]
      omega
    rw [this]; exact fermat pR hnd
  have hG2 : (m : Int) ^ ((R - 1) / p).toNat % R ≠ 0 := fun e => by
    rw [e, Int.zero_pow (by omega)] at hone; simp at hone
  refine ⟨R, (m : Int) ^ ((R - 1) / p).toNat % R, K, m, ⟨⟨h, h1, h2⟩, by omega, hRe, by omega, pR, ?_, by omega, m2, rfl, m3, ?_⟩, ⟨by omega, ⟨h1, h2⟩, hq2, ⟨by omega, hG1⟩, pR, h, hone⟩⟩
  · intro k hk0 hk1 hpk
    have := hmin k.toNat (by
      refine ⟨by rw [Int.toNat_of_nonneg hk0]; exact hpk, ?_⟩
      rw [Int.toNat_of_nonneg hk0]
      have : k * p ≤ (K : Int) * p := Int.mul_le_mul_of_nonneg_right (by omega) (by omega)
      omega)
    omega
  · intro i hi0 hi1
    refine Classical.byContradiction fun hc => ?_
    have := hmm i.toNat ⟨by omega, by omega, by rw [Int.toNat_of_nonneg (by omega)]; exact hc⟩
    omega

/-- the twelve primes -/
def pr12 : List Int := [3, 5, 7, 11, 13, 17, 31, 97, 101, 251, 1009, 65521]
/-- a prime by all divisors up to its root -/
theorem prime_by {n : Nat} (h : (decide (1 < n) && (List.range 256).all fun d => decide (d < 2) || decide (n < d * d) || !(n % d == 0)) = true) (hn : n < 65536) : PrimeI (n : Int) := by
  simp only [Bool.and_eq_true, decide_eq_true_eq, List.all_eq_true, Bool.or_eq_true, Bool.not_eq_true', beq_eq_false_iff_ne] at h
  refine ⟨by omega, fun d h1 h2 h3 => ?_⟩
  have hd : d < 256 := by
    by_cases hc : d < 256
    · exact hc
    · have : (256 : Int) * 256 ≤ d * d := Int.mul_le_mul (by omega) (by omega) (by omega) (by omega)
      omega
  obtain ⟨e, rfl⟩ : ∃ e : Nat, d = e := ⟨d.toNat, by omega⟩
  rcases h.2 e (List.mem_range.2 (by omega)) with (h4 | h4) | h4
  · omega
  · have : ((e * e : Nat) : Int) = (e : Int) * e := Int.natCast_mul _ _
    omega
  · omega
theorem pr12_ok : ∀ q ∈ pr12, PrimeI q ∧ 3 ≤ q ∧ q ≤ 65521 := by
  have h : ([3, 5, 7, 11, 13, 17, 31, 97, 101, 251, 1009, 65521] : List Nat).all (fun n => (decide (1 < n) && (List.range 256).all fun d => decide (d < 2) || decide (n < d * d) || !(n % d == 0)) && (decide (3 ≤ n) && decide (n ≤ 65521))) = true := by kernel_rfl
  intro q hq
  obtain ⟨n, hn, rfl⟩ : ∃ n ∈ ([3, 5, 7, 11, 13, 17, 31, 97, 101, 251, 1009, 65521] : List Nat), q = (n : Int) := by
    have e : pr12 = ([3, 5, 7, 11, 13, 17, 31, 97, 101, 251, 1009, 65521] : List Nat).map fun n : Nat => (n : Int) := rfl
    rw [e] at hq
    obtain ⟨n, hn, e⟩ := List.mem_map.1 hq
    exact ⟨n, hn, e.symm⟩
  have := List.all_eq_true.1 h n hn
  rw [Bool.and_eq_true] at this
  obtain ⟨h1, h2⟩ := this
  simp only [Bool.and_eq_true, decide_eq_true_eq] at h2
  exact ⟨prime_by h1 (by omega), by omega, by omega⟩

set_option maxRecDepth 10000 in
theorem k9a {p R G K h : Int} (hf : FindI p R G K h) : PureC Tryz.prog 9 [.int .i64 p] (fun r => r = .tup [grp R p G, grp R p G]) := by
  refine pureC_of_wp .x mixed ok9 rfl ?_
  unfold c9
  dsimp only [argE]
  have hk := k41 hf
  clear hf
  refine W.go ?_
  refine W.cl hk ?_
  refine W.go ?_
  rfl
set_option maxRecDepth 10000 in
theorem k9b {p q R G K h : Int} (b0 : -2^63 ≤ p) (b1 : p < 2^63) (hp : p < 3 ∨ 65521 < p ∨ ¬ PrimeI p) (hq : pr12[(p % 18446744073709551616 % 12).toNat]? = some q) (hf : FindI q R G K h) : PureC Tryz.prog 9 [.int .i64 p] (fun r => r = .tup [grp R q G, grp R q G]) := by
  refine pureC_of_wp .x mixed ok9 rfl ?_
  unfold c9
  dsimp only [argE]
  have hk := k41 hf
  have hk2 := k41f b0 b1 hp
  have hq2 : ∀ hh, (pr12.map (V.int .i64))[(p % 18446744073709551616 % 12).toNat]'hh = V.int .i64 q := fun hh => by
    rw [List.getElem_map]
    congr 1
    rw [List.getElem?_eq_some_iff] at hq
    exact hq.2
  simp only [pr12, List.map_cons, List.map_nil] at hq2
  clear hq hf hp b0 b1
  refine W.go ?_
  refine W.cl hk2 ?_
  refine W.go ?_
  rw [hq2 (by show _ < 12; omega)]
  refine W.cl hk ?_
  refine W.go ?_
  rfl
end Go.Dp
