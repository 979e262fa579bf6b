import Derived.Test.YtkadcajmlkmhjabGreatDqK7
namespace Go.Dp
open Go.RowKit Go.Proofs
attribute [local irreducible] wp wpOps wpOp1 CallW CallT kSeq kBlk kLoop kReg retP retR kAsg kRound kRf
set_option linter.unusedVariables false

theorem find_ex {p : Int} (h : PrimeI p) (h1 : 3 ≤ p) (h2 : p ≤ 65521) : ∃ R G K h, FindI p R G K h ∧ GroupI R p G := by
  obtain ⟨K, ⟨pR, hR⟩, hmin⟩ := exists_min (fun k : Nat => k) (above_ex h h1 h2)
  have hK0 : (0 : Int) ≤ (K : Int) * p := Int.mul_nonneg (by omega) (by omega)
  obtain ⟨R, hRe⟩ : ∃ R, R = p + 1 + (K : Int) * p := ⟨_, rfl⟩
  have hq : (R - 1) = p * (K + 1) := by rw [hRe, Int.mul_add, Int.mul_one, Int.mul_comm]; omega
  have hq1 : (R - 1) / p = K + 1 := by rw [hq]; exact Int.mul_ediv_cancel_left _ (by omega)
  have hq2 : (R - 1) % p = 0 := by rw [hq]; exact Int.mul_emod_right _ _
  rw [← hRe] at pR hR
  have hk3 : 3 * ((K : Int) + 1) ≤ p * (K + 1) := Int.mul_le_mul_of_nonneg_right h1 (by omega)
  have hex : ∃ m : Nat, 2 ≤ m ∧ (m : Int) < R ∧ (m : Int) ^ ((R - 1) / p).toNat % R ≠ 1 := by
    rw [hq1]
    obtain ⟨a, a1, a2, a3⟩ := no_root (k := ((K : Int) + 1).toNat) pR (by omega) (by omega)
    exact ⟨a.toNat, by omega, by omega, by rw [Int.toNat_of_nonneg (by omega)]; exact a3⟩
  obtain ⟨m, ⟨m1, m2, m3⟩, hmm⟩ := exists_min (fun k : Nat => k) hex
  have hnd : ¬ R ∣ (m : Int) := not_dvd_small (by omega) (by omega)
  have hG0 : 0 ≤ (m : Int) ^ ((R - 1) / p).toNat % R := Int.emod_nonneg _ (by omega)
  have hG1 : (m : Int) ^ ((R - 1) / p).toNat % R < R := Int.emod_lt_of_pos _ (by omega)
  have hone : ((m : Int) ^ ((R - 1) / p).toNat % R) ^ p.toNat % R = 1 := by
    rw [pmod, ← Int.pow_mul]
    have : ((R - 1) / p).toNat * p.toNat = (R - 1).toNat := by
      rw [hq1, hq]
      have : (((((K : Int) + 1).toNat * p.toNat : Nat)) : Int) = p * (K + 1) := by
        rw [Int.natCast_mul, Int.toNat_of_nonneg (by omega), Int.toNat_of_nonneg (by omega), Int.mul_comm]
      omega
    rw [this]; exact fermat pR hnd
  have hG2 : (m : Int) ^ ((R - 1) / p).toNat % R ≠ 0 := fun e => by
    rw [e, Int.zero_pow (by omega)] at hone; simp at hone
  refine ⟨R, (m : Int) ^ ((R - 1) / p).toNat % R, K, m, ⟨⟨h, h1, h2⟩, by omega, hRe, by omega, pR, ?_, by omega, m2, rfl, m3, ?_⟩, ⟨by omega, ⟨h1, h2⟩, hq2, ⟨by omega, hG1⟩, pR, h, hone⟩⟩
  · intro k hk0 hk1 hpk
    have := hmin k.toNat (by
      refine ⟨by rw [Int.toNat_of_nonneg hk0]; exact hpk, ?_⟩
      rw [Int.toNat_of_nonneg hk0]
      have : k * p ≤ (K : Int) * p := Int.mul_le_mul_of_nonneg_right (by omega) (by omega)
      omega)
    omega
  · intro i hi0 hi1
    refine Classical.byContradiction fun hc => ?_
    have := hmm i.toNat ⟨by omega, by omega, by rw [Int.toNat_of_nonneg (by omega)]; exact hc⟩
    omega

/-- the twelve primes -/
def pr12 : List Int := [3, 5, 7, 11, 13, 17, 31, 97, 101, 251, 1009, 65521]
/-- a prime by all divisors up to its root -/
theorem prime_by {n : Nat} (h : (decide (1 < n) && (List.range 256).all fun d => decide (d < 2) || decide (n < d * d) || !(n % d == 0)) = true) (hn : n < 65536) : PrimeI (n : Int) := by
  simp only [Bool.and_eq_true, decide_eq_true_eq, List.all_eq_true, Bool.or_eq_true, Bool.not_eq_true', beq_eq_false_iff_ne] at h
  refine ⟨by omega, fun d h1 h2 h3 => ?_⟩
  have hd : d < 256 := by
    by_cases hc : d < 256
    · exact hc
    · have : (256 : Int) * 256 ≤ d * d := Int.mul_le_mul (by omega) (by omega) (by omega) (by omega)
      omega
  obtain ⟨e, rfl⟩ : ∃ e : Nat, d = e := ⟨d.toNat, by omega⟩
  rcases h.2 e (List.mem_range.2 (by omega)) with (h4 | h4) | h4
  · omega
  · have : ((e * e : Nat) : Int) = (e : Int) * e := Int.natCast_mul _ _
    omega
  · omega
theorem pr12_ok : ∀ q ∈ pr12, PrimeI q ∧ 3 ≤ q ∧ q ≤ 65521 := by
  have h : ([3, 5, 7, 11, 13, 17, 31, 97, 101, 251, 1009, 65521] : List Nat).all (fun n => (decide (1 < n) && (List.range 256).all fun d => decide (d < 2) || decide (n < d * d) || !(n % d == 0)) && (decide (3 ≤ n) && decide (n ≤ 65521))) = true := by kernel_rfl
  intro q hq
  obtain ⟨n, hn, rfl⟩ : ∃ n ∈ ([3, 5, 7, 11, 13, 17, 31, 97, 101, 251, 1009, 65521] : List Nat), q = (n : Int) := by
    have e : pr12 = ([3, 5, 7, 11, 13, 17, 31, 97, 101, 251, 1009, 65521] : List Nat).map fun n : Nat => (n : Int) := rfl
    rw [e] at hq
    obtain ⟨n, hn, e⟩ := List.mem_map.1 hq
    exact ⟨n, hn, e.symm⟩
  have := List.all_eq_true.1 h n hn
  rw [Bool.and_eq_true] at this
  obtain ⟨h1, h2⟩ := this
  simp only [Bool.and_eq_true, decide_eq_true_eq] at h2
  exact ⟨prime_by h1 (by omega), by omega, by omega⟩

set_option maxRecDepth 10000 in
theorem k9a {p R G K h : Int} (hf : FindI p R G K h) : PureC Tryz.prog 9 [.int .i64 p] (fun r => r = .tup [grp R p G, grp R p G]) := by
  refine pureC_of_wp .x mixed ok9 rfl ?_
  unfold c9
  dsimp only [argE]
  have hk := k41 hf
  clear hf
  refine W.go ?_
  refine W.cl hk ?_
  refine W.go ?_
  rfl
set_option maxRecDepth 10000 in
theorem k9b {p q R G K h : Int} (b0 : -2^63 ≤ p) (b1 : p < 2^63) (hp : p < 3 ∨ 65521 < p ∨ ¬ PrimeI p) (hq : pr12[(p % 18446744073709551616 % 12).toNat]? = some q) (hf : FindI q R G K h) : PureC Tryz.prog 9 [.int .i64 p] (fun r => r = .tup [grp R q G, grp R q G]) := by
  refine pureC_of_wp .x mixed ok9 rfl ?_
  unfold c9
  dsimp only [argE]
  have hk := k41 hf
  have hk2 := k41f b0 b1 hp
  have hq2 : ∀ hh, (pr12.map (V.int .i64))[(p % 18446744073709551616 % 12).toNat]'hh = V.int .i64 q := fun hh => by
    rw [List.getElem_map]
    congr 1
    rw [List.getElem?_eq_some_iff] at hq
    exact hq.2
  simp only [pr12, List.map_cons, List.map_nil] at hq2
  clear hq hf hp b0 b1
  refine W.go ?_
  refine W.cl hk2 ?_
  refine W.go ?_
  rw [hq2 (by show _ < 12; omega)]
  refine W.cl hk ?_
  refine W.go ?_
  rfl
end Go.Dp
