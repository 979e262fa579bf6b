import Derived.Test.YtkadcajmlkmhjabGreatDqL1
namespace Go.Dp
open Go.RowKit Go.Proofs
set_option linter.unusedVariables false

theorem gp {R P G : Int} (h : GroupI R P G) (n : Nat) : G ^ (n % P.toNat) % R = G ^ n % R := by
  have hR := h.hR
  have e : n = P.toNat * (n / P.toNat) + n % P.toNat := (Nat.div_add_mod _ _).symm
  have h1 : G ^ (P.toNat * (n / P.toNat)) % R = 1 := by
    rw [Int.pow_mul, ← pmod, h.one, Int.one_pow]; exact Int.emod_eq_of_lt (by omega) (by omega)
  have h2 : G ^ n % R = G ^ (P.toNat * (n / P.toNat)) * G ^ (n % P.toNat) % R := by rw [← Int.pow_add, ← e]
  rw [h2, Int.mul_emod, h1, Int.one_mul, Int.emod_emod]
theorem gp2 {R P G : Int} (h : GroupI R P G) {a b : Int} (ha : 0 ≤ a) (hb : 0 ≤ b) (hab : a % P = b % P) : G ^ a.toNat % R = G ^ b.toNat % R := by
  have hP := h.hP
  rw [← gp h a.toNat, ← gp h b.toNat]
  congr 2
  have h1 : ((a.toNat % P.toNat : Nat) : Int) = ((b.toNat % P.toNat : Nat) : Int) := by
    rw [Int.natCast_emod, Int.natCast_emod, Int.toNat_of_nonneg ha, Int.toNat_of_nonneg hb, Int.toNat_of_nonneg (by omega)]; exact hab
  omega

/-- an imitation with a proof's answer is the proof -/
theorem imit_prove {R P G : Int} (h : GroupI R P G) {s x c : Int} (hs : 0 ≤ s ∧ s < P) (hx : 0 ≤ x ∧ x < P) (hc : 0 ≤ c ∧ c < P) : imitV R P G (G ^ s.toNat % R) c ((x + c * s) % P) = G ^ x.toNat % R := by
  have hP := h.hP
  have hR := h.hR
  have m0 : 0 ≤ (P - c) % P := Int.emod_nonneg _ (by omega)
  have r0 : 0 ≤ (x + c * s) % P := Int.emod_nonneg _ (by omega)
  have sm0 : 0 ≤ s * ((P - c) % P) := Int.mul_nonneg hs.1 m0
  unfold imitV
  rw [pmod, ← Int.mul_emod, ← Int.pow_mul, ← Int.pow_add]
  have e1 : ((x + c * s) % P).toNat + s.toNat * ((P - c) % P).toNat = ((x + c * s) % P + s * ((P - c) % P)).toNat := by
    have : ((s.toNat * ((P - c) % P).toNat : Nat) : Int) = s * ((P - c) % P) := by
      rw [Int.natCast_mul, Int.toNat_of_nonneg hs.1, Int.toNat_of_nonneg m0]
    omega
  rw [e1]
  refine gp2 h (by omega) hx.1 ?_
  rw [Int.add_emod, Int.emod_emod, emul, ← Int.add_emod, Int.mul_sub]
  rw [show x + c * s + (s * P - s * c) = x + s * P by rw [Int.mul_comm c s]; omega]
  exact Int.add_mul_emod_self_right x s P

/-- a nonce for each answer -/
theorem nonce_ex {P s x c : Int} (hP : 3 ≤ P) (hx : 0 ≤ x ∧ x < P) : (((x - c * s) % P) + c * s) % P = x := by
  rw [Int.emod_add_emod, Int.sub_add_cancel]
  exact Int.emod_eq_of_lt hx.1 hx.2

/-- two proofs tell the secret -/
theorem ext_secret {R P G : Int} (h : GroupI R P G) {s x c d : Int} (hs : 0 ≤ s ∧ s < P) (hc : 0 ≤ c ∧ c < P) (hd : 0 ≤ d ∧ d < P) (hcd : c ≠ d) : extI P c ((x + c * s) % P) d ((x + d * s) % P) = s := by
  have hP := h.hP
  unfold extI
  have hq : ¬ P ∣ (c - d + P) % P := by
    intro hdv
    have h0 : (c - d + P) % P = 0 := by
      have := Int.emod_eq_zero_of_dvd hdv
      rwa [Int.emod_emod] at this
    obtain ⟨k, hk⟩ := Int.dvd_of_emod_eq_zero h0
    have h3 : k = 1 := by
      by_cases h4 : k ≤ 0
      · have : P * k ≤ 0 := Int.mul_nonpos_of_nonneg_of_nonpos (by omega) h4
        omega
      · by_cases h5 : 2 ≤ k
        · have : P * 2 ≤ P * k := Int.mul_le_mul_of_nonneg_left h5 (by omega)
          omega
        · omega
    subst h3; omega
  have hf := fermat h.pP hq
  have e1 : ((x + c * s) % P - (x + d * s) % P + P) % P = (c - d + P) % P * s % P := by
    rw [emul2, Int.add_emod, Int.sub_emod, Int.emod_emod, Int.emod_emod, ← Int.sub_emod, ← Int.add_emod, Int.add_mul, Int.sub_mul]
    rw [show x + c * s - (x + d * s) + P = c * s - d * s + 1 * P by omega, Int.add_mul_emod_self_right, show P * s = s * P by rw [Int.mul_comm], Int.add_mul_emod_self_right]
  rw [e1, emul, emul2, Int.mul_assoc, Int.mul_comm s, ← Int.mul_assoc]
  rw [show (c - d + P) % P * ((c - d + P) % P) ^ (P - 2).toNat = ((c - d + P) % P) ^ (P - 1).toNat by
    rw [Int.mul_comm, ← Int.pow_succ]; congr 1; omega]
  rw [Int.mul_emod, hf, Int.one_mul, Int.emod_emod]
  exact Int.emod_eq_of_lt hs.1 hs.2
end Go.Dp
