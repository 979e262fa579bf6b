/- Groups of prime order: powers, commitments. -/
import Derived.Test.YtkadcajmlkmhjabGreatDsM3
namespace Go.Dp
open Go.RowKit
set_option linter.unusedVariables false

/-- a group's numbers -/
structure GroupI (R P G : Int) : Prop where
  hR : 3 ≤ R ∧ R ≤ 2147483647
  hP : 3 ≤ P ∧ P ≤ 65521
  hd : (R - 1) % P = 0
  hG : 2 ≤ G ∧ G < R
  pR : PrimeI R
  pP : PrimeI P
  one : G ^ P.toNat % R = 1
abbrev grp (R P G : Int) : V := .agg [.int .i64 R, .int .i64 P, .int .i64 G]
/-- what is in the group -/
def hasB (R P x : Int) : Bool := decide (1 ≤ x ∧ x < R) && decide (x ^ P.toNat % R = 1)
theorem hasB_iff {R P x : Int} : hasB R P x = true ↔ (1 ≤ x ∧ x < R) ∧ x ^ P.toNat % R = 1 := by simp [hasB]

theorem el_mod {R P c : Int} (hR : 3 ≤ R) (h1 : c ^ P.toNat % R = 1) (n : Nat) : c ^ (n % P.toNat) % R = c ^ n % R := by
  have e : n = P.toNat * (n / P.toNat) + n % P.toNat := (Nat.div_add_mod _ _).symm
  have h3 : c ^ (P.toNat * (n / P.toNat)) % R = 1 := by
    rw [Int.pow_mul, ← pow_emod, h1, Int.one_pow]; exact Int.emod_eq_of_lt (by omega) (by omega)
  have h2 : c ^ n % R = c ^ (P.toNat * (n / P.toNat)) * c ^ (n % P.toNat) % R := by rw [← Int.pow_add, ← e]
  rw [h2, Int.mul_emod, h3, Int.one_mul, Int.emod_emod]
theorem el_congr {R P c : Int} (hR : 3 ≤ R) (hP : 3 ≤ P) (h1 : c ^ P.toNat % R = 1) {a b : Int} (ha : 0 ≤ a) (hb : 0 ≤ b) (hab : a % P = b % P) : c ^ a.toNat % R = c ^ b.toNat % R := by
  rw [← el_mod hR h1 a.toNat, ← el_mod hR h1 b.toNat]
  congr 2
  have h1 : ((a.toNat % P.toNat : Nat) : Int) = ((b.toNat % P.toNat : Nat) : Int) := by
    rw [Int.natCast_emod, Int.natCast_emod, Int.toNat_of_nonneg ha, Int.toNat_of_nonneg hb, Int.toNat_of_nonneg (by omega)]; exact hab
  omega
theorem ndvd_pow {R a : Int} (h : PrimeI R) (ha : ¬ R ∣ a) : ∀ n : Nat, ¬ R ∣ a ^ n
  | 0 => by simpa using not_dvd_small (by omega) h.1
  | n + 1 => fun hd => by
    rw [Int.pow_succ] at hd
    rcases h.mul hd with h1 | h1
    · exact ndvd_pow h ha n h1
    · exact ha h1
theorem el_inj0 {R P G : Int} (h : GroupI R P G) {a b : Int} (ha : 0 ≤ a) (hab : a ≤ b) (hb : b < P) (he : G ^ a.toNat % R = G ^ b.toNat % R) : a = b := by
  obtain ⟨hR, hP, hd, hG, pR, pP, one⟩ := h
  refine Classical.byContradiction fun hne => ?_
  have e1 : b.toNat = a.toNat + (b - a).toNat := by omega
  have h1 : R ∣ G ^ a.toNat * (G ^ (b - a).toNat - 1) := by
    rw [Int.mul_sub, Int.mul_one, ← Int.pow_add, ← e1]; exact dvd_sub_of_emod he.symm
  have h2 : R ∣ G ^ (b - a).toNat - 1 := (pR.mul h1).resolve_left (ndvd_pow pR (not_dvd_small (by omega) (by omega)) _)
  have h3 : G ^ (b - a).toNat % R = 1 := by
    rw [emod_of_dvd_sub h2]; exact Int.emod_eq_of_lt (by omega) (by omega)
  have h4 := inv_mul pP hP.1 (not_dvd_small (R := P) (a := b - a) (by omega) (by omega))
  have h5 : 0 ≤ (b - a) ^ (P - 2).toNat % P := Int.emod_nonneg _ (by omega)
  have h6 : G ^ ((b - a) * ((b - a) ^ (P - 2).toNat % P)).toNat % R = G ^ (1 : Int).toNat % R :=
    el_congr hR.1 hP.1 one (Int.mul_nonneg (by omega) h5) (by omega) (by rw [h4]; exact (Int.emod_eq_of_lt (by omega) (by omega)).symm)
  have h7 : ((b - a) * ((b - a) ^ (P - 2).toNat % P)).toNat = (b - a).toNat * ((b - a) ^ (P - 2).toNat % P).toNat := by
    have : (((b - a).toNat * ((b - a) ^ (P - 2).toNat % P).toNat : Nat) : Int) = (b - a) * ((b - a) ^ (P - 2).toNat % P) := by
      rw [Int.natCast_mul, Int.toNat_of_nonneg (by omega), Int.toNat_of_nonneg h5]
    omega
  rw [h7, Int.pow_mul, ← pow_emod, h3, Int.one_pow, Int.emod_eq_of_lt (by omega) (by omega)] at h6
  have h8 : G ^ (1 : Int).toNat = G := by show G ^ 1 = G; rw [Int.pow_succ, Int.pow_zero, Int.one_mul]
  rw [h8, Int.emod_eq_of_lt (by omega) hG.2] at h6
  omega
theorem el_inj {R P G : Int} (h : GroupI R P G) {a b : Int} (ha : 0 ≤ a ∧ a < P) (hb : 0 ≤ b ∧ b < P) (he : G ^ a.toNat % R = G ^ b.toNat % R) : a = b := by
  by_cases hab : a ≤ b
  · exact el_inj0 h ha.1 hab hb.2 he
  · exact (el_inj0 h hb.1 (by omega) ha.2 he.symm).symm
theorem el_add {R P G : Int} (h : GroupI R P G) {a b : Int} (ha : 0 ≤ a) (hb : 0 ≤ b) : G ^ ((a + b) % P).toNat % R = (G ^ a.toNat % R) * (G ^ b.toNat % R) % R := by
  have hR := h.hR
  have hP := h.hP
  rw [← Int.mul_emod, ← Int.pow_add]
  have : a.toNat + b.toNat = (a + b).toNat := by omega
  rw [this]
  exact el_congr hR.1 hP.1 h.one (Int.emod_nonneg _ (by omega)) (by omega) (Int.emod_emod _ _)

/-! commitments -/
/-- what a share is due: as the program takes it -/
def hornR (R : Int) (x : Nat) : List Int → Int
  | [] => 1
  | c :: l => (hornR R x l ^ x % R) * c % R
def mP (x : Nat) : List Int → Int
  | [] => 1
  | c :: l => c * mP x l ^ x
theorem hornR_mP {R : Int} (hR : 3 ≤ R) {x : Nat} : ∀ l, hornR R x l = mP x l % R
  | [] => (Int.emod_eq_of_lt (by omega) (by omega) : (1 : Int) % R = 1).symm
  | c :: l => by
    show (hornR R x l ^ x % R) * c % R = c * mP x l ^ x % R
    rw [hornR_mP hR l, pow_emod, Int.mul_emod, Int.emod_emod, ← Int.mul_emod, Int.mul_comm]
/-- as the reference takes it -/
def refQ (R P x : Int) : Int → Int → List Int → Int
  | acc, _, [] => acc
  | acc, at', c :: l => refQ R P x (acc * (c ^ at'.toNat % R) % R) (at' * x % P) l
def mQ (x : Nat) : Nat → List Int → Int
  | _, [] => 1
  | e, c :: l => c ^ e * mQ x (e * x) l
theorem mQ_mP {x : Nat} : ∀ (l : List Int) (e : Nat), mQ x e l = mP x l ^ e
  | [], e => (Int.one_pow).symm
  | c :: l, e => by
    show c ^ e * mQ x (e * x) l = (c * mP x l ^ x) ^ e
    rw [mQ_mP l, Int.mul_pow, ← Int.pow_mul, Nat.mul_comm]
theorem refQ_mQ {R P x : Int} (hR : 3 ≤ R) (hP : 3 ≤ P) (hx : 0 ≤ x) : ∀ (l : List Int) (acc at' : Int) (e : Nat), (∀ c ∈ l, c ^ P.toNat % R = 1) → 0 ≤ acc → acc < R → 0 ≤ at' → at' % P = (e : Int) % P → refQ R P x acc at' l = acc * mQ x.toNat e l % R
  | [], acc, at', e, _, h0, h1, _, _ => by show acc = acc * 1 % R; rw [Int.mul_one, Int.emod_eq_of_lt h0 h1]
  | c :: l, acc, at', e, hc, h0, h1, h2, h3 => by
    show refQ R P x (acc * (c ^ at'.toNat % R) % R) (at' * x % P) l = acc * (c ^ e * mQ x.toNat (e * x.toNat) l) % R
    have h4 : c ^ at'.toNat % R = c ^ e % R := by
      have := el_congr hR hP (hc c (by simp)) h2 (Int.natCast_nonneg e) h3
      rwa [Int.toNat_natCast] at this
    rw [refQ_mQ hR hP hx l _ _ (e * x.toNat) (fun c' hc' => hc c' (List.mem_cons_of_mem _ hc')) (Int.emod_nonneg _ (by omega)) (Int.emod_lt_of_pos _ (by omega)) (Int.emod_nonneg _ (by omega))
      (by rw [Int.emod_emod, Int.natCast_mul, Int.toNat_of_nonneg hx, Int.mul_emod, h3, ← Int.mul_emod])]
    rw [h4, Int.mul_emod, Int.emod_emod, ← Int.mul_emod, ← Int.mul_assoc, Int.mul_emod (acc * (c ^ e % R)), Int.mul_emod acc, Int.emod_emod, ← Int.mul_emod acc, ← Int.mul_emod]
theorem due_eq {R P x : Int} (hR : 3 ≤ R) (hP : 3 ≤ P) (hx : 0 ≤ x) {l : List Int} (hl : ∀ c ∈ l, c ^ P.toNat % R = 1) : refQ R P x 1 1 l = hornR R x.toNat l := by
  rw [refQ_mQ hR hP hx l 1 1 1 hl (by omega) (by omega) (by omega) rfl, hornR_mP hR, mQ_mP, Int.one_mul, Int.pow_succ, Int.pow_zero, Int.one_mul]

def comM (R G : Int) (A : List Int) : List Int := A.map fun a => G ^ a.toNat % R
theorem evI_nonneg {x : Int} (hx : 0 ≤ x) : ∀ {A : List Int}, (∀ a ∈ A, 0 ≤ a) → 0 ≤ evI A x
  | [], _ => by simp [evI]
  | a :: A, h => by
    show 0 ≤ a + x * evI A x
    have h1 := h a (by simp)
    have h2 := Int.mul_nonneg hx (evI_nonneg hx (A := A) fun b hb => h b (List.mem_cons_of_mem _ hb))
    omega
theorem due_com {R P G x : Int} (h : GroupI R P G) (hx : 0 ≤ x) : ∀ {A : List Int}, (∀ a ∈ A, 0 ≤ a) → hornR R x.toNat (comM R G A) = G ^ (evI A x).toNat % R
  | [], _ => by
    have hR := h.hR
    show 1 = G ^ (0 : Int).toNat % R
    rw [Int.toNat_zero, Int.pow_zero]; exact (Int.emod_eq_of_lt (by omega) (by omega)).symm
  | a :: A, hA => by
    have h1 := hA a (by simp)
    have h2 := evI_nonneg hx (A := A) fun b hb => hA b (List.mem_cons_of_mem _ hb)
    show (hornR R x.toNat (comM R G A) ^ x.toNat % R) * (G ^ a.toNat % R) % R = G ^ (a + x * evI A x).toNat % R
    rw [due_com h hx (A := A) fun b hb => hA b (List.mem_cons_of_mem _ hb), pow_emod, ← Int.mul_emod, ← Int.pow_mul, ← Int.pow_add]
    congr 2
    have h3 := Int.mul_nonneg hx h2
    have : (((evI A x).toNat * x.toNat : Nat) : Int) = x * evI A x := by
      rw [Int.natCast_mul, Int.toNat_of_nonneg h2, Int.toNat_of_nonneg hx, Int.mul_comm]
    omega
/-- just the share fits -/
theorem fits_iff {R P G x s : Int} (h : GroupI R P G) (hx : 0 ≤ x) {A : List Int} (hA : ∀ a ∈ A, 0 ≤ a) (hs : 0 ≤ s ∧ s < P) : hornR R x.toNat (comM R G A) = G ^ s.toNat % R ↔ s = valM P x A := by
  have hR := h.hR
  have hP := h.hP
  have hv := valM_rng (P := P) (x := x) (by omega) A
  have e1 : hornR R x.toNat (comM R G A) = G ^ (valM P x A).toNat % R := by
    rw [due_com h hx hA]
    exact el_congr hR.1 hP.1 h.one (evI_nonneg hx hA) hv.1 (by rw [valM_ev, Int.emod_emod])
  rw [e1]
  exact ⟨fun e => (el_inj h hv hs e).symm, fun e => by rw [e]⟩
theorem hasB_pow {R P G : Int} (h : GroupI R P G) (n : Int) : hasB R P (G ^ n.toNat % R) = true := by
  have hR := h.hR
  have h1 : (G ^ n.toNat % R) ^ P.toNat % R = 1 := by
    rw [pow_emod, ← Int.pow_mul, Nat.mul_comm, Int.pow_mul, ← pow_emod, h.one, Int.one_pow]
    exact Int.emod_eq_of_lt (by omega) (by omega)
  have h2 : 0 ≤ G ^ n.toNat % R := Int.emod_nonneg _ (by omega)
  have h3 : G ^ n.toNat % R < R := Int.emod_lt_of_pos _ (by omega)
  have h4 : G ^ n.toNat % R ≠ 0 := fun e => by
    rw [e, Int.zero_pow (by have := h.hP; omega)] at h1; simp at h1
  simp only [hasB, Bool.and_eq_true, decide_eq_true_eq]
  exact ⟨by omega, h1⟩
end Go.Dp
