import Derived.Test.YtlbjgnkjicifhaaGreatDpCore
import Derived.Attr
/- Primes: divisors, products, the little theorem of Fermat, roots of polynomials. -/
namespace Go.Dp
open Go.RowKit
set_option linter.unusedVariables false

/-- a prime, by divisors -/
def PrimeI (n : Int) : Prop := 1 < n ∧ ∀ d, 2 ≤ d → d * d ≤ n → n % d ≠ 0

theorem PrimeI.dvd {n d : Int} (h : PrimeI n) (hd : d ∣ n) (h0 : 0 < d) : d = 1 ∨ d = n := by
  obtain ⟨e, he⟩ := hd
  have hn := h.1
  have he0 : 0 < e := by
    by_cases h1 : 0 < e
    · exact h1
    · have : d * e ≤ 0 := Int.mul_nonpos_of_nonneg_of_nonpos (by omega) (by omega)
      omega
  by_cases h1 : d = 1
  · exact .inl h1
  by_cases h2 : e = 1
  · subst h2; right; omega
  exfalso
  by_cases h3 : d ≤ e
  · have : d * d ≤ d * e := Int.mul_le_mul_of_nonneg_left h3 (by omega)
    exact h.2 d (by omega) (by omega) (by rw [he]; exact Int.mul_emod_right d e)
  · have : e * e ≤ d * e := Int.mul_le_mul_of_nonneg_right (by omega) (by omega)
    exact h.2 e (by omega) (by omega) (by rw [he]; exact Int.mul_emod_left d e)

theorem PrimeI.mul {R a b : Int} (h : PrimeI R) (hd : R ∣ a * b) : R ∣ a ∨ R ∣ b := by
  have h1 := h.1
  have hg : ((Int.gcd R a : Nat) : Int) ∣ R := Int.gcd_dvd_left R a
  have hg0 : 0 < ((Int.gcd R a : Nat) : Int) := by
    have : Int.gcd R a ≠ 0 := fun e => by
      have := (Int.gcd_eq_zero_iff.1 e).1; omega
    omega
  rcases h.dvd hg hg0 with e | e
  · right
    have hc : Nat.Coprime R.natAbs a.natAbs := by
      have : Int.gcd R a = 1 := by omega
      exact this
    have h2 : R.natAbs ∣ a.natAbs * b.natAbs := by
      rw [← Int.natAbs_mul]; exact Int.natAbs_dvd_natAbs.2 hd
    exact Int.natAbs_dvd_natAbs.1 (hc.dvd_of_dvd_mul_left h2)
  · left
    have := Int.gcd_dvd_right R a
    rwa [e] at this

theorem not_dvd_small {R a : Int} (h0 : 0 < a) (h1 : a < R) : ¬ R ∣ a := fun h => by
  have := Int.le_of_dvd h0 h; omega
theorem emod_of_dvd_sub {R a b : Int} (h : R ∣ a - b) : a % R = b % R := by
  rw [Int.emod_eq_emod_iff_emod_sub_eq_zero]; exact Int.emod_eq_zero_of_dvd h
theorem dvd_sub_of_emod {R a b : Int} (h : a % R = b % R) : R ∣ a - b := by
  rw [Int.emod_eq_emod_iff_emod_sub_eq_zero] at h; exact Int.dvd_of_emod_eq_zero h

/-! lists with the same elements -/
theorem perm_of_sub {M : List Int} : ∀ {L : List Int}, M.Nodup → (∀ x ∈ M, x ∈ L) → L.length ≤ M.length → M.Perm L := by
  induction M with
  | nil => intro L _ _ h; cases L with | nil => exact .refl _ | cons _ _ => simp at h
  | cons x M ih =>
    intro L hn hs hl
    rw [List.nodup_cons] at hn
    have hx : x ∈ L := hs x (by simp)
    have h1 := List.perm_cons_erase hx
    have h2 : (L.erase x).length = L.length - 1 := List.length_erase_of_mem hx
    have h3 : M.Perm (L.erase x) := ih hn.2 (fun y hy => by
      have hne : y ≠ x := fun e => hn.1 (e ▸ hy)
      exact (List.mem_erase_of_ne hne).2 (hs y (List.mem_cons_of_mem _ hy))) (by simp at hl; omega)
    exact (h3.cons x).trans h1.symm

def prodI : List Int → Int
  | [] => 1
  | a :: l => a * prodI l
theorem prodI_perm {M L : List Int} (h : M.Perm L) : prodI M = prodI L := by
  induction h with
  | nil => rfl
  | cons x _ ih => simp only [prodI, ih]
  | swap x y l => simp only [prodI]; rw [← Int.mul_assoc, ← Int.mul_assoc, Int.mul_comm y x]
  | trans _ _ a b => exact a.trans b
theorem prodI_map {a R : Int} (L : List Int) : prodI (L.map fun x => a * x % R) % R = a ^ L.length * prodI L % R := by
  induction L with
  | nil => simp [prodI]
  | cons x l ih =>
    simp only [List.map_cons, prodI, List.length_cons]
    rw [Int.mul_emod, ih, Int.emod_emod, ← Int.mul_emod, Int.pow_succ]
    congr 1
    rw [Int.mul_assoc a x, Int.mul_assoc (a ^ l.length) a, Int.mul_left_comm x, Int.mul_left_comm a]
theorem prodI_not {R : Int} (h : PrimeI R) : ∀ L : List Int, (∀ x ∈ L, ¬ R ∣ x) → ¬ R ∣ prodI L
  | [], _ => by simpa [prodI] using not_dvd_small (R := R) (a := 1) (by omega) h.1
  | a :: l, hl => fun hd => by
    rcases h.mul hd with h1 | h1
    · exact hl a (by simp) h1
    · exact prodI_not h l (fun x hx => hl x (List.mem_cons_of_mem _ hx)) h1

/-- the numbers from 1 to n -/
def upTo : Nat → List Int
  | 0 => []
  | n + 1 => ((n + 1 : Nat) : Int) :: upTo n
theorem upTo_len : ∀ n, (upTo n).length = n
  | 0 => rfl
  | n + 1 => by simp [upTo, upTo_len n]
theorem mem_upTo {x : Int} : ∀ {n : Nat}, x ∈ upTo n ↔ 1 ≤ x ∧ x ≤ n
  | 0 => by simp [upTo]; omega
  | n + 1 => by
    simp only [upTo, List.mem_cons, mem_upTo (n := n)]; omega
theorem upTo_nodup : ∀ n, (upTo n).Nodup
  | 0 => by simp [upTo]
  | n + 1 => by
    simp only [upTo, List.nodup_cons, mem_upTo]
    exact ⟨by omega, upTo_nodup n⟩

theorem fermat {R a : Int} (h : PrimeI R) (ha : ¬ R ∣ a) : a ^ (R - 1).toNat % R = 1 := by
  have h1 := h.1
  have hlen : ((R - 1).toNat : Int) = R - 1 := by omega
  have hL : ∀ x ∈ upTo (R - 1).toNat, ¬ R ∣ x := fun x hx => by
    rw [mem_upTo] at hx; exact not_dvd_small (by omega) (by omega)
  have hp : ((upTo (R - 1).toNat).map fun x => a * x % R).Perm (upTo (R - 1).toNat) := by
    refine perm_of_sub ?_ (fun y hy => ?_) (by simp)
    · rw [List.Nodup, List.pairwise_map]
      refine (List.Pairwise.and_mem.1 (upTo_nodup _)).imp ?_
      rintro x y ⟨hx, hy, hne⟩ e
      rw [mem_upTo] at hx hy
      have hd := dvd_sub_of_emod e
      rw [← Int.mul_sub] at hd
      rcases h.mul hd with h2 | h2
      · exact ha h2
      · obtain ⟨k, hk⟩ := h2
        by_cases h3 : 0 < k
        · have : R * 1 ≤ R * k := Int.mul_le_mul_of_nonneg_left h3 (by omega)
          omega
        · by_cases h4 : k = 0
          · subst h4; omega
          · have : R * k ≤ R * (-1) := Int.mul_le_mul_of_nonneg_left (by omega) (by omega)
            omega
    · obtain ⟨x, hx, rfl⟩ := List.mem_map.1 hy
      rw [mem_upTo]
      have h2 : 0 ≤ a * x % R := Int.emod_nonneg _ (by omega)
      have h3 : a * x % R < R := Int.emod_lt_of_pos _ (by omega)
      have h4 : a * x % R ≠ 0 := fun e => by
        rcases h.mul (Int.dvd_of_emod_eq_zero e) with h5 | h5
        · exact ha h5
        · exact hL x hx h5
      omega
  have h2 := prodI_map (a := a) (R := R) (upTo (R - 1).toNat)
  rw [prodI_perm hp, upTo_len] at h2
  have h3 := dvd_sub_of_emod h2.symm
  have h4 : R ∣ (a ^ (R - 1).toNat - 1) * prodI (upTo (R - 1).toNat) := by
    rw [Int.sub_mul, Int.one_mul]; exact h3
  rcases h.mul h4 with h5 | h5
  · have := emod_of_dvd_sub h5
    rw [this]; exact Int.emod_eq_of_lt (by omega) h1
  · exact absurd h5 (prodI_not h _ hL)

/-! polynomials -/
def evI : List Int → Int → Int
  | [], _ => 0
  | c :: l, x => c + x * evI l x
/-- what is left after a root is taken out -/
def quoI (a : Int) : List Int → List Int
  | [] => []
  | _ :: l => match l with
    | [] => []
    | c :: m => evI (c :: m) a :: quoI a (c :: m)
theorem quoI_len (a : Int) : ∀ l : List Int, (quoI a l).length = l.length - 1
  | [] => rfl
  | [c] => rfl
  | c :: d :: m => by simp [quoI, quoI_len a (d :: m)]
theorem quoI_ev (a x : Int) : ∀ l : List Int, evI l x - evI l a = (x - a) * evI (quoI a l) x
  | [] => by simp [quoI, evI]
  | [c] => by simp [quoI, evI]
  | c :: d :: m => by
    have ih := quoI_ev a x (d :: m)
    have e : evI (d :: m) x = evI (d :: m) a + (x - a) * evI (quoI a (d :: m)) x := by omega
    show c + x * evI (d :: m) x - (c + a * evI (d :: m) a) = (x - a) * (evI (d :: m) a + x * evI (quoI a (d :: m)) x)
    rw [e]
    generalize evI (d :: m) a = A
    generalize evI (quoI a (d :: m)) x = B
    rw [Int.mul_add, Int.mul_add, Int.sub_mul x a A, Int.mul_left_comm x (x - a) B]
    omega
/-- as many roots as coefficients: zero everywhere -/
theorem roots_all {R : Int} (h : PrimeI R) : ∀ (as l : List Int), l.length ≤ as.length → as.Pairwise (fun a b => ¬ R ∣ b - a) → (∀ a ∈ as, R ∣ evI l a) → ∀ x, R ∣ evI l x
  | [], l, hl, _, _, x => by
    have : l = [] := List.length_eq_zero_iff.1 (by simpa using hl)
    subst this; exact Int.dvd_zero _
  | a :: as, l, hl, hp, hr, x => by
    have hp' := List.pairwise_cons.1 hp
    have h0 := hr a (by simp)
    have hq : ∀ b ∈ as, R ∣ evI (quoI a l) b := fun b hb => by
      have h1 := hr b (List.mem_cons_of_mem _ hb)
      have h2 : R ∣ (b - a) * evI (quoI a l) b := by
        rw [← quoI_ev]; exact Int.dvd_sub h1 h0
      rcases h.mul h2 with h3 | h3
      · exact absurd h3 (hp'.1 b hb)
      · exact h3
    have h3 := roots_all h as (quoI a l) (by rw [quoI_len]; simp at hl; omega) hp'.2 hq x
    have h4 : R ∣ evI l x - evI l a := by rw [quoI_ev]; exact Int.dvd_mul_of_dvd_right h3
    have := Int.dvd_add h4 h0
    rwa [Int.sub_add_cancel] at this

/-- a power of x, less one -/
def xk (c : Int) (k : Nat) : List Int := c :: (List.replicate (k - 1) 0 ++ [1])
theorem evI_rep (x : Int) : ∀ n, evI (List.replicate n 0 ++ [1]) x = x ^ n
  | 0 => by simp [evI]
  | n + 1 => by
    rw [List.replicate_succ, List.cons_append]
    show 0 + x * evI (List.replicate n 0 ++ [1]) x = _
    rw [evI_rep x n, Int.pow_succ]
    rw [Int.mul_comm]; omega
theorem evI_xk (c x : Int) {k : Nat} (h : 0 < k) : evI (xk c k) x = c + x ^ k := by
  obtain ⟨k, rfl⟩ : ∃ n, k = n + 1 := ⟨k - 1, by omega⟩
  show c + x * evI (List.replicate k 0 ++ [1]) x = _
  rw [evI_rep, Int.pow_succ, Int.mul_comm]

/-- a number whose k-th power is not one -/
theorem no_root {R : Int} (h : PrimeI R) {k : Nat} (hk : 0 < k) (hk2 : (k : Int) + 1 < R) : ∃ a, 2 ≤ a ∧ a < R ∧ a ^ k % R ≠ 1 := by
  have h1 := h.1
  refine Classical.byContradiction fun hn => ?_
  have ha : ∀ a, 1 ≤ a → a < R → a ^ k % R = 1 := fun a ha1 ha2 => by
    by_cases e : a = 1
    · subst e; rw [Int.one_pow]; exact Int.emod_eq_of_lt (by omega) h1
    · refine Classical.byContradiction fun hc => hn ⟨a, by omega, ha2, hc⟩
  have hr : ∀ a ∈ upTo (k + 1), R ∣ evI (xk (-1) k) a := fun a hm => by
    rw [mem_upTo] at hm
    rw [evI_xk _ _ hk]
    have h2 := ha a hm.1 (by omega)
    have h3 : a ^ k % R = 1 % R := by rw [h2]; exact (Int.emod_eq_of_lt (by omega) h1).symm
    have := dvd_sub_of_emod h3
    rwa [show -1 + a ^ k = a ^ k - 1 by omega]
  have hp : (upTo (k + 1)).Pairwise fun a b => ¬ R ∣ b - a := by
    refine (List.Pairwise.and_mem.1 (upTo_nodup (k + 1))).imp ?_
    rintro x y ⟨hx, hy, hne⟩ ⟨q, hq⟩
    rw [mem_upTo] at hx hy
    by_cases h3 : 0 < q
    · have : R * 1 ≤ R * q := Int.mul_le_mul_of_nonneg_left h3 (by omega)
      omega
    · by_cases h4 : q = 0
      · subst h4; omega
      · have : R * q ≤ R * (-1) := Int.mul_le_mul_of_nonneg_left (by omega) (by omega)
        omega
  have h5 := roots_all h (upTo (k + 1)) (xk (-1) k) (by simp [upTo_len, xk]; omega) hp hr 0
  rw [evI_xk _ _ hk, Int.zero_pow (by omega)] at h5
  have h6 : R ∣ 1 := by
    have := Int.dvd_neg.2 h5
    simpa using this
  exact not_dvd_small (by omega) h1 h6
end Go.Dp

/- Polynomials modulo a prime: values, sums, coefficients by roots, interpolation. -/
namespace Go.Dp
open Go.RowKit
set_option linter.unusedVariables false

theorem pow_emod (a m : Int) (k : Nat) : (a % m) ^ k % m = a ^ k % m := by
  induction k with
  | zero => simp
  | succ k ih => rw [Int.pow_succ, Int.pow_succ, Int.mul_emod, ih, Int.emod_emod, ← Int.mul_emod]

/-- a polynomial at a place, modulo -/
def valM (P x : Int) : List Int → Int
  | [] => 0
  | c :: l => (valM P x l * (x % P) % P + c) % P
theorem valM_ev {P x : Int} : ∀ l : List Int, valM P x l = evI l x % P
  | [] => by simp [valM, evI]
  | c :: l => by
    show (valM P x l * (x % P) % P + c) % P = (c + x * evI l x) % P
    rw [valM_ev l, ← Int.mul_emod, Int.emod_add_emod, Int.add_comm, Int.mul_comm]
theorem valM_rng {P x : Int} (hP : 0 < P) (l : List Int) : 0 ≤ valM P x l ∧ valM P x l < P := by
  rw [valM_ev]; exact ⟨Int.emod_nonneg _ (by omega), Int.emod_lt_of_pos _ hP⟩

def prodAt (z : Int) : List Int → Int
  | [] => 1
  | y :: ys => (y - z) * prodAt z ys
theorem prodAt_zero {z : Int} : ∀ {ys : List Int}, z ∈ ys → prodAt z ys = 0
  | y :: ys, h => by
    rcases List.mem_cons.1 h with rfl | h
    · simp [prodAt]
    · simp [prodAt, prodAt_zero h]
theorem prodAt_ndvd {R z : Int} (h : PrimeI R) : ∀ ys : List Int, (∀ y ∈ ys, ¬ R ∣ y - z) → ¬ R ∣ prodAt z ys
  | [], _ => not_dvd_small (by simp [prodAt]) (by simpa [prodAt] using h.1)
  | y :: ys, hn => fun hd => by
    rcases h.mul hd with h1 | h1
    · exact hn y (by simp) h1
    · exact prodAt_ndvd h ys (fun y hy => hn y (List.mem_cons_of_mem _ hy)) h1
/-- all but one -/
def others (x : Int) (xs : List Int) : List Int := xs.filter fun y => decide (y ≠ x)
theorem inv_mul {R c : Int} (h : PrimeI R) (hR : 3 ≤ R) (hc : ¬ R ∣ c) : c * (c ^ (R - 2).toNat % R) % R = 1 := by
  rw [Int.mul_emod, Int.emod_emod, ← Int.mul_emod]
  have e : c * c ^ (R - 2).toNat = c ^ (R - 1).toNat := by
    rw [show (R - 1).toNat = (R - 2).toNat + 1 by omega, Int.pow_succ, Int.mul_comm]
  rw [e]; exact fermat h hc
end Go.Dp

/- Groups of prime order: powers, commitments. -/
namespace Go.Dp
open Go.RowKit
set_option linter.unusedVariables false

/-- a group's numbers -/
structure GroupI (R P G : Int) : Prop where
  hR : 3 ≤ R ∧ R ≤ 2147483647
  hP : 3 ≤ P ∧ P ≤ 65521
  hd : (R - 1) % P = 0
  hG : 2 ≤ G ∧ G < R
  pR : PrimeI R
  pP : PrimeI P
  one : G ^ P.toNat % R = 1
abbrev grp (R P G : Int) : V := .agg [.int .i64 R, .int .i64 P, .int .i64 G]
/-- what is in the group -/
def hasB (R P x : Int) : Bool := decide (1 ≤ x ∧ x < R) && decide (x ^ P.toNat % R = 1)
theorem hasB_iff {R P x : Int} : hasB R P x = true ↔ (1 ≤ x ∧ x < R) ∧ x ^ P.toNat % R = 1 := by simp [hasB]

/-! commitments -/
/-- what a share is due: as the program takes it -/
def hornR (R : Int) (x : Nat) : List Int → Int
  | [] => 1
  | c :: l => (hornR R x l ^ x % R) * c % R
def comM (R G : Int) (A : List Int) : List Int := A.map fun a => G ^ a.toNat % R
end Go.Dp

/- For each prime up to 65521 a prime that is one above a multiple of it. -/
namespace Go.Dp
open Go.RowKit
set_option linter.unusedVariables false
set_option maxRecDepth 100000
end Go.Dp
