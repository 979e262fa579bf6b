/- Polynomials modulo a prime: values, sums, coefficients by roots, interpolation. -/
import Derived.Test.YtkadcajmlkmhjabGreatDsM1
namespace Go.Dp
open Go.RowKit
set_option linter.unusedVariables false

theorem pow_emod (a m : Int) (k : Nat) : (a % m) ^ k % m = a ^ k % m := by
  induction k with
  | zero => simp
  | succ k ih => rw [Int.pow_succ, Int.pow_succ, Int.mul_emod, ih, Int.emod_emod, ← Int.mul_emod]

/-- a polynomial at a place, modulo -/
def valM (P x : Int) : List Int → Int
  | [] => 0
  | c :: l => (valM P x l * (x % P) % P + c) % P
theorem valM_ev {P x : Int} : ∀ l : List Int, valM P x l = evI l x % P
  | [] => by simp [valM, evI]
  | c :: l => by
    show (valM P x l * (x % P) % P + c) % P = (c + x * evI l x) % P
    rw [valM_ev l, ← Int.mul_emod, Int.emod_add_emod, Int.add_comm, Int.mul_comm]
theorem valM_rng {P x : Int} (hP : 0 < P) (l : List Int) : 0 ≤ valM P x l ∧ valM P x l < P := by
  rw [valM_ev]; exact ⟨Int.emod_nonneg _ (by omega), Int.emod_lt_of_pos _ hP⟩

/-- coefficient by coefficient -/
def addM (P : Int) : List Int → List Int → List Int
  | a :: l, b :: m => (a + b) % P :: addM P l m
  | _, _ => []
theorem addM_len {P : Int} : ∀ {l m : List Int}, l.length = m.length → (addM P l m).length = l.length
  | [], [], _ => rfl
  | a :: l, b :: m, h => by simp [addM, addM_len (l := l) (m := m) (by simpa using h)]
theorem addM_get {P : Int} : ∀ {l m : List Int} {i : Nat} (h : l.length = m.length) (hi : i < l.length), (addM P l m)[i]? = some ((l[i] + m[i]'(by omega)) % P)
  | a :: l, b :: m, 0, h, hi => rfl
  | a :: l, b :: m, i + 1, h, hi => by
    simp only [addM, List.getElem?_cons_succ, List.getElem_cons_succ]
    exact addM_get (by simpa using h) (by simpa using hi)
theorem ev_addM {P x : Int} : ∀ {l m : List Int}, l.length = m.length → evI (addM P l m) x % P = (evI l x + evI m x) % P
  | [], [], _ => rfl
  | a :: l, b :: m, h => by
    have ih := ev_addM (P := P) (x := x) (l := l) (m := m) (by simpa using h)
    show ((a + b) % P + x * evI (addM P l m) x) % P = _
    rw [Int.emod_add_emod, Int.add_emod, Int.mul_emod, ih, ← Int.mul_emod, ← Int.add_emod]
    show _ = (a + x * evI l x + (b + x * evI m x)) % P
    rw [Int.mul_add]; congr 1; omega
theorem valM_add {P x : Int} {l m : List Int} (h : l.length = m.length) : valM P x (addM P l m) = (valM P x l + valM P x m) % P := by
  rw [valM_ev, valM_ev, valM_ev, ev_addM h, ← Int.add_emod]

/-! as many roots as coefficients: all coefficients are nothing -/
theorem quoI_back {R a : Int} : ∀ l : List Int, R ∣ evI l a → (∀ c ∈ quoI a l, R ∣ c) → ∀ c ∈ l, R ∣ c
  | [], _, _, c, h => by cases h
  | [b], h, _, c, hc => by
    have : c = b := by simpa using hc
    subst this; simpa [evI] using h
  | b :: d :: m, h, hq, c, hc => by
    have h1 : R ∣ evI (d :: m) a := hq _ (by simp [quoI])
    have h2 : ∀ c ∈ quoI a (d :: m), R ∣ c := fun c hc => hq c (by simp [quoI, hc])
    rcases List.mem_cons.1 hc with rfl | hc
    · have h3 : R ∣ c + a * evI (d :: m) a := h
      have h4 : R ∣ a * evI (d :: m) a := Int.dvd_mul_of_dvd_right h1
      have := Int.dvd_sub h3 h4
      rwa [Int.add_sub_cancel] at this
    · exact quoI_back (d :: m) h1 h2 c hc
theorem roots_coef {R : Int} (h : PrimeI R) : ∀ (as l : List Int), l.length ≤ as.length → as.Pairwise (fun a b => ¬ R ∣ b - a) → (∀ a ∈ as, R ∣ evI l a) → ∀ c ∈ l, R ∣ c
  | [], l, hl, _, _, c, hc => by
    have : l = [] := List.length_eq_zero_iff.1 (by simpa using hl)
    subst this; cases hc
  | a :: as, l, hl, hp, hr, c, hc => by
    have hp' := List.pairwise_cons.1 hp
    have h0 := hr a (by simp)
    have hq : ∀ b ∈ as, R ∣ evI (quoI a l) b := fun b hb => by
      have h1 := hr b (List.mem_cons_of_mem _ hb)
      have h2 : R ∣ (b - a) * evI (quoI a l) b := by
        rw [← quoI_ev]; exact Int.dvd_sub h1 h0
      rcases h.mul h2 with h3 | h3
      · exact absurd h3 (hp'.1 b hb)
      · exact h3
    exact quoI_back l h0 (roots_coef h as (quoI a l) (by rw [quoI_len]; simp at hl; omega) hp'.2 hq) c hc

/-- the difference of two polynomials -/
def subI : List Int → List Int → List Int
  | [], m => m.map fun b => -b
  | l, [] => l
  | a :: l, b :: m => (a - b) :: subI l m
theorem evI_neg (x : Int) : ∀ m : List Int, evI (m.map fun b => -b) x = - evI m x
  | [] => rfl
  | b :: m => by
    show -b + x * evI (m.map fun b => -b) x = -(b + x * evI m x)
    rw [evI_neg x m, Int.mul_neg, Int.neg_add]
theorem evI_sub (x : Int) : ∀ l m : List Int, evI (subI l m) x = evI l x - evI m x
  | [], m => by simp [subI, evI_neg, evI]
  | a :: l, [] => by simp [subI, evI]
  | a :: l, b :: m => by
    show (a - b) + x * evI (subI l m) x = a + x * evI l x - (b + x * evI m x)
    rw [evI_sub x l m, Int.mul_sub]; omega
theorem subI_len : ∀ l m : List Int, (subI l m).length = max l.length m.length
  | [], m => by simp [subI]
  | a :: l, [] => by simp [subI]
  | a :: l, b :: m => by simp [subI, subI_len l m]
theorem subI_get : ∀ {l m : List Int} {i : Nat} (hl : i < l.length) (hm : i < m.length), (l[i] - m[i]) ∈ subI l m
  | a :: l, b :: m, 0, _, _ => by simp [subI]
  | a :: l, b :: m, i + 1, hl, hm => by
    simp only [subI, List.getElem_cons_succ]
    exact List.mem_cons_of_mem _ (subI_get (by simpa using hl) (by simpa using hm))
/-- two polynomials that agree at as many places as they have coefficients -/
theorem poly_uniq {R : Int} (h : PrimeI R) {as l m : List Int} (hl : l.length ≤ as.length) (hm : m.length = l.length) (hp : as.Pairwise (fun a b => ¬ R ∣ b - a)) (ha : ∀ a ∈ as, evI l a % R = evI m a % R)
    (rl : ∀ c ∈ l, 0 ≤ c ∧ c < R) (rm : ∀ c ∈ m, 0 ≤ c ∧ c < R) : l = m := by
  have h1 := roots_coef h as (subI l m) (by rw [subI_len]; omega) hp (fun a hA => by rw [evI_sub]; exact dvd_sub_of_emod (ha a hA))
  refine List.ext_getElem hm.symm fun i hi hi2 => ?_
  have h2 := emod_of_dvd_sub (h1 _ (subI_get hi hi2))
  have h3 := rl _ (List.getElem_mem hi)
  have h4 := rm _ (List.getElem_mem hi2)
  rwa [Int.emod_eq_of_lt h3.1 h3.2, Int.emod_eq_of_lt h4.1 h4.2] at h2

/-! sums and products of polynomials -/
def padd : List Int → List Int → List Int
  | [], m => m
  | l, [] => l
  | a :: l, b :: m => (a + b) :: padd l m
theorem evI_padd (x : Int) : ∀ l m : List Int, evI (padd l m) x = evI l x + evI m x
  | [], m => by simp [padd, evI]
  | a :: l, [] => by simp [padd, evI]
  | a :: l, b :: m => by
    show (a + b) + x * evI (padd l m) x = a + x * evI l x + (b + x * evI m x)
    rw [evI_padd x l m, Int.mul_add]; omega
theorem padd_len : ∀ l m : List Int, (padd l m).length = max l.length m.length
  | [], m => by simp [padd]
  | a :: l, [] => by simp [padd]
  | a :: l, b :: m => by simp [padd, padd_len l m]
def pscale (k : Int) (l : List Int) : List Int := l.map fun c => k * c
theorem evI_pscale (k x : Int) : ∀ l : List Int, evI (pscale k l) x = k * evI l x
  | [] => by simp [pscale, evI]
  | c :: l => by
    show k * c + x * evI (pscale k l) x = k * (c + x * evI l x)
    rw [evI_pscale k x l, Int.mul_add, Int.mul_left_comm]
theorem pscale_len (k : Int) (l : List Int) : (pscale k l).length = l.length := by simp [pscale]
/-- times (a - z) -/
def plin (a : Int) (l : List Int) : List Int := padd (pscale a l) (0 :: pscale (-1) l)
theorem evI_plin (a x : Int) (l : List Int) : evI (plin a l) x = (a - x) * evI l x := by
  unfold plin
  rw [evI_padd, evI_pscale]
  show _ + (0 + x * evI (pscale (-1) l) x) = _
  rw [evI_pscale, Int.sub_mul, Int.zero_add, Int.neg_mul, Int.one_mul, Int.mul_neg]; omega
theorem plin_len (a : Int) (l : List Int) : (plin a l).length = l.length + 1 := by
  unfold plin; rw [padd_len]; simp [pscale_len]
/-- the product of (y - z) for all y of a list -/
def pprod : List Int → List Int
  | [] => [1]
  | y :: ys => plin y (pprod ys)
theorem pprod_len : ∀ ys, (pprod ys).length = ys.length + 1
  | [] => rfl
  | y :: ys => by simp [pprod, plin_len, pprod_len ys]
def prodAt (z : Int) : List Int → Int
  | [] => 1
  | y :: ys => (y - z) * prodAt z ys
theorem evI_pprod (z : Int) : ∀ ys, evI (pprod ys) z = prodAt z ys
  | [] => by simp [pprod, evI, prodAt]
  | y :: ys => by simp only [pprod, evI_plin, evI_pprod z ys, prodAt]
theorem prodAt_zero {z : Int} : ∀ {ys : List Int}, z ∈ ys → prodAt z ys = 0
  | y :: ys, h => by
    rcases List.mem_cons.1 h with rfl | h
    · simp [prodAt]
    · simp [prodAt, prodAt_zero h]
theorem prodAt_ndvd {R z : Int} (h : PrimeI R) : ∀ ys : List Int, (∀ y ∈ ys, ¬ R ∣ y - z) → ¬ R ∣ prodAt z ys
  | [], _ => not_dvd_small (by simp [prodAt]) (by simpa [prodAt] using h.1)
  | y :: ys, hn => fun hd => by
    rcases h.mul hd with h1 | h1
    · exact hn y (by simp) h1
    · exact prodAt_ndvd h ys (fun y hy => hn y (List.mem_cons_of_mem _ hy)) h1
/-- all but one -/
def others (x : Int) (xs : List Int) : List Int := xs.filter fun y => decide (y ≠ x)
theorem inv_mul {R c : Int} (h : PrimeI R) (hR : 3 ≤ R) (hc : ¬ R ∣ c) : c * (c ^ (R - 2).toNat % R) % R = 1 := by
  rw [Int.mul_emod, Int.emod_emod, ← Int.mul_emod]
  have e : c * c ^ (R - 2).toNat = c ^ (R - 1).toNat := by
    rw [show (R - 1).toNat = (R - 2).toNat + 1 by omega, Int.pow_succ, Int.mul_comm]
  rw [e]; exact fermat h hc
/-- the sum of Lagrange, as a polynomial: shares 's x' at the places xs -/
def lagP (R : Int) (xs : List Int) (s : Int → Int) : List Int → List Int
  | [] => []
  | x :: l => padd (pscale (s x * (prodAt x (others x xs) ^ (R - 2).toNat % R)) (pprod (others x xs))) (lagP R xs s l)
def lagI (R : Int) (xs : List Int) (s : Int → Int) (z : Int) : List Int → Int
  | [] => 0
  | x :: l => s x * (prodAt x (others x xs) ^ (R - 2).toNat % R) * prodAt z (others x xs) + lagI R xs s z l
theorem evI_lagP {R : Int} {xs : List Int} {s : Int → Int} (z : Int) : ∀ l, evI (lagP R xs s l) z = lagI R xs s z l
  | [] => rfl
  | x :: l => by simp only [lagP, evI_padd, evI_pscale, evI_pprod, evI_lagP z l, lagI]
theorem others_len {x : Int} {xs : List Int} (h : x ∈ xs) : (others x xs).length + 1 ≤ xs.length := by
  have := List.length_filter_lt_length_iff_exists (p := fun y => decide (y ≠ x)) (l := xs)
  have h2 : (others x xs).length < xs.length := this.2 ⟨x, h, by simp⟩
  omega
theorem lagP_len {R : Int} {xs : List Int} {s : Int → Int} : ∀ l, (∀ x ∈ l, x ∈ xs) → (lagP R xs s l).length ≤ xs.length
  | [], _ => by simp [lagP]
  | x :: l, h => by
    simp only [lagP, padd_len, pscale_len, pprod_len]
    have := others_len (h x (by simp))
    have := lagP_len (R := R) (xs := xs) (s := s) l (fun y hy => h y (List.mem_cons_of_mem _ hy))
    omega
theorem mem_others {x y : Int} {xs : List Int} : y ∈ others x xs ↔ y ∈ xs ∧ y ≠ x := by simp [others]
theorem lagI_not {R : Int} {xs : List Int} {s : Int → Int} {z : Int} (hz : z ∈ xs) : ∀ l, z ∉ l → lagI R xs s z l = 0
  | [], _ => rfl
  | x :: l, h => by
    have h1 : z ≠ x ∧ z ∉ l := by simpa using h
    have h2 : prodAt z (others x xs) = 0 := prodAt_zero (mem_others.2 ⟨hz, h1.1⟩)
    simp only [lagI, h2, Int.mul_zero, lagI_not hz l h1.2, Int.add_zero]
theorem lagI_at {R : Int} (h : PrimeI R) (hR : 3 ≤ R) {xs : List Int} {s : Int → Int} {z : Int} (hz : z ∈ xs) (hd : ∀ y ∈ xs, y ≠ z → ¬ R ∣ y - z) : ∀ l, l.Nodup → z ∈ l → lagI R xs s z l % R = s z % R
  | x :: l, hn, hm => by
    rw [List.nodup_cons] at hn
    by_cases hx : z = x
    · subst hx
      simp only [lagI, lagI_not hz l hn.1, Int.add_zero]
      have h1 := prodAt_ndvd h (others z xs) (fun y hy => hd y (mem_others.1 hy).1 (mem_others.1 hy).2)
      have h2 := inv_mul h hR h1
      rw [Int.mul_assoc, Int.mul_emod, Int.mul_comm (_ % R) (prodAt z _), h2, Int.mul_one, Int.emod_emod]
    · have hm2 : z ∈ l := by
        rcases List.mem_cons.1 hm with h1 | h1
        · exact absurd h1 hx
        · exact h1
      have h2 : prodAt z (others x xs) = 0 := prodAt_zero (mem_others.2 ⟨hz, hx⟩)
      simp only [lagI, h2, Int.mul_zero, Int.zero_add]
      exact lagI_at h hR hz hd l hn.2 hm2
/-- Lagrange: what agrees at the places agrees everywhere -/
theorem lagrange {R : Int} (h : PrimeI R) (hR : 3 ≤ R) {xs p : List Int} {s : Int → Int} (hx : ∀ x ∈ xs, 0 ≤ x ∧ x < R) (hn : xs.Nodup) (hp : p.length ≤ xs.length) (hs : ∀ x ∈ xs, s x % R = evI p x % R) (z : Int) : lagI R xs s z xs % R = evI p z % R := by
  have hnd : ∀ a ∈ xs, ∀ b ∈ xs, b ≠ a → ¬ R ∣ b - a := fun a ha b hb hne hd => by
    have h1 := emod_of_dvd_sub hd
    rw [Int.emod_eq_of_lt (hx a ha).1 (hx a ha).2, Int.emod_eq_of_lt (hx b hb).1 (hx b hb).2] at h1
    exact hne h1
  have hpw : xs.Pairwise fun a b => ¬ R ∣ b - a := by
    refine (List.Pairwise.and_mem.1 hn).imp ?_
    rintro a b ⟨ha, hb, hne⟩
    exact hnd a ha b hb (fun e => hne e.symm)
  have h1 := roots_all h xs (subI (lagP R xs s xs) p) (by rw [subI_len]; have := lagP_len (R := R) (s := s) xs (fun x hx => hx); omega) hpw (fun a ha => by
    rw [evI_sub, evI_lagP]
    refine dvd_sub_of_emod ?_
    rw [lagI_at h hR ha (fun y hy hne => hnd a ha y hy hne) xs hn ha, hs a ha]) z
  rw [evI_sub, evI_lagP] at h1
  exact emod_of_dvd_sub h1
end Go.Dp
