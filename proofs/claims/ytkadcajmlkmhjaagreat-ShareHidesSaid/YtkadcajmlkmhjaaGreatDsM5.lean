/- Counting polynomials through a secret and two shares: just one. -/
import Derived.Test.YtkadcajmlkmhjaaGreatDsM3
namespace Go.Dp
open Go.RowKit
set_option linter.unusedVariables false

/-- how many numbers below n hit -/
def cC (hit : Nat → Bool) : Nat → Int
  | 0 => 0
  | n + 1 => cC hit n + if hit n then 1 else 0
def cB (hit : Nat → Nat → Bool) (P : Nat) : Nat → Int
  | 0 => 0
  | m + 1 => cB hit P m + cC (hit m) P
theorem cC_rng (hit : Nat → Bool) : ∀ n, 0 ≤ cC hit n ∧ cC hit n ≤ n
  | 0 => by simp [cC]
  | n + 1 => by
    have := cC_rng hit n
    simp only [cC]; split <;> omega
theorem cC_none {hit : Nat → Bool} : ∀ n, (∀ i, i < n → hit i = false) → cC hit n = 0
  | 0, _ => rfl
  | n + 1, h => by
    simp only [cC, cC_none n (fun i hi => h i (by omega)), h n (by omega)]; rfl
theorem cC_one {hit : Nat → Bool} {c : Nat} : ∀ n, c < n → (∀ i, i < n → hit i = decide (i = c)) → cC hit n = 1
  | n + 1, hc, h => by
    simp only [cC]
    by_cases hcn : c = n
    · rw [cC_none n (fun i hi => by rw [h i (by omega)]; simp; omega), h n (by omega)]; simp [hcn]
    · rw [cC_one n (by omega) (fun i hi => h i (by omega)), h n (by omega)]
      have : ¬ n = c := by omega
      simp [this]
theorem cB_rng (hit : Nat → Nat → Bool) (P : Nat) : ∀ n, 0 ≤ cB hit P n ∧ cB hit P n ≤ P * n
  | 0 => by simp [cB]
  | n + 1 => by
    have := cB_rng hit P n
    have h2 := cC_rng (hit n) P
    simp only [cB]
    have : ((P * (n + 1) : Nat) : Int) = P * n + P := by rw [Nat.mul_add]; simp
    omega
theorem cB_none {hit : Nat → Nat → Bool} {P : Nat} : ∀ n, (∀ i, i < n → ∀ j, j < P → hit i j = false) → cB hit P n = 0
  | 0, _ => rfl
  | n + 1, h => by
    simp only [cB, cB_none n (fun i hi => h i (by omega)), cC_none P (h n (by omega))]; rfl
theorem cB_one {hit : Nat → Nat → Bool} {P b c : Nat} (hc : c < P) : ∀ n, b < n → (∀ i, i < n → ∀ j, j < P → hit i j = decide (i = b ∧ j = c)) → cB hit P n = 1
  | n + 1, hb, h => by
    simp only [cB]
    by_cases hbn : b = n
    · rw [cB_none n (fun i hi j hj => by rw [h i (by omega) j hj]; simp; omega), cC_one P hc (fun j hj => by rw [h n (by omega) j hj]; simp [hbn])]; rfl
    · rw [cB_one hc n (by omega) (fun i hi => h i (by omega)), cC_none P (fun j hj => by rw [h n (by omega) j hj]; simp; omega)]; rfl

theorem evI_three {l : List Int} (h : l.length ≤ 3) (z : Int) : evI l z = evI [l.getD 0 0, l.getD 1 0, l.getD 2 0] z := by
  match l, h with
  | [], _ => simp [evI]
  | [a], _ => simp [evI]
  | [a, b], _ => simp [evI]
  | [a, b, c], _ => rfl
theorem evI_mod3 {P a b c z : Int} : evI [a % P, b % P, c % P] z % P = evI [a, b, c] z % P := by
  simp only [evI]
  have h : ∀ u v : Int, (u % P + z * (v)) % P = (u + z * v) % P := fun u v => by rw [Int.emod_add_emod]
  have h2 : ∀ u v : Int, u % P = v % P → (z * u) % P = (z * v) % P := fun u v e => by rw [Int.mul_emod, e, ← Int.mul_emod]
  rw [h a, Int.add_emod, h2 (b % P + z * (c % P + z * 0)) (b + z * (c + z * 0)) (by
    rw [h b, Int.add_emod, h2 (c % P + z * 0) (c + z * 0) (h c 0), ← Int.add_emod]), ← Int.add_emod]

/-- just one polynomial with a secret and two shares -/
theorem one_poly {P : Int} (h : PrimeI P) (hP : 3 ≤ P) {x y s t a : Int} (hx : 1 ≤ x ∧ x < P) (hy : 1 ≤ y ∧ y < P) (hxy : x ≠ y) (hs : 0 ≤ s ∧ s < P) (ht : 0 ≤ t ∧ t < P) (ha : 0 ≤ a ∧ a < P) :
    ∃ b c : Int, (0 ≤ b ∧ b < P) ∧ (0 ≤ c ∧ c < P) ∧ ∀ b' c' : Int, (0 ≤ b' ∧ b' < P) → (0 ≤ c' ∧ c' < P) → ((valM P x [a, b', c'] = s ∧ valM P y [a, b', c'] = t) ↔ (b' = b ∧ c' = c)) := by
  have hnd : ∀ u v : Int, 0 ≤ u ∧ u < P → 0 ≤ v ∧ v < P → v ≠ u → ¬ P ∣ v - u := fun u v hu hv hne hd => by
    have h1 := emod_of_dvd_sub hd
    rw [Int.emod_eq_of_lt hu.1 hu.2, Int.emod_eq_of_lt hv.1 hv.2] at h1
    exact hne h1
  have hxs : ∀ z ∈ [0, x, y], 0 ≤ z ∧ z < P := fun z hz => by
    simp only [List.mem_cons, List.not_mem_nil, or_false] at hz; omega
  have hn : [0, x, y].Nodup := by
    simp only [List.nodup_cons, List.mem_cons, List.not_mem_nil, or_false, not_or, not_false_eq_true, List.nodup_nil, and_true]; omega
  have hpw : [0, x, y].Pairwise fun u v => ¬ P ∣ v - u := by
    refine (List.Pairwise.and_mem.1 hn).imp ?_
    rintro u v ⟨hu, hv, hne⟩
    exact hnd u v (hxs u hu) (hxs v hv) (fun e => hne e.symm)
  let f : Int → Int := fun z => if z = 0 then a else if z = x then s else t
  have hl : (lagP P [0, x, y] f [0, x, y]).length ≤ 3 := lagP_len _ fun z hz => hz
  have hlag : ∀ z ∈ [0, x, y], evI (lagP P [0, x, y] f [0, x, y]) z % P = f z % P := fun z hz => by
    rw [evI_lagP]
    exact lagI_at h hP hz (fun u hu hne => hnd z u (hxs z hz) (hxs u hu) hne) _ hn hz
  generalize lagP P [0, x, y] f [0, x, y] = l at hl hlag
  have he : ∀ z ∈ [0, x, y], evI [l.getD 0 0 % P, l.getD 1 0 % P, l.getD 2 0 % P] z % P = f z % P := fun z hz => by
    rw [evI_mod3, ← evI_three hl]; exact hlag z hz
  have f0 : f 0 = a := if_pos rfl
  have fx : f x = s := by show (if x = 0 then a else if x = x then s else t) = s; rw [if_neg (by omega), if_pos rfl]
  have fy : f y = t := by show (if y = 0 then a else if y = x then s else t) = t; rw [if_neg (by omega), if_neg (by omega)]
  have e0 : l.getD 0 0 % P = a := by
    have := he 0 (by simp)
    rw [f0] at this
    simp only [evI, Int.zero_mul, Int.add_zero, Int.emod_emod] at this
    rw [this]; exact Int.emod_eq_of_lt ha.1 ha.2
  have rg : ∀ u : Int, 0 ≤ u % P ∧ u % P < P := fun u => ⟨Int.emod_nonneg _ (by omega), Int.emod_lt_of_pos _ (by omega)⟩
  refine ⟨l.getD 1 0 % P, l.getD 2 0 % P, rg _, rg _, fun b' c' hb' hc' => ⟨fun ⟨h1, h2⟩ => ?_, ?_⟩⟩
  · have hu := poly_uniq h (as := [0, x, y]) (l := [a, b', c']) (m := [l.getD 0 0 % P, l.getD 1 0 % P, l.getD 2 0 % P]) (by simp) (by simp) hpw (fun z hz => by
      rw [he z hz]
      simp only [List.mem_cons, List.not_mem_nil, or_false] at hz
      rcases hz with rfl | rfl | rfl
      · rw [f0]; simp [evI]
      · rw [fx, ← h1, valM_ev, Int.emod_emod]
      · rw [fy, ← h2, valM_ev, Int.emod_emod]) (fun c hc => by
        simp only [List.mem_cons, List.not_mem_nil, or_false] at hc
        rcases hc with rfl | rfl | rfl
        · exact ha
        · exact hb'
        · exact hc') (fun c hc => by
        simp only [List.mem_cons, List.not_mem_nil, or_false] at hc
        rcases hc with rfl | rfl | rfl
        · exact rg _
        · exact rg _
        · exact rg _)
    simp only [List.cons.injEq, and_true] at hu
    exact hu.2
  · rintro ⟨rfl, rfl⟩
    rw [← e0, valM_ev, valM_ev, he x (by simp), he y (by simp), fx, fy]
    exact ⟨Int.emod_eq_of_lt hs.1 hs.2, Int.emod_eq_of_lt ht.1 ht.2⟩
/-- all counted: one -/
def hitB (P x y s t a : Int) (b c : Nat) : Bool := decide (valM P x [a, (b : Int), (c : Int)] = s ∧ valM P y [a, (b : Int), (c : Int)] = t)
theorem all_one {P : Int} (h : PrimeI P) (hP : 3 ≤ P) {x y s t a : Int} (hx : 1 ≤ x ∧ x < P) (hy : 1 ≤ y ∧ y < P) (hxy : x ≠ y) (hs : 0 ≤ s ∧ s < P) (ht : 0 ≤ t ∧ t < P) (ha : 0 ≤ a ∧ a < P) : cB (hitB P x y s t a) P.toNat P.toNat = 1 := by
  obtain ⟨b, c, hb, hc, hu⟩ := one_poly h hP hx hy hxy hs ht ha
  refine cB_one (b := b.toNat) (c := c.toNat) (by omega) _ (by omega) fun i hi j hj => ?_
  unfold hitB
  have := hu (i : Int) (j : Int) (by omega) (by omega)
  rw [Bool.eq_iff_iff, decide_eq_true_eq, decide_eq_true_eq, this]
  omega
end Go.Dp
