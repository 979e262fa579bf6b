/- For each prime up to 65521 a prime that is one above a multiple of it. -/
import Derived.Attr
import Derived.Test.YtkadcajmlkmhjabGreatDsM1
namespace Go.Dp
open Go.RowKit
set_option linter.unusedVariables false
set_option maxRecDepth 100000
/-- the product of the primes up to 2400 -/
def bigF : Nat := 1040601409259347307201936192180013345347014657661481674909487127315775177503686880595638769067372563846598523942614636734666037394466736676767376766772139444337953182801020212046966620754733944587196386019851684172289789627555144798861708096993281159898282109788034252065451039548249911401392971342809618092235359486014133921255952208769369326059161391345853896057953327303951645891358009787224205830067606822995116270397694458349180567630356146159825702427322054544754752754643486383201441571621226189433643636788627570547402217021626496647400260019158925499454072818271438715426626884035250801465758628560172400953007098778663686277758908419723113336323466371153156574391356591854054281766436978319094161405317079333099385962088492365133502000941014098715125563854871855500551871219889003233247883877324310209562899035485814140712376812035246617104641761442462284922470358869360011682234793183229828225786244178097999620255401943164707395024489228228900406344989958533052173810516162207566524127683064434870800810263983510
/-- the product of the primes up to 255, one left out -/
def smallF : Nat := 1212572281469974431553408211851070062469437482860551096495184126054682082412843455708022655532724910
/-- no number from d on, n of them, is free of divisors in common -/
noncomputable def cvO (n : Nat) : Nat → Bool :=
  Nat.rec (fun _ => true) (fun _ ih d => bif Nat.beq (Nat.gcd d bigF) 1 then false else ih (Nat.add d 1)) n
/-- a number of the row r, r + 2 p, .. that has no divisor in common with the product -/
noncomputable def fnO (p n : Nat) : Nat → Bool :=
  Nat.rec (fun _ => false) (fun _ ih r => bif Nat.beq (Nat.gcd r bigF) 1 then Nat.ble r 5764800 else ih (Nat.add r (Nat.add p p))) n
/-- a divisor, or such a number -/
def okG (g p : Nat) (b : Bool) : Bool := bif (bif Nat.ble 2 g then Nat.blt g p else false) then true else b
noncomputable def okO (p : Nat) : Bool := okG (Nat.gcd p smallF) p (fnO p 2000 (Nat.add (Nat.add p p) 1))
noncomputable def chO (n : Nat) : Nat → Bool :=
  Nat.rec (fun _ => true) (fun _ ih p => bif okO p then ih (Nat.add p 2) else false) n
theorem cv_all : cvO 2399 2 = true := by kernel_rfl
theorem ch1 : chO 8192 3 = true := by kernel_rfl
theorem ch2 : chO 8192 16387 = true := by kernel_rfl
theorem ch3 : chO 8192 32771 = true := by kernel_rfl
theorem ch4 : chO 8184 49155 = true := by kernel_rfl

theorem cvO_of : ∀ n d, cvO n d = true → ∀ e, d ≤ e → e < d + n → Nat.gcd e bigF ≠ 1
  | 0, d, _, e, h1, h2 => by omega
  | n + 1, d, h, e, h1, h2 => by
    have h' : (bif Nat.beq (Nat.gcd d bigF) 1 then false else cvO n (d + 1)) = true := h
    cases hb : Nat.beq (Nat.gcd d bigF) 1
    · rw [hb] at h'
      by_cases he : e = d
      · subst he; intro hc; rw [hc] at hb; cases hb
      · exact cvO_of n (d + 1) h' e (by omega) (by omega)
    · rw [hb] at h'; cases h'
theorem fnO_of : ∀ p n r, fnO p n r = true → ∃ j, Nat.gcd (r + j * (p + p)) bigF = 1 ∧ r + j * (p + p) ≤ 5764800
  | p, 0, r, h => by cases (show false = true from h)
  | p, n + 1, r, h => by
    have h' : (bif Nat.beq (Nat.gcd r bigF) 1 then Nat.ble r 5764800 else fnO p n (r + (p + p))) = true := h
    cases hb : Nat.beq (Nat.gcd r bigF) 1
    · rw [hb] at h'
      obtain ⟨j, h1, h2⟩ := fnO_of p n _ h'
      exact ⟨j + 1, by rw [Nat.add_mul, Nat.one_mul, Nat.add_comm (j * _), ← Nat.add_assoc]; exact h1, by rw [Nat.add_mul, Nat.one_mul, Nat.add_comm (j * _), ← Nat.add_assoc]; exact h2⟩
    · rw [hb] at h'
      exact ⟨0, by rw [Nat.zero_mul, Nat.add_zero]; exact Nat.eq_of_beq_eq_true hb, by rw [Nat.zero_mul, Nat.add_zero]; exact Nat.le_of_ble_eq_true h'⟩
theorem chO_of : ∀ n p, chO n p = true → ∀ i, i < n → okO (p + 2 * i) = true
  | 0, p, _, i, hi => by omega
  | n + 1, p, h, i, hi => by
    have h' : (bif okO p then chO n (p + 2) else false) = true := h
    cases hb : okO p
    · rw [hb] at h'; cases h'
    · rw [hb] at h'
      cases i with
      | zero => exact hb
      | succ i =>
        have := chO_of n (p + 2) h' i (by omega)
        rwa [show p + 2 * (i + 1) = p + 2 + 2 * i by omega]
theorem okG_of {g p : Nat} {b : Bool} (h : okG g p b = true) : (2 ≤ g ∧ g < p) ∨ b = true := by
  unfold okG at h
  cases hc : Nat.ble 2 g
  · rw [hc] at h; simp only [cond_false] at h; exact .inr h
  · rw [hc] at h
    simp only [cond_true] at h
    cases hd : Nat.blt g p
    · rw [hd] at h; simp only [cond_false] at h; exact .inr h
    · exact .inl ⟨Nat.le_of_ble_eq_true hc, Nat.le_of_ble_eq_true hd⟩
theorem okO_of {p : Nat} (h : okO p = true) : ∃ g, g = Nat.gcd p smallF ∧ ((2 ≤ g ∧ g < p) ∨ fnO p 2000 (Nat.add (Nat.add p p) 1) = true) := ⟨_, rfl, okG_of h⟩
theorem okO_all {p : Nat} (h1 : 3 ≤ p) (h2 : p ≤ 65521) (h3 : p % 2 = 1) : okO p = true := by
  by_cases a1 : p < 16387
  · have := chO_of _ _ ch1 ((p - 3) / 2) (by omega); rwa [show 3 + 2 * ((p - 3) / 2) = p by omega] at this
  by_cases a2 : p < 32771
  · have := chO_of _ _ ch2 ((p - 16387) / 2) (by omega); rwa [show 16387 + 2 * ((p - 16387) / 2) = p by omega] at this
  by_cases a3 : p < 49155
  · have := chO_of _ _ ch3 ((p - 32771) / 2) (by omega); rwa [show 32771 + 2 * ((p - 32771) / 2) = p by omega] at this
  · have := chO_of _ _ ch4 ((p - 49155) / 2) (by omega); rwa [show 49155 + 2 * ((p - 49155) / 2) = p by omega] at this

theorem prime_gcd {r : Nat} (h1 : 1 < r) (h2 : r ≤ 5764800) (hg : Nat.gcd r bigF = 1) : PrimeI (r : Int) := by
  refine ⟨by omega, fun d hd1 hd2 hz => ?_⟩
  have hd3 : d ≤ 2400 := by
    by_cases h : d ≤ 2400
    · exact h
    · have : (2401 : Int) * 2401 ≤ d * d := Int.mul_le_mul (by omega) (by omega) (by omega) (by omega)
      omega
  obtain ⟨e, rfl⟩ : ∃ e : Nat, d = e := ⟨d.toNat, by omega⟩
  have hdv : e ∣ r := Int.natCast_dvd_natCast.1 (Int.dvd_of_emod_eq_zero hz)
  have h3 : Nat.gcd e bigF ∣ Nat.gcd r bigF := Nat.gcd_dvd_gcd_of_dvd_left _ hdv
  rw [hg] at h3
  exact cvO_of _ _ cv_all e (by omega) (by omega) (Nat.dvd_one.1 h3)

/-- a prime one above a multiple -/
theorem above_ex {p : Int} (h : PrimeI p) (h1 : 3 ≤ p) (h2 : p ≤ 65521) : ∃ K : Nat, PrimeI (p + 1 + K * p) ∧ p + 1 + K * p ≤ 5764800 := by
  obtain ⟨q, rfl⟩ : ∃ q : Nat, p = q := ⟨p.toNat, by omega⟩
  have hodd : q % 2 = 1 := by
    by_cases h4 : (4 : Int) ≤ q
    · have := h.2 2 (by omega) (by omega); omega
    · omega
  have hok := okO_all (p := q) (by omega) (by omega) hodd
  have hf : fnO q 2000 (Nat.add (Nat.add q q) 1) = true := by
    obtain ⟨g, hg, ⟨hl2, hl⟩ | hf⟩ := okO_of hok
    · exfalso
      have hdv : (g : Int) ∣ (q : Int) := Int.natCast_dvd_natCast.2 (by rw [hg]; exact Nat.gcd_dvd_left _ _)
      clear hg
      rcases h.dvd hdv (by omega) with e | e <;> omega
    · exact hf
  obtain ⟨j, hj1, hj2⟩ := fnO_of _ _ _ hf
  rw [show Nat.add (Nat.add q q) 1 = q + q + 1 from rfl] at hj1 hj2
  have hp := prime_gcd (by omega) hj2 hj1
  have e : ((q + q + 1 + j * (q + q) : Nat) : Int) = (q : Int) + 1 + ((1 + 2 * j : Nat) : Int) * q := by
    simp only [Int.natCast_add, Int.natCast_mul, Int.natCast_one, Int.add_mul, Int.mul_add, Int.one_mul]
    have : ((2 : Nat) : Int) * (j : Int) * (q : Int) = (j : Int) * q + (j : Int) * q := by
      rw [Int.mul_assoc]; omega
    rw [this]; omega
  rw [e] at hp
  exact ⟨1 + 2 * j, hp, by rw [← e]; omega⟩
end Go.Dp
