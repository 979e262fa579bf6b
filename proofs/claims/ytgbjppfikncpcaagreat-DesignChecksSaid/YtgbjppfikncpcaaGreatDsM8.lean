import Derived.Test.YtgbjppfikncpcaaGreatDpCore
namespace Go.Dp
open Go.RowKit
set_option linter.unusedVariables false
def PrimeI (n:Int):Prop:=1 < n∧∀ d,2≤d→d * d≤n→n % d≠0
theorem PrimeI.dvd {n d:Int} (h:PrimeI n) (hd:d ∣ n) (h0:0 < d):d = 1∨d = n:=by
 obtain ⟨e,he⟩:=hd
 have hn:=h.1
 have he0:0 < e:=by
  by_cases h1:0 < e
  ·exact h1
  ·have : d * e ≤ 0 := Int.mul_nonpos_of_nonneg_of_nonpos (by omega) (by omega)
   omega
 by_cases h1:d = 1
 ·exact .inl h1
 by_cases h2:e = 1
 ·subst h2;right;omega
 exfalso
 by_cases h3:d≤e
 ·have : d * d ≤ d * e := Int.mul_le_mul_of_nonneg_left h3 (by omega)
  exact h.2 d (by omega) (by omega) (by rw [he];exact Int.mul_emod_right d e)
 ·have : e * e ≤ d * e := Int.mul_le_mul_of_nonneg_right (by omega) (by omega)
  exact h.2 e (by omega) (by omega) (by rw [he];exact Int.mul_emod_left d e)
theorem PrimeI.mul {R a b:Int} (h:PrimeI R) (hd:R ∣ a * b):R ∣ a∨R ∣ b:=by
 have h1:=h.1
 have hg:((Int.gcd R a:Nat):Int) ∣ R:=Int.gcd_dvd_left R a
 have hg0:0 < ((Int.gcd R a:Nat):Int):=by
  have:Int.gcd R a≠0:=fun e=>by
   have:=(Int.gcd_eq_zero_iff.1 e).1;omega
  omega
 rcases h.dvd hg hg0 with e | e
 ·right
  have hc:Nat.Coprime R.natAbs a.natAbs:=by
   have:Int.gcd R a = 1:=by omega
   exact this
  have h2:R.natAbs ∣ a.natAbs * b.natAbs:=by
   rw [← Int.natAbs_mul];exact Int.natAbs_dvd_natAbs.2 hd
  exact Int.natAbs_dvd_natAbs.1 (hc.dvd_of_dvd_mul_left h2)
 ·left
  have:=Int.gcd_dvd_right R a
  rwa [e] at this
def others (x:Int) (xs:List Int):List Int:=xs.filter fun y=>decide (y≠x)
def PrimeN (p:Nat):Prop:=2≤p∧∀ d,d ∣ p→d = 1∨d = p
theorem PrimeN.i {p:Nat} (h:PrimeN p):PrimeI (p:Int):=by
 refine ⟨by have:=h.1;omega,fun d h1 h2 h3=>?_⟩
 obtain ⟨e,rfl⟩:∃ e:Nat,d = e:=⟨d.toNat,by omega⟩
 have hdv:e ∣ p:=Int.natCast_dvd_natCast.1 (Int.dvd_of_emod_eq_zero h3)
 rcases h.2 e hdv with rfl | rfl
 ·omega
 ·have h4 : (2 : Int) * (e : Int) ≤ (e : Int) * e := Int.mul_le_mul_of_nonneg_right h1 (by omega)
  omega
theorem PrimeI.n {p:Nat} (h:PrimeI (p:Int)):PrimeN p:=by
 refine ⟨by have:=h.1;omega,fun d hd=>?_⟩
 have h0:0 < d:=Nat.pos_of_dvd_of_pos hd (by have:=h.1;omega)
 rcases h.dvd (Int.natCast_dvd_natCast.2 hd) (by omega) with e | e
 ·left;omega
 ·right;omega
theorem PrimeN.mul {p a b:Nat} (h:PrimeN p) (hd:p ∣ a * b):p ∣ a∨p ∣ b:=by
 have:(p:Int) ∣ (a:Int) * b:=by rw [← Int.natCast_mul];exact Int.natCast_dvd_natCast.2 hd
 rcases h.i.mul this with h1 | h1
 ·exact .inl (Int.natCast_dvd_natCast.1 h1)
 ·exact .inr (Int.natCast_dvd_natCast.1 h1)
def stripN:Nat→Nat→Nat→Nat
 | 0,n,_=>n
 | f+1,n,p=>if n % p = 0 then stripN f (n / p) p else n
def primesF:Nat→Nat→Nat→List Nat
 | 0,_,n=>if 1 < n then [n] else []
 | f+1,p,n=>if p * p≤n then (if n % p = 0 then p::primesF f (p+1) (stripN n n p) else primesF f (p+1) n) else if 1 < n then [n] else []
theorem div_lt_self2 {n p:Nat} (hn:0 < n) (hp:2≤p):n / p < n:=Nat.div_lt_self hn (by omega)
theorem stripN_ok {p:Nat} (hp:2≤p):∀ (f n:Nat),n≤f→0 < n→∃ e,n = p ^ e * stripN f n p∧¬ p ∣ stripN f n p∧0 < stripN f n p
 | 0,n,h,h0=>by omega
 | f+1,n,h,h0=>by
  unfold stripN
  by_cases hd:n % p = 0
  ·rw [if_pos hd]
   have hdv:p ∣ n:=Nat.dvd_of_mod_eq_zero hd
   have h1:=div_lt_self2 h0 hp
   have h2:0 < n / p:=Nat.div_pos (Nat.le_of_dvd h0 hdv) (by omega)
   obtain ⟨e,a,b,c⟩:=stripN_ok hp f (n / p) (by omega) h2
   refine ⟨e+1,?_,b,c⟩
   have h3:n = p * (n / p):=(Nat.mul_div_cancel' hdv).symm
   rw [Nat.pow_succ,Nat.mul_comm (p ^ e) p,Nat.mul_assoc,← a];exact h3
  ·rw [if_neg hd]
   exact ⟨0,by simp,fun hdv=>hd (Nat.mod_eq_zero_of_dvd hdv),h0⟩
theorem prime_small {n p:Nat} (hn:1 < n) (hp:n < p * p) (h:∀ d,2≤d→d < p→¬ d ∣ n):PrimeN n:=by
 refine ⟨hn,fun d hd=>?_⟩
 obtain ⟨k,hk⟩:=hd
 by_cases h1:d = 1
 ·exact .inl h1
 by_cases h2:k = 1
 ·right;rw [hk,h2,Nat.mul_one]
 exfalso
 have hd0:d≠0:=fun e=>by rw [e] at hk;simp at hk;omega
 have hk0:k≠0:=fun e=>by rw [e] at hk;simp at hk;omega
 by_cases h3:d < p
 ·exact h d (by omega) h3 ⟨k,hk⟩
 ·have h4:k < p:=by
   refine Nat.lt_of_not_le fun h5=>?_
   have:p * p≤d * k:=Nat.mul_le_mul (by omega) h5
   omega
  exact h k (by omega) h4 ⟨d,by rw [hk,Nat.mul_comm]⟩
theorem primesF_ok:∀ (f p n:Nat),2≤p→0 < n→n+2≤f+p→(∀ d,2≤d→d < p→¬ d ∣ n) →
  (∀ q∈primesF f p n,PrimeN q∧q ∣ n∧p≤q)∧(primesF f p n).Nodup∧∀ r,PrimeN r→r ∣ n→r∈primesF f p n
 | 0,p,n,hp,hn,hf,hd=>by
  have h1:n = 1:=by
   refine Classical.byContradiction fun h=>?_
   exact hd n (by omega) (by omega) ⟨1,by simp⟩
  subst h1
  refine ⟨fun q hq=>by simp [primesF] at hq,by simp [primesF],fun r hr hrd=>?_⟩
  have:=Nat.dvd_one.1 hrd;have:=hr.1;omega
 | f+1,p,n,hp,hn,hf,hd=>by
  unfold primesF
  by_cases hs:p * p≤n
  ·rw [if_pos hs]
   by_cases hz:n % p = 0
   ·rw [if_pos hz]
    have hdv:p ∣ n:=Nat.dvd_of_mod_eq_zero hz
    have hpp:PrimeN p:=by
     refine ⟨hp,fun d hdp=>?_⟩
     have h1:0 < d:=Nat.pos_of_dvd_of_pos hdp (by omega)
     have h2:d≤p:=Nat.le_of_dvd (by omega) hdp
     by_cases h3:d = 1
     ·exact .inl h3
     ·right
      refine Classical.byContradiction fun h4=>?_
      exact hd d (by omega) (by omega) (Nat.dvd_trans hdp hdv)
    obtain ⟨e,a,b,c⟩:=stripN_ok hp n n (Nat.le_refl _) hn
    generalize stripN n n p = m at a b c ⊢
    have hm:m ∣ n:=⟨p ^ e,by rw [Nat.mul_comm];exact a⟩
    have hmn:m≤n:=Nat.le_of_dvd hn hm
    obtain ⟨i1, i2, i3⟩ := primesF_ok f (p + 1) m (by omega) c (by omega) (fun d h1 h2 h3 => by
     by_cases h4:d = p
     ·subst h4;exact b h3
     ·exact hd d h1 (by omega) (Nat.dvd_trans h3 hm))
    refine ⟨fun q hq=>?_,?_,fun r hr hrd=>?_⟩
    ·rcases List.mem_cons.1 hq with rfl | hq
     ·exact ⟨hpp,hdv,Nat.le_refl _⟩
     ·obtain ⟨j1,j2,j3⟩:=i1 q hq
      exact ⟨j1,Nat.dvd_trans j2 hm,by omega⟩
    ·rw [List.nodup_cons]
     exact ⟨fun h=>by have:=(i1 p h).2.2;omega,i2⟩
    ·rw [a] at hrd
     rcases hr.mul hrd with h1 | h1
     ·have:∀ k,r ∣ p ^ k→r = p:=by
       intro k
       induction k with
       | zero=>intro h;rw [Nat.pow_zero] at h;have:=Nat.dvd_one.1 h;have:=hr.1;omega
       | succ k ih =>
        intro h
        rw [Nat.pow_succ] at h
        rcases hr.mul h with h2 | h2
        ·exact ih h2
        ·rcases hpp.2 r h2 with h3 | h3
         ·have:=hr.1;omega
         ·exact h3
      rw [this e h1];exact List.mem_cons_self
     ·exact List.mem_cons_of_mem _ (i3 r hr h1)
   ·rw [if_neg hz]
    obtain ⟨i1, i2, i3⟩ := primesF_ok f (p + 1) n (by omega) hn (by omega) (fun d h1 h2 h3 => by
     by_cases h4:d = p
     ·subst h4;exact hz (Nat.mod_eq_zero_of_dvd h3)
     ·exact hd d h1 (by omega) h3)
    exact ⟨fun q hq=>by obtain ⟨j1,j2,j3⟩:=i1 q hq;exact ⟨j1,j2,by omega⟩,i2,i3⟩
  ·rw [if_neg hs]
   by_cases h1:1 < n
   ·rw [if_pos h1]
    have hpn:=prime_small h1 (by omega) hd
    refine ⟨fun q hq=>?_,by simp,fun r hr hrd=>?_⟩
    ·have : q = n := by simpa using hq
     subst this
     exact ⟨hpn,⟨1,by simp⟩,Nat.le_of_not_lt fun h=>hd q (by omega) h ⟨1,by simp⟩⟩
    ·rcases hpn.2 r hrd with h2 | h2
     ·have:=hr.1;omega
     ·rw [h2];simp
   ·rw [if_neg h1]
    have:n = 1:=by omega
    subst this
    refine ⟨fun q hq=>by simp at hq,by simp,fun r hr hrd=>?_⟩
    have:=Nat.dvd_one.1 hrd;have:=hr.1;omega
def primesL (n:Nat):List Nat:=primesF n 2 n
theorem primesL_ok {n:Nat} (hn:0 < n):(∀ q∈primesL n,PrimeN q∧q ∣ n∧2≤q)∧(primesL n).Nodup∧∀ r,PrimeN r→r ∣ n→r∈primesL n :=
 primesF_ok n 2 n (Nat.le_refl _) hn (Nat.le_refl _) (fun d h1 h2=>by omega)
end Go.Dp
