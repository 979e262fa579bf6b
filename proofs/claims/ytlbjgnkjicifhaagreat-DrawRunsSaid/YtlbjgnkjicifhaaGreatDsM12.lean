import Derived.Test.YtlbjgnkjicifhaaGreatDsM9
namespace Go.Dp
open Go.RowKit
set_option linter.unusedVariables false
def PrimeN (p:Nat):Prop:=2≤p∧∀ d,d ∣ p→d = 1∨d = p
theorem PrimeN.i {p:Nat} (h:PrimeN p):PrimeI (p:Int):=by
 refine ⟨by have:=h.1;omega,fun d h1 h2 h3=>?_⟩
 obtain ⟨e,rfl⟩:∃ e:Nat,d = e:=⟨d.toNat,by omega⟩
 have hdv:e ∣ p:=Int.natCast_dvd_natCast.1 (Int.dvd_of_emod_eq_zero h3)
 rcases h.2 e hdv with rfl | rfl
 ·omega
 ·have h4 : (2 : Int) * (e : Int) ≤ (e : Int) * e := Int.mul_le_mul_of_nonneg_right h1 (by omega)
  omega
theorem PrimeI.n {p:Nat} (h:PrimeI (p:Int)):PrimeN p:=by
 refine ⟨by have:=h.1;omega,fun d hd=>?_⟩
 have h0:0 < d:=Nat.pos_of_dvd_of_pos hd (by have:=h.1;omega)
 rcases h.dvd (Int.natCast_dvd_natCast.2 hd) (by omega) with e | e
 ·left;omega
 ·right;omega
theorem PrimeN.mul {p a b:Nat} (h:PrimeN p) (hd:p ∣ a * b):p ∣ a∨p ∣ b:=by
 have:(p:Int) ∣ (a:Int) * b:=by rw [← Int.natCast_mul];exact Int.natCast_dvd_natCast.2 hd
 rcases h.i.mul this with h1 | h1
 ·exact .inl (Int.natCast_dvd_natCast.1 h1)
 ·exact .inr (Int.natCast_dvd_natCast.1 h1)
theorem PrimeN.cop {p m:Nat} (h:PrimeN p) (hm:¬ p ∣ m):Nat.Coprime m p:=by
 have h1:Nat.gcd m p ∣ p:=Nat.gcd_dvd_right _ _
 rcases h.2 _ h1 with e | e
 ·exact e
 ·exact absurd (e ▸ Nat.gcd_dvd_left m p) hm
theorem split_prime {p:Nat} (h:PrimeN p):∀ n:Nat,0 < n→∃ e m,n = p ^ e * m∧¬ p ∣ m:=by
 intro n
 induction n using Nat.strongRecOn with
 | _ n ih =>
  intro hn
  by_cases hd:p ∣ n
  ·obtain ⟨k,rfl⟩:=hd
   have hk:0 < k:=Nat.pos_of_ne_zero fun e=>by rw [e] at hn;simp at hn
   have hp:=h.1
   have hlt:k < p * k:=by
    have:2 * k≤p * k:=Nat.mul_le_mul_right k hp
    omega
   obtain ⟨e,m,rfl,hm⟩:=ih k hlt hk
   exact ⟨e+1,m,by rw [Nat.pow_succ,Nat.mul_comm (p ^ e) p,Nat.mul_assoc],hm⟩
  ·exact ⟨0,n,by simp,hd⟩
theorem pow_cop {R u:Int} (hR:1 < R) {a b:Nat} (hab:Nat.Coprime a b) (ha:u ^ a % R = 1) (hb:u ^ b % R = 1):u % R = 1:=by
 have key:∀ (m n:Nat),u ^ m % R = 1→u ^ n % R = 1→u ^ (Nat.gcd m n) % R = 1:=by
  intro m n
  induction m,n using Nat.gcd.induction with
  | H0 n=>intro _ h;rw [Nat.gcd_zero_left];exact h
  | H1 m n hm ih =>
   intro h1 h2
   rw [Nat.gcd_rec]
   refine ih ?_ h1
   have e:n = m * (n / m)+n % m:=(Nat.div_add_mod n m).symm
   have h3:u ^ (m * (n / m)) % R = 1:=by
    rw [Int.pow_mul,← pow_emod,h1,Int.one_pow];exact Int.emod_eq_of_lt (by omega) hR
   rw [e,Int.pow_add,Int.mul_emod,h3,Int.one_mul,Int.emod_emod] at h2
   exact h2
 have:=key a b ha hb
 rw [hab] at this
 rwa [Int.pow_succ,Int.pow_zero,Int.one_mul] at this
theorem one_prime {P:Int} (h:PrimeI P) (hP:3≤P) {p:Nat} (hp:PrimeN p) (hd:p ∣ (P - 1).toNat) :
  ∃ (b:Int) (q m:Nat),(P - 1).toNat = q * m∧¬ p ∣ m∧(∀ r,PrimeN r→r ∣ q→r = p)∧¬ P ∣ b∧b ^ q % P = 1∧b ^ (q / p) % P≠1∧p ∣ q:=by
 have hN:0 < (P - 1).toNat:=by omega
 obtain ⟨k,hk⟩:=hd
 have hk0:0 < k:=Nat.pos_of_ne_zero fun e=>by rw [e] at hk;omega
 have hp2:=hp.1
 have hk1:(k:Int)+1 < P:=by
  have h1:2 * k≤p * k:=Nat.mul_le_mul_right k hp2
  omega
 obtain ⟨a,ha1,ha2,ha3⟩:=no_root h hk0 hk1
 obtain ⟨e,m,hem,hm⟩:=split_prime hp (P - 1).toNat hN
 have he:e≠0:=fun e0=>by
  subst e0
  rw [Nat.pow_zero,Nat.one_mul] at hem
  exact hm (hem ▸ ⟨k,hk⟩)
 have hnd:¬ P ∣ a:=not_dvd_small (by omega) ha2
 have hq:p ^ e / p = p ^ (e - 1):=by
  rw [show e = (e - 1)+1 by omega,Nat.pow_succ,Nat.add_sub_cancel];exact Nat.mul_div_cancel _ (by omega)
 refine ⟨a ^ m % P,p ^ e,m,hem,hm,fun r hr hrd=>?_,?_,?_,?_,?_⟩
 ·have:∀ n,r ∣ p ^ n→r = p:=by
   intro n
   induction n with
   | zero=>intro h1;rw [Nat.pow_zero] at h1;have:=Nat.dvd_one.1 h1;have:=hr.1;omega
   | succ n ih =>
    intro h1
    rw [Nat.pow_succ] at h1
    rcases hr.mul h1 with h2 | h2
    ·exact ih h2
    ·rcases hp.2 r h2 with h3 | h3
     ·have:=hr.1;omega
     ·exact h3
  exact this e hrd
 ·intro hd
  have h1:¬ P ∣ a ^ m:=by
   have:∀ n:Nat,¬ P ∣ a ^ n:=by
    intro n
    induction n with
    | zero=>simpa using not_dvd_small (by omega) h.1
    | succ n ih=>intro hd;rw [Int.pow_succ] at hd;rcases h.mul hd with h2 | h2;exact ih h2;exact hnd h2
   exact this m
  apply h1
  have h2:=Int.emod_eq_zero_of_dvd hd
  rw [Int.emod_emod] at h2
  exact Int.dvd_of_emod_eq_zero h2
 ·rw [pow_emod,← Int.pow_mul,Nat.mul_comm,← hem];exact fermat h hnd
 ·rw [hq,pow_emod,← Int.pow_mul]
  intro hc
  have e1:m * p ^ (e - 1) = k:=by
   have h1:p * (m * p ^ (e - 1)) = p * k:=by
    rw [← hk,hem,show e = (e - 1)+1 by omega,Nat.pow_succ,Nat.add_sub_cancel,Nat.mul_comm (p ^ (e - 1)) p,Nat.mul_assoc,Nat.mul_comm m]
   exact Nat.eq_of_mul_eq_mul_left (by omega) h1
  rw [e1] at hc
  exact ha3 hc
 ·exact ⟨p ^ (e - 1),by rw [show e = (e - 1)+1 by omega,Nat.pow_succ,Nat.add_sub_cancel,Nat.mul_comm]⟩
theorem some_primes {P:Int} (h:PrimeI P) (hP:3≤P):∀ ps:List Nat,ps.Nodup→(∀ p∈ps,PrimeN p∧p ∣ (P - 1).toNat) →
  ∃ g:Int,¬ P ∣ g∧(∀ p∈ps,g ^ ((P - 1).toNat / p) % P≠1)∧∀ r,PrimeN r→r ∣ (P - 1).toNat→r ∉ ps→g ^ ((P - 1).toNat / r) % P = 1
 | [],_,_=>⟨1,not_dvd_small (by omega) h.1,fun p hp=>(by cases hp),fun r _ _ _=>by rw [Int.one_pow];exact Int.emod_eq_of_lt (by omega) h.1⟩
 | p::ps,hn,hps=>by
  rw [List.nodup_cons] at hn
  obtain ⟨g,hg0,hg1,hg2⟩:=some_primes h hP ps hn.2 (fun q hq=>hps q (List.mem_cons_of_mem _ hq))
  obtain ⟨hp,hpd⟩:=hps p (by simp)
  obtain ⟨b,q,m,hqm,hm,hq,hb0,hb1,hb2,hpq⟩:=one_prime h hP hp hpd
  have hp0:0 < p:=by have:=hp.1;omega
  have hN:0 < (P - 1).toNat:=by omega
  have other:∀ r,PrimeN r→r ∣ (P - 1).toNat→r≠p→b ^ ((P - 1).toNat / r) % P = 1:=fun r hr hrd hrp=>by
   have hrm:r ∣ m:=by
    rcases hr.mul (hqm ▸ hrd) with h1 | h1
    ·exact absurd (hq r hr h1) hrp
    ·exact h1
   obtain ⟨k,rfl⟩:=hrm
   have:(P - 1).toNat / r = q * k:=by
    rw [hqm,show q * (r * k) = r * (q * k) by rw [Nat.mul_left_comm]];exact Nat.mul_div_cancel_left _ (by have:=hr.1;omega)
   rw [this,Int.pow_mul,← pow_emod,hb1,Int.one_pow];exact Int.emod_eq_of_lt (by omega) h.1
  refine ⟨b * g,fun hd=>(h.mul hd).elim hb0 hg0,fun r hr=>?_,fun r hr hrd hrn=>?_⟩
  ·rw [Int.mul_pow,Int.mul_emod]
   rcases List.mem_cons.1 hr with rfl | hr
   ·rw [hg2 r hp hpd hn.1,Int.mul_one,Int.emod_emod]
    obtain ⟨k,hk⟩:=hpq
    have e1:(P - 1).toNat / r = (q / r) * m:=by
     rw [hqm,hk,Nat.mul_div_cancel_left _ hp0,Nat.mul_assoc];exact Nat.mul_div_cancel_left _ hp0
    rw [e1,Int.pow_mul]
    intro hc
    have h1:(b ^ (q / r)) ^ r % P = 1:=by
     rw [← Int.pow_mul]
     have:q / r * r = q:=by rw [hk,Nat.mul_div_cancel_left _ hp0,Nat.mul_comm]
     rw [this];exact hb1
    exact hb2 (pow_cop (by omega) (hp.cop hm) hc h1)
   ·have hrp:r≠p:=fun e=>hn.1 (e ▸ hr)
    have h1:=hps r (List.mem_cons_of_mem _ hr)
    rw [other r h1.1 h1.2 hrp,Int.one_mul,Int.emod_emod]
    exact hg1 r hr
  ·have h1 : r ≠ p ∧ r ∉ ps := by simpa using hrn
   rw [Int.mul_pow,Int.mul_emod,other r hr hrd h1.1,hg2 r hr hrd h1.2]
   exact Int.emod_eq_of_lt (by omega) h.1
theorem prim_root {P:Int} (h:PrimeI P) (hP:3≤P) (ps:List Nat) (hn:ps.Nodup) (hps:∀ p∈ps,PrimeN p∧p ∣ (P - 1).toNat):∃ g:Nat,1≤g∧(g:Int) < P∧∀ p∈ps,(g:Int) ^ ((P - 1).toNat / p) % P≠1:=by
 obtain ⟨g,h0,h1,_⟩:=some_primes h hP ps hn hps
 have h2:0≤g % P:=Int.emod_nonneg _ (by omega)
 have h3:g % P < P:=Int.emod_lt_of_pos _ (by omega)
 have h4:g % P≠0:=fun e=>h0 (Int.dvd_of_emod_eq_zero e)
 refine ⟨(g % P).toNat,by omega,by omega,fun p hp=>?_⟩
 rw [Int.toNat_of_nonneg h2,pow_emod]
 exact h1 p hp
def stripN:Nat→Nat→Nat→Nat
 | 0,n,_=>n
 | f+1,n,p=>if n % p = 0 then stripN f (n / p) p else n
def primesF:Nat→Nat→Nat→List Nat
 | 0,_,n=>if 1 < n then [n] else []
 | f+1,p,n=>if p * p≤n then (if n % p = 0 then p::primesF f (p+1) (stripN n n p) else primesF f (p+1) n) else if 1 < n then [n] else []
theorem div_lt_self2 {n p:Nat} (hn:0 < n) (hp:2≤p):n / p < n:=Nat.div_lt_self hn (by omega)
theorem stripN_ok {p:Nat} (hp:2≤p):∀ (f n:Nat),n≤f→0 < n→∃ e,n = p ^ e * stripN f n p∧¬ p ∣ stripN f n p∧0 < stripN f n p
 | 0,n,h,h0=>by omega
 | f+1,n,h,h0=>by
  unfold stripN
  by_cases hd:n % p = 0
  ·rw [if_pos hd]
   have hdv:p ∣ n:=Nat.dvd_of_mod_eq_zero hd
   have h1:=div_lt_self2 h0 hp
   have h2:0 < n / p:=Nat.div_pos (Nat.le_of_dvd h0 hdv) (by omega)
   obtain ⟨e,a,b,c⟩:=stripN_ok hp f (n / p) (by omega) h2
   refine ⟨e+1,?_,b,c⟩
   have h3:n = p * (n / p):=(Nat.mul_div_cancel' hdv).symm
   rw [Nat.pow_succ,Nat.mul_comm (p ^ e) p,Nat.mul_assoc,← a];exact h3
  ·rw [if_neg hd]
   exact ⟨0,by simp,fun hdv=>hd (Nat.mod_eq_zero_of_dvd hdv),h0⟩
theorem prime_small {n p:Nat} (hn:1 < n) (hp:n < p * p) (h:∀ d,2≤d→d < p→¬ d ∣ n):PrimeN n:=by
 refine ⟨hn,fun d hd=>?_⟩
 obtain ⟨k,hk⟩:=hd
 by_cases h1:d = 1
 ·exact .inl h1
 by_cases h2:k = 1
 ·right;rw [hk,h2,Nat.mul_one]
 exfalso
 have hd0:d≠0:=fun e=>by rw [e] at hk;simp at hk;omega
 have hk0:k≠0:=fun e=>by rw [e] at hk;simp at hk;omega
 by_cases h3:d < p
 ·exact h d (by omega) h3 ⟨k,hk⟩
 ·have h4:k < p:=by
   refine Nat.lt_of_not_le fun h5=>?_
   have:p * p≤d * k:=Nat.mul_le_mul (by omega) h5
   omega
  exact h k (by omega) h4 ⟨d,by rw [hk,Nat.mul_comm]⟩
theorem primesF_ok:∀ (f p n:Nat),2≤p→0 < n→n+2≤f+p→(∀ d,2≤d→d < p→¬ d ∣ n) →
  (∀ q∈primesF f p n,PrimeN q∧q ∣ n∧p≤q)∧(primesF f p n).Nodup∧∀ r,PrimeN r→r ∣ n→r∈primesF f p n
 | 0,p,n,hp,hn,hf,hd=>by
  have h1:n = 1:=by
   refine Classical.byContradiction fun h=>?_
   exact hd n (by omega) (by omega) ⟨1,by simp⟩
  subst h1
  refine ⟨fun q hq=>by simp [primesF] at hq,by simp [primesF],fun r hr hrd=>?_⟩
  have:=Nat.dvd_one.1 hrd;have:=hr.1;omega
 | f+1,p,n,hp,hn,hf,hd=>by
  unfold primesF
  by_cases hs:p * p≤n
  ·rw [if_pos hs]
   by_cases hz:n % p = 0
   ·rw [if_pos hz]
    have hdv:p ∣ n:=Nat.dvd_of_mod_eq_zero hz
    have hpp:PrimeN p:=by
     refine ⟨hp,fun d hdp=>?_⟩
     have h1:0 < d:=Nat.pos_of_dvd_of_pos hdp (by omega)
     have h2:d≤p:=Nat.le_of_dvd (by omega) hdp
     by_cases h3:d = 1
     ·exact .inl h3
     ·right
      refine Classical.byContradiction fun h4=>?_
      exact hd d (by omega) (by omega) (Nat.dvd_trans hdp hdv)
    obtain ⟨e,a,b,c⟩:=stripN_ok hp n n (Nat.le_refl _) hn
    generalize stripN n n p = m at a b c ⊢
    have hm:m ∣ n:=⟨p ^ e,by rw [Nat.mul_comm];exact a⟩
    have hmn:m≤n:=Nat.le_of_dvd hn hm
    obtain ⟨i1, i2, i3⟩ := primesF_ok f (p + 1) m (by omega) c (by omega) (fun d h1 h2 h3 => by
     by_cases h4:d = p
     ·subst h4;exact b h3
     ·exact hd d h1 (by omega) (Nat.dvd_trans h3 hm))
    refine ⟨fun q hq=>?_,?_,fun r hr hrd=>?_⟩
    ·rcases List.mem_cons.1 hq with rfl | hq
     ·exact ⟨hpp,hdv,Nat.le_refl _⟩
     ·obtain ⟨j1,j2,j3⟩:=i1 q hq
      exact ⟨j1,Nat.dvd_trans j2 hm,by omega⟩
    ·rw [List.nodup_cons]
     exact ⟨fun h=>by have:=(i1 p h).2.2;omega,i2⟩
    ·rw [a] at hrd
     rcases hr.mul hrd with h1 | h1
     ·have:∀ k,r ∣ p ^ k→r = p:=by
       intro k
       induction k with
       | zero=>intro h;rw [Nat.pow_zero] at h;have:=Nat.dvd_one.1 h;have:=hr.1;omega
       | succ k ih =>
        intro h
        rw [Nat.pow_succ] at h
        rcases hr.mul h with h2 | h2
        ·exact ih h2
        ·rcases hpp.2 r h2 with h3 | h3
         ·have:=hr.1;omega
         ·exact h3
      rw [this e h1];exact List.mem_cons_self
     ·exact List.mem_cons_of_mem _ (i3 r hr h1)
   ·rw [if_neg hz]
    obtain ⟨i1, i2, i3⟩ := primesF_ok f (p + 1) n (by omega) hn (by omega) (fun d h1 h2 h3 => by
     by_cases h4:d = p
     ·subst h4;exact hz (Nat.mod_eq_zero_of_dvd h3)
     ·exact hd d h1 (by omega) h3)
    exact ⟨fun q hq=>by obtain ⟨j1,j2,j3⟩:=i1 q hq;exact ⟨j1,j2,by omega⟩,i2,i3⟩
  ·rw [if_neg hs]
   by_cases h1:1 < n
   ·rw [if_pos h1]
    have hpn:=prime_small h1 (by omega) hd
    refine ⟨fun q hq=>?_,by simp,fun r hr hrd=>?_⟩
    ·have : q = n := by simpa using hq
     subst this
     exact ⟨hpn,⟨1,by simp⟩,Nat.le_of_not_lt fun h=>hd q (by omega) h ⟨1,by simp⟩⟩
    ·rcases hpn.2 r hrd with h2 | h2
     ·have:=hr.1;omega
     ·rw [h2];simp
   ·rw [if_neg h1]
    have:n = 1:=by omega
    subst this
    refine ⟨fun q hq=>by simp at hq,by simp,fun r hr hrd=>?_⟩
    have:=Nat.dvd_one.1 hrd;have:=hr.1;omega
def primesL (n:Nat):List Nat:=primesF n 2 n
theorem primesL_ok {n:Nat} (hn:0 < n):(∀ q∈primesL n,PrimeN q∧q ∣ n∧2≤q)∧(primesL n).Nodup∧∀ r,PrimeN r→r ∣ n→r∈primesL n :=
 primesF_ok n 2 n (Nat.le_refl _) hn (Nat.le_refl _) (fun d h1 h2=>by omega)
theorem primesL_prime {n:Nat} (h:PrimeN n):primesL n = [n]:=by
 obtain ⟨h1,h2,h3⟩:=primesL_ok (n:=n) (by have:=h.1;omega)
 have h4:=h3 n h ⟨1,by simp⟩
 have h5:∀ q∈primesL n,q = n:=fun q hq=>by
  obtain ⟨a,b,_⟩:=h1 q hq
  rcases h.2 q b with c | c
  ·have:=a.1;omega
  ·exact c
 match e:primesL n with
 | []=>rw [e] at h4;cases h4
 | [a]=>rw [e] at h5;rw [h5 a (by simp)]
 | a::b::l =>
  rw [e] at h5 h2
  have e1:=h5 a (by simp)
  have e2:=h5 b (by simp)
  rw [List.nodup_cons] at h2
  exact absurd (by rw [e1,← e2];simp) h2.1
def lookI:List Int→List Int→Int→Int
 | x::X,s::S,z=>if z = x then s else lookI X S z
 | _,_,_=>0
theorem lookI_get:∀ {X S:List Int} {i:Nat} (hX:i < X.length) (hS:i < S.length),X.Nodup→lookI X S X[i] = S[i]
 | x::X,s::S,0,_,_,_=>by simp [lookI]
 | x::X,s::S,i+1,hX,hS,hn=>by
  have h1:=List.nodup_cons.1 hn
  have hX':i < X.length:=by simpa using hX
  have:X[i]≠x:=fun h=>h1.1 (h ▸ List.getElem_mem hX')
  show (if X[i] = x then s else lookI X S X[i]) = _
  rw [if_neg this]
  exact lookI_get hX' (by simpa using hS) h1.2
theorem newtF_all {P:Int} (h:PrimeI P) (hP:3≤P) {X S:List Int} (hl:X.length = S.length) (hX:InF P X) (hS:InF P S) (hn:X.Nodup) :
  InF P (newtF P X S [] [1])∧(newtF P X S [] [1]).length≤X.length∧∀ z∈X,evI (newtF P X S [] [1]) z % P = lookI X S z % P:=by
 have := newtF_ok h hP X S [] [1] [] (lookI X S) hl hX InF.nil (by simpa using hn) InF.nil (InF.cons (by omega) InF.nil) (by simp) (by simp) (by simp) (by simp [evI, prodAt]) (fun i hx hy => by
  rw [lookI_get hx hy hn]
  have:=hS S[i] (List.getElem_mem hy)
  exact (Int.emod_eq_of_lt this.1 this.2).symm)
 simpa using this
theorem pad_uniq {P:Int} (h:PrimeI P) {X A B:List Int} (hX:InF P X) (hn:X.Nodup) (hA:InF P A) (hB:InF P B) (lA:A.length≤X.length) (lB:B.length≤X.length) (he:∀ z∈X,evI A z % P = evI B z % P):A++List.replicate (X.length - A.length) 0 = B++List.replicate (X.length - B.length) 0:=by
 have hP0:0 < P:=by have:=h.1;omega
 have hpad:∀ {l:List Int},InF P l→∀ c∈l++List.replicate (X.length - l.length) 0,0≤c∧c < P:=fun hl c hc=>by
  rcases List.mem_append.1 hc with h1 | h1
  ·exact hl c h1
  ·exact InF.rep hP0 _ c h1
 refine poly_uniq h (as:=X) (by simp;omega) (by simp;omega) ?_ (fun a ha=>by rw [evI_pad,evI_pad];exact he a ha) (hpad hA) (hpad hB)
 refine (List.Pairwise.and_mem.1 hn).imp ?_
 rintro a b ⟨ha,hb,hne⟩ hd
 have h1:=emod_of_dvd_sub hd
 have h2:=hX a ha
 have h3:=hX b hb
 rw [Int.emod_eq_of_lt h2.1 h2.2,Int.emod_eq_of_lt h3.1 h3.2] at h1
 exact hne (by omega)
theorem sub_ndvd {R x y:Int} (hx:0≤x∧x < R) (hy:0≤y∧y < R) (hne:x≠y):¬ R ∣ y - x:=by
 rintro ⟨q,hq⟩
 by_cases h3:0 < q
 ·have : R * 1 ≤ R * q := Int.mul_le_mul_of_nonneg_left h3 (by omega)
  omega
 ·by_cases h4:q = 0
  ·subst h4;omega
  ·have : R * q ≤ R * (-1) := Int.mul_le_mul_of_nonneg_left (by omega) (by omega)
   omega
theorem has_log {R P G:Int} (h:GroupI R P G) {x:Int} (hx:hasB R P x = true):∃ a,(0≤a∧a < P)∧G ^ a.toNat % R = x:=by
 rw [hasB_iff] at hx
 have hR:=h.hR
 have hP:=h.hP
 refine Classical.byContradiction fun hn=>?_
 have hne:∀ a:Int,0≤a∧a < P→G ^ a.toNat % R≠x:=fun a ha e=>hn ⟨a,ha,e⟩
 have hrg:∀ a:Int,0≤G ^ a.toNat % R∧G ^ a.toNat % R < R:=fun a=>⟨Int.emod_nonneg _ (by omega),Int.emod_lt_of_pos _ (by omega)⟩
 let as:List Int:=x::(List.range P.toNat).map fun i:Nat=>G ^ (i:Int).toNat % R
 have hp:as.Pairwise fun a b=>¬ R ∣ b - a:=by
  refine List.pairwise_cons.2 ⟨fun y hy=>?_,?_⟩
  ·obtain ⟨i,hi,rfl⟩:=List.mem_map.1 hy
   rw [List.mem_range] at hi
   exact sub_ndvd (by omega) (hrg i) fun e=>hne i (by omega) e.symm
  ·rw [List.pairwise_map]
   refine (List.Pairwise.and_mem.1 (List.nodup_range (n:=P.toNat))).imp ?_
   rintro i j ⟨hi,hj,hij⟩
   rw [List.mem_range] at hi hj
   exact sub_ndvd (hrg i) (hrg j) fun e=>by
    have:=el_inj h (a:=i) (b:=j) (by omega) (by omega) e
    omega
 have hr:∀ a∈as,R ∣ evI (xk (-1) P.toNat) a:=fun a ha=>by
  have hb:a ^ P.toNat % R = 1:=by
   rcases List.mem_cons.1 ha with rfl | ha
   ·exact hx.2
   ·obtain ⟨i,_,rfl⟩:=List.mem_map.1 ha
    exact ((hasB_iff.1 (hasB_pow h i))).2
  rw [evI_xk _ _ (by omega)]
  have h3:a ^ P.toNat % R = 1 % R:=by rw [hb];exact (Int.emod_eq_of_lt (by omega) (by omega)).symm
  have:=dvd_sub_of_emod h3
  rwa [show -1+a ^ P.toNat = a ^ P.toNat - 1 by omega]
 have h5:=roots_all h.pR as (xk (-1) P.toNat) (by simp [as,xk];omega) hp hr 0
 rw [evI_xk _ _ (by omega),Int.zero_pow (by omega)] at h5
 obtain ⟨q,hq⟩:=h5
 have:=sub_ndvd (R:=R) (x:=1) (y:=0) (by omega) (by omega) (by omega)
 exact this ⟨q,by omega⟩
theorem com_log {R P G:Int} (h:GroupI R P G):∀ {A:List Int},A.all (hasB R P) = true→∃ a:List Int,comM R G a = A∧a.length = A.length∧∀ x∈a,0≤x∧x < P
 | [],_=>⟨[],rfl,rfl,by simp⟩
 | x::A,hA=>by
  rw [List.all_cons,Bool.and_eq_true] at hA
  obtain ⟨a,e,hl,hr⟩:=com_log h hA.2
  obtain ⟨y,hy,e2⟩:=has_log h hA.1
  refine ⟨y::a,by rw [← e,← e2];rfl,by simp [hl],fun z hz=>?_⟩
  rcases List.mem_cons.1 hz with rfl | hz
  ·exact hy
  ·exact hr z hz
theorem com_inj {R P G:Int} (h:GroupI R P G):∀ {a b:List Int},(∀ x∈a,0≤x∧x < P)→(∀ x∈b,0≤x∧x < P)→comM R G a = comM R G b→a = b
 | [],[],_,_,_=>rfl
 | [],_::_,_,_,e=>by simp [comM] at e
 | _::_,[],_,_,e=>by simp [comM] at e
 | x::a,y::b,ha,hb,e=>by
  simp only [comM,List.map_cons,List.cons.injEq] at e
  have h1:=el_inj h (ha x (by simp)) (hb y (by simp)) e.1
  have h2:=com_inj h (a:=a) (b:=b) (fun z hz=>ha z (by simp [hz])) (fun z hz=>hb z (by simp [hz])) e.2
  rw [h1,h2]
def SharesOf (P:Int) (a X S:List Int):Prop:=S = X.map fun x=>valM P x a
theorem SharesOf.look {P:Int} {a:List Int}:∀ {X S:List Int},SharesOf P a X S→∀ z∈X,lookI X S z = valM P z a
 | [],_,_,z,hz=>by cases hz
 | x::X,S,h,z,hz=>by
  unfold SharesOf at h
  subst h
  show (if z = x then valM P x a else lookI X (X.map fun x=>valM P x a) z) = _
  by_cases e:z = x
  ·rw [if_pos e,e]
  ·rw [if_neg e]
   exact SharesOf.look rfl z ((List.mem_cons.1 hz).resolve_left e)
theorem SharesOf.inF {P:Int} (hP:0 < P) {a X S:List Int} (h:SharesOf P a X S):InF P S:=fun s hs=>by
 unfold SharesOf at h
 subst h
 obtain ⟨x,_,rfl⟩:=List.mem_map.1 hs
 exact valM_rng hP a
theorem newt_shares {P:Int} (h:PrimeI P) (hP:3≤P) {X S a:List Int} (hX:InF P X) (hn:X.Nodup) (ha:InF P a) (hl:a.length≤X.length) (hs:SharesOf P a X S) :
  newtF P X S [] [1]++List.replicate (X.length - (newtF P X S [] [1]).length) 0 = a++List.replicate (X.length - a.length) 0:=by
 have hlen:X.length = S.length:=by unfold SharesOf at hs;rw [hs,List.length_map]
 obtain ⟨a1,a2,a3⟩:=newtF_all h hP hlen hX (hs.inF (by omega)) hn
 exact pad_uniq h hX hn a1 ha a2 hl fun z hz=>by rw [a3 z hz,hs.look z hz,valM_ev,Int.emod_emod]
theorem evI_zero:∀ l:List Int,evI l 0 = l.headD 0
 | []=>rfl
 | a::l=>by show a+0 * evI l 0 = a;omega
theorem newt_zero {P:Int} (h:PrimeI P) (hP:3≤P) {X S a:List Int} (hX:InF P X) (hn:X.Nodup) (ha:InF P a) (hl:a.length≤X.length) (hs:SharesOf P a X S) :
  valM P 0 (newtF P X S [] [1]) = a.headD 0:=by
 have e:=congrArg (fun l=>evI l 0) (newt_shares h hP hX hn ha hl hs)
 simp only [evI_pad] at e
 rw [valM_ev,e,evI_zero]
 cases a with
 | nil=>simp
 | cons x a=>exact Int.emod_eq_of_lt (ha x (by simp)).1 (ha x (by simp)).2
end Go.Dp
