import Derived.Test.YtlbjgnkjicifhaaGreatDpCore
import Derived.Attr
namespace Go.Dp
open Go.RowKit
set_option linter.unusedVariables false
def PrimeI (n:Int):Prop:=1 < n∧∀ d,2≤d→d * d≤n→n % d≠0
theorem PrimeI.dvd {n d:Int} (h:PrimeI n) (hd:d ∣ n) (h0:0 < d):d = 1∨d = n:=by
 obtain ⟨e,he⟩:=hd
 have hn:=h.1
 have he0:0 < e:=by
  by_cases h1:0 < e
  ·exact h1
  ·have : d * e ≤ 0 := Int.mul_nonpos_of_nonneg_of_nonpos (by omega) (by omega)
   omega
 by_cases h1:d = 1
 ·exact .inl h1
 by_cases h2:e = 1
 ·subst h2;right;omega
 exfalso
 by_cases h3:d≤e
 ·have : d * d ≤ d * e := Int.mul_le_mul_of_nonneg_left h3 (by omega)
  exact h.2 d (by omega) (by omega) (by rw [he];exact Int.mul_emod_right d e)
 ·have : e * e ≤ d * e := Int.mul_le_mul_of_nonneg_right (by omega) (by omega)
  exact h.2 e (by omega) (by omega) (by rw [he];exact Int.mul_emod_left d e)
theorem PrimeI.mul {R a b:Int} (h:PrimeI R) (hd:R ∣ a * b):R ∣ a∨R ∣ b:=by
 have h1:=h.1
 have hg:((Int.gcd R a:Nat):Int) ∣ R:=Int.gcd_dvd_left R a
 have hg0:0 < ((Int.gcd R a:Nat):Int):=by
  have:Int.gcd R a≠0:=fun e=>by
   have:=(Int.gcd_eq_zero_iff.1 e).1;omega
  omega
 rcases h.dvd hg hg0 with e | e
 ·right
  have hc:Nat.Coprime R.natAbs a.natAbs:=by
   have:Int.gcd R a = 1:=by omega
   exact this
  have h2:R.natAbs ∣ a.natAbs * b.natAbs:=by
   rw [← Int.natAbs_mul];exact Int.natAbs_dvd_natAbs.2 hd
  exact Int.natAbs_dvd_natAbs.1 (hc.dvd_of_dvd_mul_left h2)
 ·left
  have:=Int.gcd_dvd_right R a
  rwa [e] at this
theorem not_dvd_small {R a:Int} (h0:0 < a) (h1:a < R):¬ R ∣ a:=fun h=>by
 have:=Int.le_of_dvd h0 h;omega
theorem emod_of_dvd_sub {R a b:Int} (h:R ∣ a - b):a % R = b % R:=by
 rw [Int.emod_eq_emod_iff_emod_sub_eq_zero];exact Int.emod_eq_zero_of_dvd h
theorem dvd_sub_of_emod {R a b:Int} (h:a % R = b % R):R ∣ a - b:=by
 rw [Int.emod_eq_emod_iff_emod_sub_eq_zero] at h;exact Int.dvd_of_emod_eq_zero h
theorem perm_of_sub {M:List Int}:∀ {L:List Int},M.Nodup→(∀ x∈M,x∈L)→L.length≤M.length→M.Perm L:=by
 induction M with
 | nil=>intro L _ _ h;cases L with | nil=>exact .refl _ | cons _ _=>simp at h
 | cons x M ih =>
  intro L hn hs hl
  rw [List.nodup_cons] at hn
  have hx:x∈L:=hs x (by simp)
  have h1:=List.perm_cons_erase hx
  have h2:(L.erase x).length = L.length - 1:=List.length_erase_of_mem hx
  have h3:M.Perm (L.erase x):=ih hn.2 (fun y hy=>by
   have hne:y≠x:=fun e=>hn.1 (e ▸ hy)
   exact (List.mem_erase_of_ne hne).2 (hs y (List.mem_cons_of_mem _ hy))) (by simp at hl;omega)
  exact (h3.cons x).trans h1.symm
def prodI:List Int→Int
 | []=>1
 | a::l=>a * prodI l
theorem prodI_perm {M L:List Int} (h:M.Perm L):prodI M = prodI L:=by
 induction h with
 | nil=>rfl
 | cons x _ ih=>simp only [prodI,ih]
 | swap x y l=>simp only [prodI];rw [← Int.mul_assoc,← Int.mul_assoc,Int.mul_comm y x]
 | trans _ _ a b=>exact a.trans b
theorem prodI_map {a R:Int} (L:List Int):prodI (L.map fun x=>a * x % R) % R = a ^ L.length * prodI L % R:=by
 induction L with
 | nil=>simp [prodI]
 | cons x l ih =>
  simp only [List.map_cons,prodI,List.length_cons]
  rw [Int.mul_emod,ih,Int.emod_emod,← Int.mul_emod,Int.pow_succ]
  congr 1
  rw [Int.mul_assoc a x,Int.mul_assoc (a ^ l.length) a,Int.mul_left_comm x,Int.mul_left_comm a]
theorem prodI_not {R:Int} (h:PrimeI R):∀ L:List Int,(∀ x∈L,¬ R ∣ x)→¬ R ∣ prodI L
 | [],_=>by simpa [prodI] using not_dvd_small (R:=R) (a:=1) (by omega) h.1
 | a::l,hl=>fun hd=>by
  rcases h.mul hd with h1 | h1
  ·exact hl a (by simp) h1
  ·exact prodI_not h l (fun x hx=>hl x (List.mem_cons_of_mem _ hx)) h1
def upTo:Nat→List Int
 | 0=>[]
 | n+1=>((n+1:Nat):Int)::upTo n
theorem upTo_len:∀ n,(upTo n).length = n
 | 0=>rfl
 | n+1=>by simp [upTo,upTo_len n]
theorem mem_upTo {x:Int}:∀ {n:Nat},x∈upTo n↔1≤x∧x≤n
 | 0=>by simp [upTo];omega
 | n+1=>by
  simp only [upTo,List.mem_cons,mem_upTo (n:=n)];omega
theorem upTo_nodup:∀ n,(upTo n).Nodup
 | 0=>by simp [upTo]
 | n+1=>by
  simp only [upTo,List.nodup_cons,mem_upTo]
  exact ⟨by omega,upTo_nodup n⟩
theorem fermat {R a:Int} (h:PrimeI R) (ha:¬ R ∣ a):a ^ (R - 1).toNat % R = 1:=by
 have h1:=h.1
 have hlen:((R - 1).toNat:Int) = R - 1:=by omega
 have hL:∀ x∈upTo (R - 1).toNat,¬ R ∣ x:=fun x hx=>by
  rw [mem_upTo] at hx;exact not_dvd_small (by omega) (by omega)
 have hp:((upTo (R - 1).toNat).map fun x=>a * x % R).Perm (upTo (R - 1).toNat):=by
  refine perm_of_sub ?_ (fun y hy=>?_) (by simp)
  ·rw [List.Nodup,List.pairwise_map]
   refine (List.Pairwise.and_mem.1 (upTo_nodup _)).imp ?_
   rintro x y ⟨hx,hy,hne⟩ e
   rw [mem_upTo] at hx hy
   have hd:=dvd_sub_of_emod e
   rw [← Int.mul_sub] at hd
   rcases h.mul hd with h2 | h2
   ·exact ha h2
   ·obtain ⟨k,hk⟩:=h2
    by_cases h3:0 < k
    ·have : R * 1 ≤ R * k := Int.mul_le_mul_of_nonneg_left h3 (by omega)
     omega
    ·by_cases h4:k = 0
     ·subst h4;omega
     ·have : R * k ≤ R * (-1) := Int.mul_le_mul_of_nonneg_left (by omega) (by omega)
      omega
  ·obtain ⟨x,hx,rfl⟩:=List.mem_map.1 hy
   rw [mem_upTo]
   have h2:0≤a * x % R:=Int.emod_nonneg _ (by omega)
   have h3:a * x % R < R:=Int.emod_lt_of_pos _ (by omega)
   have h4:a * x % R≠0:=fun e=>by
    rcases h.mul (Int.dvd_of_emod_eq_zero e) with h5 | h5
    ·exact ha h5
    ·exact hL x hx h5
   omega
 have h2:=prodI_map (a:=a) (R:=R) (upTo (R - 1).toNat)
 rw [prodI_perm hp,upTo_len] at h2
 have h3:=dvd_sub_of_emod h2.symm
 have h4:R ∣ (a ^ (R - 1).toNat - 1) * prodI (upTo (R - 1).toNat):=by
  rw [Int.sub_mul,Int.one_mul];exact h3
 rcases h.mul h4 with h5 | h5
 ·have:=emod_of_dvd_sub h5
  rw [this];exact Int.emod_eq_of_lt (by omega) h1
 ·exact absurd h5 (prodI_not h _ hL)
def evI:List Int→Int→Int
 | [],_=>0
 | c::l,x=>c+x * evI l x
def quoI (a:Int):List Int→List Int
 | []=>[]
 | _::l=>match l with
  | []=>[]
  | c::m=>evI (c::m) a::quoI a (c::m)
theorem quoI_len (a:Int):∀ l:List Int,(quoI a l).length = l.length - 1
 | []=>rfl
 | [c]=>rfl
 | c::d::m=>by simp [quoI,quoI_len a (d::m)]
theorem quoI_ev (a x:Int):∀ l:List Int,evI l x - evI l a = (x - a) * evI (quoI a l) x
 | []=>by simp [quoI,evI]
 | [c]=>by simp [quoI,evI]
 | c::d::m=>by
  have ih:=quoI_ev a x (d::m)
  have e:evI (d::m) x = evI (d::m) a+(x - a) * evI (quoI a (d::m)) x:=by omega
  show c+x * evI (d::m) x - (c+a * evI (d::m) a) = (x - a) * (evI (d::m) a+x * evI (quoI a (d::m)) x)
  rw [e]
  generalize evI (d::m) a = A
  generalize evI (quoI a (d::m)) x = B
  rw [Int.mul_add,Int.mul_add,Int.sub_mul x a A,Int.mul_left_comm x (x - a) B]
  omega
theorem roots_all {R:Int} (h:PrimeI R):∀ (as l:List Int),l.length≤as.length→as.Pairwise (fun a b=>¬ R ∣ b - a)→(∀ a∈as,R ∣ evI l a)→∀ x,R ∣ evI l x
 | [],l,hl,_,_,x=>by
  have:l = []:=List.length_eq_zero_iff.1 (by simpa using hl)
  subst this;exact Int.dvd_zero _
 | a::as,l,hl,hp,hr,x=>by
  have hp':=List.pairwise_cons.1 hp
  have h0:=hr a (by simp)
  have hq:∀ b∈as,R ∣ evI (quoI a l) b:=fun b hb=>by
   have h1:=hr b (List.mem_cons_of_mem _ hb)
   have h2:R ∣ (b - a) * evI (quoI a l) b:=by
    rw [← quoI_ev];exact Int.dvd_sub h1 h0
   rcases h.mul h2 with h3 | h3
   ·exact absurd h3 (hp'.1 b hb)
   ·exact h3
  have h3:=roots_all h as (quoI a l) (by rw [quoI_len];simp at hl;omega) hp'.2 hq x
  have h4:R ∣ evI l x - evI l a:=by rw [quoI_ev];exact Int.dvd_mul_of_dvd_right h3
  have:=Int.dvd_add h4 h0
  rwa [Int.sub_add_cancel] at this
def xk (c:Int) (k:Nat):List Int:=c::(List.replicate (k - 1) 0++[1])
theorem evI_rep (x:Int):∀ n,evI (List.replicate n 0++[1]) x = x ^ n
 | 0=>by simp [evI]
 | n+1=>by
  rw [List.replicate_succ,List.cons_append]
  show 0+x * evI (List.replicate n 0++[1]) x = _
  rw [evI_rep x n,Int.pow_succ]
  rw [Int.mul_comm];omega
theorem evI_xk (c x:Int) {k:Nat} (h:0 < k):evI (xk c k) x = c+x ^ k:=by
 obtain ⟨k,rfl⟩:∃ n,k = n+1:=⟨k - 1,by omega⟩
 show c+x * evI (List.replicate k 0++[1]) x = _
 rw [evI_rep,Int.pow_succ,Int.mul_comm]
theorem no_root {R:Int} (h:PrimeI R) {k:Nat} (hk:0 < k) (hk2:(k:Int)+1 < R):∃ a,2≤a∧a < R∧a ^ k % R≠1:=by
 have h1:=h.1
 refine Classical.byContradiction fun hn=>?_
 have ha:∀ a,1≤a→a < R→a ^ k % R = 1:=fun a ha1 ha2=>by
  by_cases e:a = 1
  ·subst e;rw [Int.one_pow];exact Int.emod_eq_of_lt (by omega) h1
  ·refine Classical.byContradiction fun hc=>hn ⟨a,by omega,ha2,hc⟩
 have hr:∀ a∈upTo (k+1),R ∣ evI (xk (-1) k) a:=fun a hm=>by
  rw [mem_upTo] at hm
  rw [evI_xk _ _ hk]
  have h2:=ha a hm.1 (by omega)
  have h3:a ^ k % R = 1 % R:=by rw [h2];exact (Int.emod_eq_of_lt (by omega) h1).symm
  have:=dvd_sub_of_emod h3
  rwa [show -1+a ^ k = a ^ k - 1 by omega]
 have hp:(upTo (k+1)).Pairwise fun a b=>¬ R ∣ b - a:=by
  refine (List.Pairwise.and_mem.1 (upTo_nodup (k+1))).imp ?_
  rintro x y ⟨hx,hy,hne⟩ ⟨q,hq⟩
  rw [mem_upTo] at hx hy
  by_cases h3:0 < q
  ·have : R * 1 ≤ R * q := Int.mul_le_mul_of_nonneg_left h3 (by omega)
   omega
  ·by_cases h4:q = 0
   ·subst h4;omega
   ·have : R * q ≤ R * (-1) := Int.mul_le_mul_of_nonneg_left (by omega) (by omega)
    omega
 have h5:=roots_all h (upTo (k+1)) (xk (-1) k) (by simp [upTo_len,xk];omega) hp hr 0
 rw [evI_xk _ _ hk,Int.zero_pow (by omega)] at h5
 have h6:R ∣ 1:=by
  have:=Int.dvd_neg.2 h5
  simpa using this
 exact not_dvd_small (by omega) h1 h6
theorem pow_emod (a m:Int) (k:Nat):(a % m) ^ k % m = a ^ k % m:=by
 induction k with
 | zero=>simp
 | succ k ih=>rw [Int.pow_succ,Int.pow_succ,Int.mul_emod,ih,Int.emod_emod,← Int.mul_emod]
def valM (P x:Int):List Int→Int
 | []=>0
 | c::l=>(valM P x l * (x % P) % P+c) % P
theorem valM_ev {P x:Int}:∀ l:List Int,valM P x l = evI l x % P
 | []=>by simp [valM,evI]
 | c::l=>by
  show (valM P x l * (x % P) % P+c) % P = (c+x * evI l x) % P
  rw [valM_ev l,← Int.mul_emod,Int.emod_add_emod,Int.add_comm,Int.mul_comm]
theorem valM_rng {P x:Int} (hP:0 < P) (l:List Int):0≤valM P x l∧valM P x l < P:=by
 rw [valM_ev];exact ⟨Int.emod_nonneg _ (by omega),Int.emod_lt_of_pos _ hP⟩
theorem quoI_back {R a:Int}:∀ l:List Int,R ∣ evI l a→(∀ c∈quoI a l,R ∣ c)→∀ c∈l,R ∣ c
 | [],_,_,c,h=>by cases h
 | [b],h,_,c,hc=>by
  have:c = b:=by simpa using hc
  subst this;simpa [evI] using h
 | b::d::m,h,hq,c,hc=>by
  have h1:R ∣ evI (d::m) a:=hq _ (by simp [quoI])
  have h2:∀ c∈quoI a (d::m),R ∣ c:=fun c hc=>hq c (by simp [quoI,hc])
  rcases List.mem_cons.1 hc with rfl | hc
  ·have h3:R ∣ c+a * evI (d::m) a:=h
   have h4:R ∣ a * evI (d::m) a:=Int.dvd_mul_of_dvd_right h1
   have:=Int.dvd_sub h3 h4
   rwa [Int.add_sub_cancel] at this
  ·exact quoI_back (d::m) h1 h2 c hc
theorem roots_coef {R:Int} (h:PrimeI R):∀ (as l:List Int),l.length≤as.length→as.Pairwise (fun a b=>¬ R ∣ b - a)→(∀ a∈as,R ∣ evI l a)→∀ c∈l,R ∣ c
 | [],l,hl,_,_,c,hc=>by
  have:l = []:=List.length_eq_zero_iff.1 (by simpa using hl)
  subst this;cases hc
 | a::as,l,hl,hp,hr,c,hc=>by
  have hp':=List.pairwise_cons.1 hp
  have h0:=hr a (by simp)
  have hq:∀ b∈as,R ∣ evI (quoI a l) b:=fun b hb=>by
   have h1:=hr b (List.mem_cons_of_mem _ hb)
   have h2:R ∣ (b - a) * evI (quoI a l) b:=by
    rw [← quoI_ev];exact Int.dvd_sub h1 h0
   rcases h.mul h2 with h3 | h3
   ·exact absurd h3 (hp'.1 b hb)
   ·exact h3
  exact quoI_back l h0 (roots_coef h as (quoI a l) (by rw [quoI_len];simp at hl;omega) hp'.2 hq) c hc
def subI:List Int→List Int→List Int
 | [],m=>m.map fun b=>-b
 | l,[]=>l
 | a::l,b::m=>(a - b)::subI l m
theorem evI_neg (x:Int):∀ m:List Int,evI (m.map fun b=>-b) x = - evI m x
 | []=>rfl
 | b::m=>by
  show -b+x * evI (m.map fun b=>-b) x = -(b+x * evI m x)
  rw [evI_neg x m,Int.mul_neg,Int.neg_add]
theorem evI_sub (x:Int):∀ l m:List Int,evI (subI l m) x = evI l x - evI m x
 | [],m=>by simp [subI,evI_neg,evI]
 | a::l,[]=>by simp [subI,evI]
 | a::l,b::m=>by
  show (a - b)+x * evI (subI l m) x = a+x * evI l x - (b+x * evI m x)
  rw [evI_sub x l m,Int.mul_sub];omega
theorem subI_len:∀ l m:List Int,(subI l m).length = max l.length m.length
 | [],m=>by simp [subI]
 | a::l,[]=>by simp [subI]
 | a::l,b::m=>by simp [subI,subI_len l m]
theorem subI_get:∀ {l m:List Int} {i:Nat} (hl:i < l.length) (hm:i < m.length),(l[i] - m[i])∈subI l m
 | a::l,b::m,0,_,_=>by simp [subI]
 | a::l,b::m,i+1,hl,hm=>by
  simp only [subI,List.getElem_cons_succ]
  exact List.mem_cons_of_mem _ (subI_get (by simpa using hl) (by simpa using hm))
theorem poly_uniq {R:Int} (h:PrimeI R) {as l m:List Int} (hl:l.length≤as.length) (hm:m.length = l.length) (hp:as.Pairwise (fun a b=>¬ R ∣ b - a)) (ha:∀ a∈as,evI l a % R = evI m a % R)
  (rl:∀ c∈l,0≤c∧c < R) (rm:∀ c∈m,0≤c∧c < R):l = m:=by
 have h1:=roots_coef h as (subI l m) (by rw [subI_len];omega) hp (fun a hA=>by rw [evI_sub];exact dvd_sub_of_emod (ha a hA))
 refine List.ext_getElem hm.symm fun i hi hi2=>?_
 have h2:=emod_of_dvd_sub (h1 _ (subI_get hi hi2))
 have h3:=rl _ (List.getElem_mem hi)
 have h4:=rm _ (List.getElem_mem hi2)
 rwa [Int.emod_eq_of_lt h3.1 h3.2,Int.emod_eq_of_lt h4.1 h4.2] at h2
def prodAt (z:Int):List Int→Int
 | []=>1
 | y::ys=>(y - z) * prodAt z ys
theorem prodAt_zero {z:Int}:∀ {ys:List Int},z∈ys→prodAt z ys = 0
 | y::ys,h=>by
  rcases List.mem_cons.1 h with rfl | h
  ·simp [prodAt]
  ·simp [prodAt,prodAt_zero h]
theorem prodAt_ndvd {R z:Int} (h:PrimeI R):∀ ys:List Int,(∀ y∈ys,¬ R ∣ y - z)→¬ R ∣ prodAt z ys
 | [],_=>not_dvd_small (by simp [prodAt]) (by simpa [prodAt] using h.1)
 | y::ys,hn=>fun hd=>by
  rcases h.mul hd with h1 | h1
  ·exact hn y (by simp) h1
  ·exact prodAt_ndvd h ys (fun y hy=>hn y (List.mem_cons_of_mem _ hy)) h1
def others (x:Int) (xs:List Int):List Int:=xs.filter fun y=>decide (y≠x)
theorem inv_mul {R c:Int} (h:PrimeI R) (hR:3≤R) (hc:¬ R ∣ c):c * (c ^ (R - 2).toNat % R) % R = 1:=by
 rw [Int.mul_emod,Int.emod_emod,← Int.mul_emod]
 have e:c * c ^ (R - 2).toNat = c ^ (R - 1).toNat:=by
  rw [show (R - 1).toNat = (R - 2).toNat+1 by omega,Int.pow_succ,Int.mul_comm]
 rw [e];exact fermat h hc
structure GroupI (R P G:Int):Prop where
 hR:3≤R∧R≤2147483647
 hP:3≤P∧P≤65521
 hd:(R - 1) % P = 0
 hG:2≤G∧G < R
 pR:PrimeI R
 pP:PrimeI P
 one:G ^ P.toNat % R = 1
abbrev grp (R P G:Int):V:=.agg [.int .i64 R,.int .i64 P,.int .i64 G]
def hasB (R P x:Int):Bool:=decide (1≤x∧x < R) && decide (x ^ P.toNat % R = 1)
theorem hasB_iff {R P x:Int}:hasB R P x = true↔(1≤x∧x < R)∧x ^ P.toNat % R = 1:=by simp [hasB]
theorem el_mod {R P c:Int} (hR:3≤R) (h1:c ^ P.toNat % R = 1) (n:Nat):c ^ (n % P.toNat) % R = c ^ n % R:=by
 have e:n = P.toNat * (n / P.toNat)+n % P.toNat:=(Nat.div_add_mod _ _).symm
 have h3:c ^ (P.toNat * (n / P.toNat)) % R = 1:=by
  rw [Int.pow_mul,← pow_emod,h1,Int.one_pow];exact Int.emod_eq_of_lt (by omega) (by omega)
 have h2:c ^ n % R = c ^ (P.toNat * (n / P.toNat)) * c ^ (n % P.toNat) % R:=by rw [← Int.pow_add,← e]
 rw [h2,Int.mul_emod,h3,Int.one_mul,Int.emod_emod]
theorem el_congr {R P c:Int} (hR:3≤R) (hP:3≤P) (h1:c ^ P.toNat % R = 1) {a b:Int} (ha:0≤a) (hb:0≤b) (hab:a % P = b % P):c ^ a.toNat % R = c ^ b.toNat % R:=by
 rw [← el_mod hR h1 a.toNat,← el_mod hR h1 b.toNat]
 congr 2
 have h1:((a.toNat % P.toNat:Nat):Int) = ((b.toNat % P.toNat:Nat):Int):=by
  rw [Int.natCast_emod,Int.natCast_emod,Int.toNat_of_nonneg ha,Int.toNat_of_nonneg hb,Int.toNat_of_nonneg (by omega)];exact hab
 omega
theorem ndvd_pow {R a:Int} (h:PrimeI R) (ha:¬ R ∣ a):∀ n:Nat,¬ R ∣ a ^ n
 | 0=>by simpa using not_dvd_small (by omega) h.1
 | n+1=>fun hd=>by
  rw [Int.pow_succ] at hd
  rcases h.mul hd with h1 | h1
  ·exact ndvd_pow h ha n h1
  ·exact ha h1
theorem el_inj0 {R P G:Int} (h:GroupI R P G) {a b:Int} (ha:0≤a) (hab:a≤b) (hb:b < P) (he:G ^ a.toNat % R = G ^ b.toNat % R):a = b:=by
 obtain ⟨hR,hP,hd,hG,pR,pP,one⟩:=h
 refine Classical.byContradiction fun hne=>?_
 have e1:b.toNat = a.toNat+(b - a).toNat:=by omega
 have h1:R ∣ G ^ a.toNat * (G ^ (b - a).toNat - 1):=by
  rw [Int.mul_sub,Int.mul_one,← Int.pow_add,← e1];exact dvd_sub_of_emod he.symm
 have h2:R ∣ G ^ (b - a).toNat - 1:=(pR.mul h1).resolve_left (ndvd_pow pR (not_dvd_small (by omega) (by omega)) _)
 have h3:G ^ (b - a).toNat % R = 1:=by
  rw [emod_of_dvd_sub h2];exact Int.emod_eq_of_lt (by omega) (by omega)
 have h4:=inv_mul pP hP.1 (not_dvd_small (R:=P) (a:=b - a) (by omega) (by omega))
 have h5:0≤(b - a) ^ (P - 2).toNat % P:=Int.emod_nonneg _ (by omega)
 have h6:G ^ ((b - a) * ((b - a) ^ (P - 2).toNat % P)).toNat % R = G ^ (1:Int).toNat % R :=
  el_congr hR.1 hP.1 one (Int.mul_nonneg (by omega) h5) (by omega) (by rw [h4];exact (Int.emod_eq_of_lt (by omega) (by omega)).symm)
 have h7:((b - a) * ((b - a) ^ (P - 2).toNat % P)).toNat = (b - a).toNat * ((b - a) ^ (P - 2).toNat % P).toNat:=by
  have:(((b - a).toNat * ((b - a) ^ (P - 2).toNat % P).toNat:Nat):Int) = (b - a) * ((b - a) ^ (P - 2).toNat % P):=by
   rw [Int.natCast_mul,Int.toNat_of_nonneg (by omega),Int.toNat_of_nonneg h5]
  omega
 rw [h7,Int.pow_mul,← pow_emod,h3,Int.one_pow,Int.emod_eq_of_lt (by omega) (by omega)] at h6
 have h8:G ^ (1:Int).toNat = G:=by show G ^ 1 = G;rw [Int.pow_succ,Int.pow_zero,Int.one_mul]
 rw [h8,Int.emod_eq_of_lt (by omega) hG.2] at h6
 omega
theorem el_inj {R P G:Int} (h:GroupI R P G) {a b:Int} (ha:0≤a∧a < P) (hb:0≤b∧b < P) (he:G ^ a.toNat % R = G ^ b.toNat % R):a = b:=by
 by_cases hab:a≤b
 ·exact el_inj0 h ha.1 hab hb.2 he
 ·exact (el_inj0 h hb.1 (by omega) ha.2 he.symm).symm
def hornR (R:Int) (x:Nat):List Int→Int
 | []=>1
 | c::l=>(hornR R x l ^ x % R) * c % R
def comM (R G:Int) (A:List Int):List Int:=A.map fun a=>G ^ a.toNat % R
theorem evI_nonneg {x:Int} (hx:0≤x):∀ {A:List Int},(∀ a∈A,0≤a)→0≤evI A x
 | [],_=>by simp [evI]
 | a::A,h=>by
  show 0≤a+x * evI A x
  have h1:=h a (by simp)
  have h2:=Int.mul_nonneg hx (evI_nonneg hx (A:=A) fun b hb=>h b (List.mem_cons_of_mem _ hb))
  omega
theorem due_com {R P G x:Int} (h:GroupI R P G) (hx:0≤x):∀ {A:List Int},(∀ a∈A,0≤a)→hornR R x.toNat (comM R G A) = G ^ (evI A x).toNat % R
 | [],_=>by
  have hR:=h.hR
  show 1 = G ^ (0:Int).toNat % R
  rw [Int.toNat_zero,Int.pow_zero];exact (Int.emod_eq_of_lt (by omega) (by omega)).symm
 | a::A,hA=>by
  have h1:=hA a (by simp)
  have h2:=evI_nonneg hx (A:=A) fun b hb=>hA b (List.mem_cons_of_mem _ hb)
  show (hornR R x.toNat (comM R G A) ^ x.toNat % R) * (G ^ a.toNat % R) % R = G ^ (a+x * evI A x).toNat % R
  rw [due_com h hx (A:=A) fun b hb=>hA b (List.mem_cons_of_mem _ hb),pow_emod,← Int.mul_emod,← Int.pow_mul,← Int.pow_add]
  congr 2
  have h3:=Int.mul_nonneg hx h2
  have:(((evI A x).toNat * x.toNat:Nat):Int) = x * evI A x:=by
   rw [Int.natCast_mul,Int.toNat_of_nonneg h2,Int.toNat_of_nonneg hx,Int.mul_comm]
  omega
theorem fits_iff {R P G x s:Int} (h:GroupI R P G) (hx:0≤x) {A:List Int} (hA:∀ a∈A,0≤a) (hs:0≤s∧s < P):hornR R x.toNat (comM R G A) = G ^ s.toNat % R↔s = valM P x A:=by
 have hR:=h.hR
 have hP:=h.hP
 have hv:=valM_rng (P:=P) (x:=x) (by omega) A
 have e1:hornR R x.toNat (comM R G A) = G ^ (valM P x A).toNat % R:=by
  rw [due_com h hx hA]
  exact el_congr hR.1 hP.1 h.one (evI_nonneg hx hA) hv.1 (by rw [valM_ev,Int.emod_emod])
 rw [e1]
 exact ⟨fun e=>(el_inj h hv hs e).symm,fun e=>by rw [e]⟩
theorem hasB_pow {R P G:Int} (h:GroupI R P G) (n:Int):hasB R P (G ^ n.toNat % R) = true:=by
 have hR:=h.hR
 have h1:(G ^ n.toNat % R) ^ P.toNat % R = 1:=by
  rw [pow_emod,← Int.pow_mul,Nat.mul_comm,Int.pow_mul,← pow_emod,h.one,Int.one_pow]
  exact Int.emod_eq_of_lt (by omega) (by omega)
 have h2:0≤G ^ n.toNat % R:=Int.emod_nonneg _ (by omega)
 have h3:G ^ n.toNat % R < R:=Int.emod_lt_of_pos _ (by omega)
 have h4:G ^ n.toNat % R≠0:=fun e=>by
  rw [e,Int.zero_pow (by have:=h.hP;omega)] at h1;simp at h1
 simp only [hasB,Bool.and_eq_true,decide_eq_true_eq]
 exact ⟨by omega,h1⟩
end Go.Dp
namespace Go.Dp
open Go.RowKit
set_option linter.unusedVariables false
set_option maxRecDepth 100000
def bigF:Nat:=1040601409259347307201936192180013345347014657661481674909487127315775177503686880595638769067372563846598523942614636734666037394466736676767376766772139444337953182801020212046966620754733944587196386019851684172289789627555144798861708096993281159898282109788034252065451039548249911401392971342809618092235359486014133921255952208769369326059161391345853896057953327303951645891358009787224205830067606822995116270397694458349180567630356146159825702427322054544754752754643486383201441571621226189433643636788627570547402217021626496647400260019158925499454072818271438715426626884035250801465758628560172400953007098778663686277758908419723113336323466371153156574391356591854054281766436978319094161405317079333099385962088492365133502000941014098715125563854871855500551871219889003233247883877324310209562899035485814140712376812035246617104641761442462284922470358869360011682234793183229828225786244178097999620255401943164707395024489228228900406344989958533052173810516162207566524127683064434870800810263983510
def smallF:Nat:=1212572281469974431553408211851070062469437482860551096495184126054682082412843455708022655532724910
noncomputable def cvO (n:Nat):Nat→Bool :=
 Nat.rec (fun _=>true) (fun _ ih d=>bif Nat.beq (Nat.gcd d bigF) 1 then false else ih (Nat.add d 1)) n
noncomputable def fnO (p n:Nat):Nat→Bool :=
 Nat.rec (fun _=>false) (fun _ ih r=>bif Nat.beq (Nat.gcd r bigF) 1 then Nat.ble r 5764800 else ih (Nat.add r (Nat.add p p))) n
def okG (g p:Nat) (b:Bool):Bool:=bif (bif Nat.ble 2 g then Nat.blt g p else false) then true else b
noncomputable def okO (p:Nat):Bool:=okG (Nat.gcd p smallF) p (fnO p 2000 (Nat.add (Nat.add p p) 1))
noncomputable def chO (n:Nat):Nat→Bool :=
 Nat.rec (fun _=>true) (fun _ ih p=>bif okO p then ih (Nat.add p 2) else false) n
theorem cv_all:cvO 2399 2 = true:=by kernel_rfl
theorem ch1:chO 8192 3 = true:=by kernel_rfl
theorem ch2:chO 8192 16387 = true:=by kernel_rfl
theorem ch3:chO 8192 32771 = true:=by kernel_rfl
theorem ch4:chO 8184 49155 = true:=by kernel_rfl
theorem cvO_of:∀ n d,cvO n d = true→∀ e,d≤e→e < d+n→Nat.gcd e bigF≠1
 | 0,d,_,e,h1,h2=>by omega
 | n+1,d,h,e,h1,h2=>by
  have h':(bif Nat.beq (Nat.gcd d bigF) 1 then false else cvO n (d+1)) = true:=h
  cases hb:Nat.beq (Nat.gcd d bigF) 1
  ·rw [hb] at h'
   by_cases he:e = d
   ·subst he;intro hc;rw [hc] at hb;cases hb
   ·exact cvO_of n (d+1) h' e (by omega) (by omega)
  ·rw [hb] at h';cases h'
theorem fnO_of:∀ p n r,fnO p n r = true→∃ j,Nat.gcd (r+j * (p+p)) bigF = 1∧r+j * (p+p)≤5764800
 | p,0,r,h=>by cases (show false = true from h)
 | p,n+1,r,h=>by
  have h':(bif Nat.beq (Nat.gcd r bigF) 1 then Nat.ble r 5764800 else fnO p n (r+(p+p))) = true:=h
  cases hb:Nat.beq (Nat.gcd r bigF) 1
  ·rw [hb] at h'
   obtain ⟨j,h1,h2⟩:=fnO_of p n _ h'
   exact ⟨j+1,by rw [Nat.add_mul,Nat.one_mul,Nat.add_comm (j * _),← Nat.add_assoc];exact h1,by rw [Nat.add_mul,Nat.one_mul,Nat.add_comm (j * _),← Nat.add_assoc];exact h2⟩
  ·rw [hb] at h'
   exact ⟨0,by rw [Nat.zero_mul,Nat.add_zero];exact Nat.eq_of_beq_eq_true hb,by rw [Nat.zero_mul,Nat.add_zero];exact Nat.le_of_ble_eq_true h'⟩
theorem chO_of:∀ n p,chO n p = true→∀ i,i < n→okO (p+2 * i) = true
 | 0,p,_,i,hi=>by omega
 | n+1,p,h,i,hi=>by
  have h':(bif okO p then chO n (p+2) else false) = true:=h
  cases hb:okO p
  ·rw [hb] at h';cases h'
  ·rw [hb] at h'
   cases i with
   | zero=>exact hb
   | succ i =>
    have:=chO_of n (p+2) h' i (by omega)
    rwa [show p+2 * (i+1) = p+2+2 * i by omega]
theorem okG_of {g p:Nat} {b:Bool} (h:okG g p b = true):(2≤g∧g < p)∨b = true:=by
 unfold okG at h
 cases hc:Nat.ble 2 g
 ·rw [hc] at h;simp only [cond_false] at h;exact .inr h
 ·rw [hc] at h
  simp only [cond_true] at h
  cases hd:Nat.blt g p
  ·rw [hd] at h;simp only [cond_false] at h;exact .inr h
  ·exact .inl ⟨Nat.le_of_ble_eq_true hc,Nat.le_of_ble_eq_true hd⟩
theorem okO_of {p:Nat} (h:okO p = true):∃ g,g = Nat.gcd p smallF∧((2≤g∧g < p)∨fnO p 2000 (Nat.add (Nat.add p p) 1) = true):=⟨_,rfl,okG_of h⟩
theorem okO_all {p:Nat} (h1:3≤p) (h2:p≤65521) (h3:p % 2 = 1):okO p = true:=by
 by_cases a1:p < 16387
 ·have:=chO_of _ _ ch1 ((p - 3) / 2) (by omega);rwa [show 3+2 * ((p - 3) / 2) = p by omega] at this
 by_cases a2:p < 32771
 ·have:=chO_of _ _ ch2 ((p - 16387) / 2) (by omega);rwa [show 16387+2 * ((p - 16387) / 2) = p by omega] at this
 by_cases a3:p < 49155
 ·have:=chO_of _ _ ch3 ((p - 32771) / 2) (by omega);rwa [show 32771+2 * ((p - 32771) / 2) = p by omega] at this
 ·have:=chO_of _ _ ch4 ((p - 49155) / 2) (by omega);rwa [show 49155+2 * ((p - 49155) / 2) = p by omega] at this
theorem prime_gcd {r:Nat} (h1:1 < r) (h2:r≤5764800) (hg:Nat.gcd r bigF = 1):PrimeI (r:Int):=by
 refine ⟨by omega,fun d hd1 hd2 hz=>?_⟩
 have hd3:d≤2400:=by
  by_cases h:d≤2400
  ·exact h
  ·have : (2401 : Int) * 2401 ≤ d * d := Int.mul_le_mul (by omega) (by omega) (by omega) (by omega)
   omega
 obtain ⟨e,rfl⟩:∃ e:Nat,d = e:=⟨d.toNat,by omega⟩
 have hdv:e ∣ r:=Int.natCast_dvd_natCast.1 (Int.dvd_of_emod_eq_zero hz)
 have h3:Nat.gcd e bigF ∣ Nat.gcd r bigF:=Nat.gcd_dvd_gcd_of_dvd_left _ hdv
 rw [hg] at h3
 exact cvO_of _ _ cv_all e (by omega) (by omega) (Nat.dvd_one.1 h3)
theorem above_ex {p:Int} (h:PrimeI p) (h1:3≤p) (h2:p≤65521):∃ K:Nat,PrimeI (p+1+K * p)∧p+1+K * p≤5764800:=by
 obtain ⟨q,rfl⟩:∃ q:Nat,p = q:=⟨p.toNat,by omega⟩
 have hodd:q % 2 = 1:=by
  by_cases h4:(4:Int)≤q
  ·have:=h.2 2 (by omega) (by omega);omega
  ·omega
 have hok:=okO_all (p:=q) (by omega) (by omega) hodd
 have hf:fnO q 2000 (Nat.add (Nat.add q q) 1) = true:=by
  obtain ⟨g,hg,⟨hl2,hl⟩ | hf⟩:=okO_of hok
  ·exfalso
   have hdv:(g:Int) ∣ (q:Int):=Int.natCast_dvd_natCast.2 (by rw [hg];exact Nat.gcd_dvd_left _ _)
   clear hg
   rcases h.dvd hdv (by omega) with e | e <;> omega
  ·exact hf
 obtain ⟨j,hj1,hj2⟩:=fnO_of _ _ _ hf
 rw [show Nat.add (Nat.add q q) 1 = q+q+1 from rfl] at hj1 hj2
 have hp:=prime_gcd (by omega) hj2 hj1
 have e:((q+q+1+j * (q+q):Nat):Int) = (q:Int)+1+((1+2 * j:Nat):Int) * q:=by
  simp only [Int.natCast_add,Int.natCast_mul,Int.natCast_one,Int.add_mul,Int.mul_add,Int.one_mul]
  have:((2:Nat):Int) * (j:Int) * (q:Int) = (j:Int) * q+(j:Int) * q:=by
   rw [Int.mul_assoc];omega
  rw [this];omega
 rw [e] at hp
 exact ⟨1+2 * j,hp,by rw [← e];omega⟩
end Go.Dp
