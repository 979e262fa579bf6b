import Derived.Test.YtlbjgnkjicifhaaGreatDpCore
import Derived.Attr
namespace Go.Dp
open Go.RowKit
set_option linter.unusedVariables false
def PrimeI (n:Int):Prop:=1 < n∧∀ d,2≤d→d * d≤n→n % d≠0
theorem PrimeI.dvd {n d:Int} (h:PrimeI n) (hd:d ∣ n) (h0:0 < d):d = 1∨d = n:=by
 obtain ⟨e,he⟩:=hd
 have hn:=h.1
 have he0:0 < e:=by
  by_cases h1:0 < e
  ·exact h1
  ·have : d * e ≤ 0 := Int.mul_nonpos_of_nonneg_of_nonpos (by omega) (by omega)
   omega
 by_cases h1:d = 1
 ·exact .inl h1
 by_cases h2:e = 1
 ·subst h2;right;omega
 exfalso
 by_cases h3:d≤e
 ·have : d * d ≤ d * e := Int.mul_le_mul_of_nonneg_left h3 (by omega)
  exact h.2 d (by omega) (by omega) (by rw [he];exact Int.mul_emod_right d e)
 ·have : e * e ≤ d * e := Int.mul_le_mul_of_nonneg_right (by omega) (by omega)
  exact h.2 e (by omega) (by omega) (by rw [he];exact Int.mul_emod_left d e)
theorem PrimeI.mul {R a b:Int} (h:PrimeI R) (hd:R ∣ a * b):R ∣ a∨R ∣ b:=by
 have h1:=h.1
 have hg:((Int.gcd R a:Nat):Int) ∣ R:=Int.gcd_dvd_left R a
 have hg0:0 < ((Int.gcd R a:Nat):Int):=by
  have:Int.gcd R a≠0:=fun e=>by
   have:=(Int.gcd_eq_zero_iff.1 e).1;omega
  omega
 rcases h.dvd hg hg0 with e | e
 ·right
  have hc:Nat.Coprime R.natAbs a.natAbs:=by
   have:Int.gcd R a = 1:=by omega
   exact this
  have h2:R.natAbs ∣ a.natAbs * b.natAbs:=by
   rw [← Int.natAbs_mul];exact Int.natAbs_dvd_natAbs.2 hd
  exact Int.natAbs_dvd_natAbs.1 (hc.dvd_of_dvd_mul_left h2)
 ·left
  have:=Int.gcd_dvd_right R a
  rwa [e] at this
theorem not_dvd_small {R a:Int} (h0:0 < a) (h1:a < R):¬ R ∣ a:=fun h=>by
 have:=Int.le_of_dvd h0 h;omega
theorem emod_of_dvd_sub {R a b:Int} (h:R ∣ a - b):a % R = b % R:=by
 rw [Int.emod_eq_emod_iff_emod_sub_eq_zero];exact Int.emod_eq_zero_of_dvd h
theorem dvd_sub_of_emod {R a b:Int} (h:a % R = b % R):R ∣ a - b:=by
 rw [Int.emod_eq_emod_iff_emod_sub_eq_zero] at h;exact Int.dvd_of_emod_eq_zero h
theorem perm_of_sub {M:List Int}:∀ {L:List Int},M.Nodup→(∀ x∈M,x∈L)→L.length≤M.length→M.Perm L:=by
 induction M with
 | nil=>intro L _ _ h;cases L with | nil=>exact .refl _ | cons _ _=>simp at h
 | cons x M ih =>
  intro L hn hs hl
  rw [List.nodup_cons] at hn
  have hx:x∈L:=hs x (by simp)
  have h1:=List.perm_cons_erase hx
  have h2:(L.erase x).length = L.length - 1:=List.length_erase_of_mem hx
  have h3:M.Perm (L.erase x):=ih hn.2 (fun y hy=>by
   have hne:y≠x:=fun e=>hn.1 (e ▸ hy)
   exact (List.mem_erase_of_ne hne).2 (hs y (List.mem_cons_of_mem _ hy))) (by simp at hl;omega)
  exact (h3.cons x).trans h1.symm
def prodI:List Int→Int
 | []=>1
 | a::l=>a * prodI l
theorem prodI_perm {M L:List Int} (h:M.Perm L):prodI M = prodI L:=by
 induction h with
 | nil=>rfl
 | cons x _ ih=>simp only [prodI,ih]
 | swap x y l=>simp only [prodI];rw [← Int.mul_assoc,← Int.mul_assoc,Int.mul_comm y x]
 | trans _ _ a b=>exact a.trans b
theorem prodI_map {a R:Int} (L:List Int):prodI (L.map fun x=>a * x % R) % R = a ^ L.length * prodI L % R:=by
 induction L with
 | nil=>simp [prodI]
 | cons x l ih =>
  simp only [List.map_cons,prodI,List.length_cons]
  rw [Int.mul_emod,ih,Int.emod_emod,← Int.mul_emod,Int.pow_succ]
  congr 1
  rw [Int.mul_assoc a x,Int.mul_assoc (a ^ l.length) a,Int.mul_left_comm x,Int.mul_left_comm a]
theorem prodI_not {R:Int} (h:PrimeI R):∀ L:List Int,(∀ x∈L,¬ R ∣ x)→¬ R ∣ prodI L
 | [],_=>by simpa [prodI] using not_dvd_small (R:=R) (a:=1) (by omega) h.1
 | a::l,hl=>fun hd=>by
  rcases h.mul hd with h1 | h1
  ·exact hl a (by simp) h1
  ·exact prodI_not h l (fun x hx=>hl x (List.mem_cons_of_mem _ hx)) h1
def upTo:Nat→List Int
 | 0=>[]
 | n+1=>((n+1:Nat):Int)::upTo n
theorem upTo_len:∀ n,(upTo n).length = n
 | 0=>rfl
 | n+1=>by simp [upTo,upTo_len n]
theorem mem_upTo {x:Int}:∀ {n:Nat},x∈upTo n↔1≤x∧x≤n
 | 0=>by simp [upTo];omega
 | n+1=>by
  simp only [upTo,List.mem_cons,mem_upTo (n:=n)];omega
theorem upTo_nodup:∀ n,(upTo n).Nodup
 | 0=>by simp [upTo]
 | n+1=>by
  simp only [upTo,List.nodup_cons,mem_upTo]
  exact ⟨by omega,upTo_nodup n⟩
theorem fermat {R a:Int} (h:PrimeI R) (ha:¬ R ∣ a):a ^ (R - 1).toNat % R = 1:=by
 have h1:=h.1
 have hlen:((R - 1).toNat:Int) = R - 1:=by omega
 have hL:∀ x∈upTo (R - 1).toNat,¬ R ∣ x:=fun x hx=>by
  rw [mem_upTo] at hx;exact not_dvd_small (by omega) (by omega)
 have hp:((upTo (R - 1).toNat).map fun x=>a * x % R).Perm (upTo (R - 1).toNat):=by
  refine perm_of_sub ?_ (fun y hy=>?_) (by simp)
  ·rw [List.Nodup,List.pairwise_map]
   refine (List.Pairwise.and_mem.1 (upTo_nodup _)).imp ?_
   rintro x y ⟨hx,hy,hne⟩ e
   rw [mem_upTo] at hx hy
   have hd:=dvd_sub_of_emod e
   rw [← Int.mul_sub] at hd
   rcases h.mul hd with h2 | h2
   ·exact ha h2
   ·obtain ⟨k,hk⟩:=h2
    by_cases h3:0 < k
    ·have : R * 1 ≤ R * k := Int.mul_le_mul_of_nonneg_left h3 (by omega)
     omega
    ·by_cases h4:k = 0
     ·subst h4;omega
     ·have : R * k ≤ R * (-1) := Int.mul_le_mul_of_nonneg_left (by omega) (by omega)
      omega
  ·obtain ⟨x,hx,rfl⟩:=List.mem_map.1 hy
   rw [mem_upTo]
   have h2:0≤a * x % R:=Int.emod_nonneg _ (by omega)
   have h3:a * x % R < R:=Int.emod_lt_of_pos _ (by omega)
   have h4:a * x % R≠0:=fun e=>by
    rcases h.mul (Int.dvd_of_emod_eq_zero e) with h5 | h5
    ·exact ha h5
    ·exact hL x hx h5
   omega
 have h2:=prodI_map (a:=a) (R:=R) (upTo (R - 1).toNat)
 rw [prodI_perm hp,upTo_len] at h2
 have h3:=dvd_sub_of_emod h2.symm
 have h4:R ∣ (a ^ (R - 1).toNat - 1) * prodI (upTo (R - 1).toNat):=by
  rw [Int.sub_mul,Int.one_mul];exact h3
 rcases h.mul h4 with h5 | h5
 ·have:=emod_of_dvd_sub h5
  rw [this];exact Int.emod_eq_of_lt (by omega) h1
 ·exact absurd h5 (prodI_not h _ hL)
def evI:List Int→Int→Int
 | [],_=>0
 | c::l,x=>c+x * evI l x
def quoI (a:Int):List Int→List Int
 | []=>[]
 | _::l=>match l with
  | []=>[]
  | c::m=>evI (c::m) a::quoI a (c::m)
theorem quoI_len (a:Int):∀ l:List Int,(quoI a l).length = l.length - 1
 | []=>rfl
 | [c]=>rfl
 | c::d::m=>by simp [quoI,quoI_len a (d::m)]
theorem quoI_ev (a x:Int):∀ l:List Int,evI l x - evI l a = (x - a) * evI (quoI a l) x
 | []=>by simp [quoI,evI]
 | [c]=>by simp [quoI,evI]
 | c::d::m=>by
  have ih:=quoI_ev a x (d::m)
  have e:evI (d::m) x = evI (d::m) a+(x - a) * evI (quoI a (d::m)) x:=by omega
  show c+x * evI (d::m) x - (c+a * evI (d::m) a) = (x - a) * (evI (d::m) a+x * evI (quoI a (d::m)) x)
  rw [e]
  generalize evI (d::m) a = A
  generalize evI (quoI a (d::m)) x = B
  rw [Int.mul_add,Int.mul_add,Int.sub_mul x a A,Int.mul_left_comm x (x - a) B]
  omega
theorem roots_all {R:Int} (h:PrimeI R):∀ (as l:List Int),l.length≤as.length→as.Pairwise (fun a b=>¬ R ∣ b - a)→(∀ a∈as,R ∣ evI l a)→∀ x,R ∣ evI l x
 | [],l,hl,_,_,x=>by
  have:l = []:=List.length_eq_zero_iff.1 (by simpa using hl)
  subst this;exact Int.dvd_zero _
 | a::as,l,hl,hp,hr,x=>by
  have hp':=List.pairwise_cons.1 hp
  have h0:=hr a (by simp)
  have hq:∀ b∈as,R ∣ evI (quoI a l) b:=fun b hb=>by
   have h1:=hr b (List.mem_cons_of_mem _ hb)
   have h2:R ∣ (b - a) * evI (quoI a l) b:=by
    rw [← quoI_ev];exact Int.dvd_sub h1 h0
   rcases h.mul h2 with h3 | h3
   ·exact absurd h3 (hp'.1 b hb)
   ·exact h3
  have h3:=roots_all h as (quoI a l) (by rw [quoI_len];simp at hl;omega) hp'.2 hq x
  have h4:R ∣ evI l x - evI l a:=by rw [quoI_ev];exact Int.dvd_mul_of_dvd_right h3
  have:=Int.dvd_add h4 h0
  rwa [Int.sub_add_cancel] at this
def xk (c:Int) (k:Nat):List Int:=c::(List.replicate (k - 1) 0++[1])
theorem evI_rep (x:Int):∀ n,evI (List.replicate n 0++[1]) x = x ^ n
 | 0=>by simp [evI]
 | n+1=>by
  rw [List.replicate_succ,List.cons_append]
  show 0+x * evI (List.replicate n 0++[1]) x = _
  rw [evI_rep x n,Int.pow_succ]
  rw [Int.mul_comm];omega
theorem evI_xk (c x:Int) {k:Nat} (h:0 < k):evI (xk c k) x = c+x ^ k:=by
 obtain ⟨k,rfl⟩:∃ n,k = n+1:=⟨k - 1,by omega⟩
 show c+x * evI (List.replicate k 0++[1]) x = _
 rw [evI_rep,Int.pow_succ,Int.mul_comm]
theorem no_root {R:Int} (h:PrimeI R) {k:Nat} (hk:0 < k) (hk2:(k:Int)+1 < R):∃ a,2≤a∧a < R∧a ^ k % R≠1:=by
 have h1:=h.1
 refine Classical.byContradiction fun hn=>?_
 have ha:∀ a,1≤a→a < R→a ^ k % R = 1:=fun a ha1 ha2=>by
  by_cases e:a = 1
  ·subst e;rw [Int.one_pow];exact Int.emod_eq_of_lt (by omega) h1
  ·refine Classical.byContradiction fun hc=>hn ⟨a,by omega,ha2,hc⟩
 have hr:∀ a∈upTo (k+1),R ∣ evI (xk (-1) k) a:=fun a hm=>by
  rw [mem_upTo] at hm
  rw [evI_xk _ _ hk]
  have h2:=ha a hm.1 (by omega)
  have h3:a ^ k % R = 1 % R:=by rw [h2];exact (Int.emod_eq_of_lt (by omega) h1).symm
  have:=dvd_sub_of_emod h3
  rwa [show -1+a ^ k = a ^ k - 1 by omega]
 have hp:(upTo (k+1)).Pairwise fun a b=>¬ R ∣ b - a:=by
  refine (List.Pairwise.and_mem.1 (upTo_nodup (k+1))).imp ?_
  rintro x y ⟨hx,hy,hne⟩ ⟨q,hq⟩
  rw [mem_upTo] at hx hy
  by_cases h3:0 < q
  ·have : R * 1 ≤ R * q := Int.mul_le_mul_of_nonneg_left h3 (by omega)
   omega
  ·by_cases h4:q = 0
   ·subst h4;omega
   ·have : R * q ≤ R * (-1) := Int.mul_le_mul_of_nonneg_left (by omega) (by omega)
    omega
 have h5:=roots_all h (upTo (k+1)) (xk (-1) k) (by simp [upTo_len,xk];omega) hp hr 0
 rw [evI_xk _ _ hk,Int.zero_pow (by omega)] at h5
 have h6:R ∣ 1:=by
  have:=Int.dvd_neg.2 h5
  simpa using this
 exact not_dvd_small (by omega) h1 h6
theorem pow_emod (a m:Int) (k:Nat):(a % m) ^ k % m = a ^ k % m:=by
 induction k with
 | zero=>simp
 | succ k ih=>rw [Int.pow_succ,Int.pow_succ,Int.mul_emod,ih,Int.emod_emod,← Int.mul_emod]
def valM (P x:Int):List Int→Int
 | []=>0
 | c::l=>(valM P x l * (x % P) % P+c) % P
theorem valM_ev {P x:Int}:∀ l:List Int,valM P x l = evI l x % P
 | []=>by simp [valM,evI]
 | c::l=>by
  show (valM P x l * (x % P) % P+c) % P = (c+x * evI l x) % P
  rw [valM_ev l,← Int.mul_emod,Int.emod_add_emod,Int.add_comm,Int.mul_comm]
theorem valM_rng {P x:Int} (hP:0 < P) (l:List Int):0≤valM P x l∧valM P x l < P:=by
 rw [valM_ev];exact ⟨Int.emod_nonneg _ (by omega),Int.emod_lt_of_pos _ hP⟩
theorem quoI_back {R a:Int}:∀ l:List Int,R ∣ evI l a→(∀ c∈quoI a l,R ∣ c)→∀ c∈l,R ∣ c
 | [],_,_,c,h=>by cases h
 | [b],h,_,c,hc=>by
  have:c = b:=by simpa using hc
  subst this;simpa [evI] using h
 | b::d::m,h,hq,c,hc=>by
  have h1:R ∣ evI (d::m) a:=hq _ (by simp [quoI])
  have h2:∀ c∈quoI a (d::m),R ∣ c:=fun c hc=>hq c (by simp [quoI,hc])
  rcases List.mem_cons.1 hc with rfl | hc
  ·have h3:R ∣ c+a * evI (d::m) a:=h
   have h4:R ∣ a * evI (d::m) a:=Int.dvd_mul_of_dvd_right h1
   have:=Int.dvd_sub h3 h4
   rwa [Int.add_sub_cancel] at this
  ·exact quoI_back (d::m) h1 h2 c hc
theorem roots_coef {R:Int} (h:PrimeI R):∀ (as l:List Int),l.length≤as.length→as.Pairwise (fun a b=>¬ R ∣ b - a)→(∀ a∈as,R ∣ evI l a)→∀ c∈l,R ∣ c
 | [],l,hl,_,_,c,hc=>by
  have:l = []:=List.length_eq_zero_iff.1 (by simpa using hl)
  subst this;cases hc
 | a::as,l,hl,hp,hr,c,hc=>by
  have hp':=List.pairwise_cons.1 hp
  have h0:=hr a (by simp)
  have hq:∀ b∈as,R ∣ evI (quoI a l) b:=fun b hb=>by
   have h1:=hr b (List.mem_cons_of_mem _ hb)
   have h2:R ∣ (b - a) * evI (quoI a l) b:=by
    rw [← quoI_ev];exact Int.dvd_sub h1 h0
   rcases h.mul h2 with h3 | h3
   ·exact absurd h3 (hp'.1 b hb)
   ·exact h3
  exact quoI_back l h0 (roots_coef h as (quoI a l) (by rw [quoI_len];simp at hl;omega) hp'.2 hq) c hc
def subI:List Int→List Int→List Int
 | [],m=>m.map fun b=>-b
 | l,[]=>l
 | a::l,b::m=>(a - b)::subI l m
theorem evI_neg (x:Int):∀ m:List Int,evI (m.map fun b=>-b) x = - evI m x
 | []=>rfl
 | b::m=>by
  show -b+x * evI (m.map fun b=>-b) x = -(b+x * evI m x)
  rw [evI_neg x m,Int.mul_neg,Int.neg_add]
theorem evI_sub (x:Int):∀ l m:List Int,evI (subI l m) x = evI l x - evI m x
 | [],m=>by simp [subI,evI_neg,evI]
 | a::l,[]=>by simp [subI,evI]
 | a::l,b::m=>by
  show (a - b)+x * evI (subI l m) x = a+x * evI l x - (b+x * evI m x)
  rw [evI_sub x l m,Int.mul_sub];omega
theorem subI_len:∀ l m:List Int,(subI l m).length = max l.length m.length
 | [],m=>by simp [subI]
 | a::l,[]=>by simp [subI]
 | a::l,b::m=>by simp [subI,subI_len l m]
theorem subI_get:∀ {l m:List Int} {i:Nat} (hl:i < l.length) (hm:i < m.length),(l[i] - m[i])∈subI l m
 | a::l,b::m,0,_,_=>by simp [subI]
 | a::l,b::m,i+1,hl,hm=>by
  simp only [subI,List.getElem_cons_succ]
  exact List.mem_cons_of_mem _ (subI_get (by simpa using hl) (by simpa using hm))
theorem poly_uniq {R:Int} (h:PrimeI R) {as l m:List Int} (hl:l.length≤as.length) (hm:m.length = l.length) (hp:as.Pairwise (fun a b=>¬ R ∣ b - a)) (ha:∀ a∈as,evI l a % R = evI m a % R)
  (rl:∀ c∈l,0≤c∧c < R) (rm:∀ c∈m,0≤c∧c < R):l = m:=by
 have h1:=roots_coef h as (subI l m) (by rw [subI_len];omega) hp (fun a hA=>by rw [evI_sub];exact dvd_sub_of_emod (ha a hA))
 refine List.ext_getElem hm.symm fun i hi hi2=>?_
 have h2:=emod_of_dvd_sub (h1 _ (subI_get hi hi2))
 have h3:=rl _ (List.getElem_mem hi)
 have h4:=rm _ (List.getElem_mem hi2)
 rwa [Int.emod_eq_of_lt h3.1 h3.2,Int.emod_eq_of_lt h4.1 h4.2] at h2
def prodAt (z:Int):List Int→Int
 | []=>1
 | y::ys=>(y - z) * prodAt z ys
theorem prodAt_zero {z:Int}:∀ {ys:List Int},z∈ys→prodAt z ys = 0
 | y::ys,h=>by
  rcases List.mem_cons.1 h with rfl | h
  ·simp [prodAt]
  ·simp [prodAt,prodAt_zero h]
theorem prodAt_ndvd {R z:Int} (h:PrimeI R):∀ ys:List Int,(∀ y∈ys,¬ R ∣ y - z)→¬ R ∣ prodAt z ys
 | [],_=>not_dvd_small (by simp [prodAt]) (by simpa [prodAt] using h.1)
 | y::ys,hn=>fun hd=>by
  rcases h.mul hd with h1 | h1
  ·exact hn y (by simp) h1
  ·exact prodAt_ndvd h ys (fun y hy=>hn y (List.mem_cons_of_mem _ hy)) h1
def others (x:Int) (xs:List Int):List Int:=xs.filter fun y=>decide (y≠x)
theorem inv_mul {R c:Int} (h:PrimeI R) (hR:3≤R) (hc:¬ R ∣ c):c * (c ^ (R - 2).toNat % R) % R = 1:=by
 rw [Int.mul_emod,Int.emod_emod,← Int.mul_emod]
 have e:c * c ^ (R - 2).toNat = c ^ (R - 1).toNat:=by
  rw [show (R - 1).toNat = (R - 2).toNat+1 by omega,Int.pow_succ,Int.mul_comm]
 rw [e];exact fermat h hc
structure GroupI (R P G:Int):Prop where
 hR:3≤R∧R≤2147483647
 hP:3≤P∧P≤65521
 hd:(R - 1) % P = 0
 hG:2≤G∧G < R
 pR:PrimeI R
 pP:PrimeI P
 one:G ^ P.toNat % R = 1
abbrev grp (R P G:Int):V:=.agg [.int .i64 R,.int .i64 P,.int .i64 G]
def hasB (R P x:Int):Bool:=decide (1≤x∧x < R) && decide (x ^ P.toNat % R = 1)
theorem hasB_iff {R P x:Int}:hasB R P x = true↔(1≤x∧x < R)∧x ^ P.toNat % R = 1:=by simp [hasB]
theorem el_mod {R P c:Int} (hR:3≤R) (h1:c ^ P.toNat % R = 1) (n:Nat):c ^ (n % P.toNat) % R = c ^ n % R:=by
 have e:n = P.toNat * (n / P.toNat)+n % P.toNat:=(Nat.div_add_mod _ _).symm
 have h3:c ^ (P.toNat * (n / P.toNat)) % R = 1:=by
  rw [Int.pow_mul,← pow_emod,h1,Int.one_pow];exact Int.emod_eq_of_lt (by omega) (by omega)
 have h2:c ^ n % R = c ^ (P.toNat * (n / P.toNat)) * c ^ (n % P.toNat) % R:=by rw [← Int.pow_add,← e]
 rw [h2,Int.mul_emod,h3,Int.one_mul,Int.emod_emod]
theorem el_congr {R P c:Int} (hR:3≤R) (hP:3≤P) (h1:c ^ P.toNat % R = 1) {a b:Int} (ha:0≤a) (hb:0≤b) (hab:a % P = b % P):c ^ a.toNat % R = c ^ b.toNat % R:=by
 rw [← el_mod hR h1 a.toNat,← el_mod hR h1 b.toNat]
 congr 2
 have h1:((a.toNat % P.toNat:Nat):Int) = ((b.toNat % P.toNat:Nat):Int):=by
  rw [Int.natCast_emod,Int.natCast_emod,Int.toNat_of_nonneg ha,Int.toNat_of_nonneg hb,Int.toNat_of_nonneg (by omega)];exact hab
 omega
theorem ndvd_pow {R a:Int} (h:PrimeI R) (ha:¬ R ∣ a):∀ n:Nat,¬ R ∣ a ^ n
 | 0=>by simpa using not_dvd_small (by omega) h.1
 | n+1=>fun hd=>by
  rw [Int.pow_succ] at hd
  rcases h.mul hd with h1 | h1
  ·exact ndvd_pow h ha n h1
  ·exact ha h1
theorem el_inj0 {R P G:Int} (h:GroupI R P G) {a b:Int} (ha:0≤a) (hab:a≤b) (hb:b < P) (he:G ^ a.toNat % R = G ^ b.toNat % R):a = b:=by
 obtain ⟨hR,hP,hd,hG,pR,pP,one⟩:=h
 refine Classical.byContradiction fun hne=>?_
 have e1:b.toNat = a.toNat+(b - a).toNat:=by omega
 have h1:R ∣ G ^ a.toNat * (G ^ (b - a).toNat - 1):=by
  rw [Int.mul_sub,Int.mul_one,← Int.pow_add,← e1];exact dvd_sub_of_emod he.symm
 have h2:R ∣ G ^ (b - a).toNat - 1:=(pR.mul h1).resolve_left (ndvd_pow pR (not_dvd_small (by omega) (by omega)) _)
 have h3:G ^ (b - a).toNat % R = 1:=by
  rw [emod_of_dvd_sub h2];exact Int.emod_eq_of_lt (by omega) (by omega)
 have h4:=inv_mul pP hP.1 (not_dvd_small (R:=P) (a:=b - a) (by omega) (by omega))
 have h5:0≤(b - a) ^ (P - 2).toNat % P:=Int.emod_nonneg _ (by omega)
 have h6:G ^ ((b - a) * ((b - a) ^ (P - 2).toNat % P)).toNat % R = G ^ (1:Int).toNat % R :=
  el_congr hR.1 hP.1 one (Int.mul_nonneg (by omega) h5) (by omega) (by rw [h4];exact (Int.emod_eq_of_lt (by omega) (by omega)).symm)
 have h7:((b - a) * ((b - a) ^ (P - 2).toNat % P)).toNat = (b - a).toNat * ((b - a) ^ (P - 2).toNat % P).toNat:=by
  have:(((b - a).toNat * ((b - a) ^ (P - 2).toNat % P).toNat:Nat):Int) = (b - a) * ((b - a) ^ (P - 2).toNat % P):=by
   rw [Int.natCast_mul,Int.toNat_of_nonneg (by omega),Int.toNat_of_nonneg h5]
  omega
 rw [h7,Int.pow_mul,← pow_emod,h3,Int.one_pow,Int.emod_eq_of_lt (by omega) (by omega)] at h6
 have h8:G ^ (1:Int).toNat = G:=by show G ^ 1 = G;rw [Int.pow_succ,Int.pow_zero,Int.one_mul]
 rw [h8,Int.emod_eq_of_lt (by omega) hG.2] at h6
 omega
theorem el_inj {R P G:Int} (h:GroupI R P G) {a b:Int} (ha:0≤a∧a < P) (hb:0≤b∧b < P) (he:G ^ a.toNat % R = G ^ b.toNat % R):a = b:=by
 by_cases hab:a≤b
 ·exact el_inj0 h ha.1 hab hb.2 he
 ·exact (el_inj0 h hb.1 (by omega) ha.2 he.symm).symm
def hornR (R:Int) (x:Nat):List Int→Int
 | []=>1
 | c::l=>(hornR R x l ^ x % R) * c % R
def mP (x:Nat):List Int→Int
 | []=>1
 | c::l=>c * mP x l ^ x
theorem hornR_mP {R:Int} (hR:3≤R) {x:Nat}:∀ l,hornR R x l = mP x l % R
 | []=>(Int.emod_eq_of_lt (by omega) (by omega):(1:Int) % R = 1).symm
 | c::l=>by
  show (hornR R x l ^ x % R) * c % R = c * mP x l ^ x % R
  rw [hornR_mP hR l,pow_emod,Int.mul_emod,Int.emod_emod,← Int.mul_emod,Int.mul_comm]
def refQ (R P x:Int):Int→Int→List Int→Int
 | acc,_,[]=>acc
 | acc,at',c::l=>refQ R P x (acc * (c ^ at'.toNat % R) % R) (at' * x % P) l
def mQ (x:Nat):Nat→List Int→Int
 | _,[]=>1
 | e,c::l=>c ^ e * mQ x (e * x) l
theorem mQ_mP {x:Nat}:∀ (l:List Int) (e:Nat),mQ x e l = mP x l ^ e
 | [],e=>(Int.one_pow).symm
 | c::l,e=>by
  show c ^ e * mQ x (e * x) l = (c * mP x l ^ x) ^ e
  rw [mQ_mP l,Int.mul_pow,← Int.pow_mul,Nat.mul_comm]
theorem refQ_mQ {R P x:Int} (hR:3≤R) (hP:3≤P) (hx:0≤x):∀ (l:List Int) (acc at':Int) (e:Nat),(∀ c∈l,c ^ P.toNat % R = 1)→0≤acc→acc < R→0≤at'→at' % P = (e:Int) % P→refQ R P x acc at' l = acc * mQ x.toNat e l % R
 | [],acc,at',e,_,h0,h1,_,_=>by show acc = acc * 1 % R;rw [Int.mul_one,Int.emod_eq_of_lt h0 h1]
 | c::l,acc,at',e,hc,h0,h1,h2,h3=>by
  show refQ R P x (acc * (c ^ at'.toNat % R) % R) (at' * x % P) l = acc * (c ^ e * mQ x.toNat (e * x.toNat) l) % R
  have h4:c ^ at'.toNat % R = c ^ e % R:=by
   have:=el_congr hR hP (hc c (by simp)) h2 (Int.natCast_nonneg e) h3
   rwa [Int.toNat_natCast] at this
  rw [refQ_mQ hR hP hx l _ _ (e * x.toNat) (fun c' hc' => hc c' (List.mem_cons_of_mem _ hc')) (Int.emod_nonneg _ (by omega)) (Int.emod_lt_of_pos _ (by omega)) (Int.emod_nonneg _ (by omega))
   (by rw [Int.emod_emod,Int.natCast_mul,Int.toNat_of_nonneg hx,Int.mul_emod,h3,← Int.mul_emod])]
  rw [h4,Int.mul_emod,Int.emod_emod,← Int.mul_emod,← Int.mul_assoc,Int.mul_emod (acc * (c ^ e % R)),Int.mul_emod acc,Int.emod_emod,← Int.mul_emod acc,← Int.mul_emod]
theorem due_eq {R P x:Int} (hR:3≤R) (hP:3≤P) (hx:0≤x) {l:List Int} (hl:∀ c∈l,c ^ P.toNat % R = 1):refQ R P x 1 1 l = hornR R x.toNat l:=by
 rw [refQ_mQ hR hP hx l 1 1 1 hl (by omega) (by omega) (by omega) rfl,hornR_mP hR,mQ_mP,Int.one_mul,Int.pow_succ,Int.pow_zero,Int.one_mul]
def comM (R G:Int) (A:List Int):List Int:=A.map fun a=>G ^ a.toNat % R
theorem evI_nonneg {x:Int} (hx:0≤x):∀ {A:List Int},(∀ a∈A,0≤a)→0≤evI A x
 | [],_=>by simp [evI]
 | a::A,h=>by
  show 0≤a+x * evI A x
  have h1:=h a (by simp)
  have h2:=Int.mul_nonneg hx (evI_nonneg hx (A:=A) fun b hb=>h b (List.mem_cons_of_mem _ hb))
  omega
theorem due_com {R P G x:Int} (h:GroupI R P G) (hx:0≤x):∀ {A:List Int},(∀ a∈A,0≤a)→hornR R x.toNat (comM R G A) = G ^ (evI A x).toNat % R
 | [],_=>by
  have hR:=h.hR
  show 1 = G ^ (0:Int).toNat % R
  rw [Int.toNat_zero,Int.pow_zero];exact (Int.emod_eq_of_lt (by omega) (by omega)).symm
 | a::A,hA=>by
  have h1:=hA a (by simp)
  have h2:=evI_nonneg hx (A:=A) fun b hb=>hA b (List.mem_cons_of_mem _ hb)
  show (hornR R x.toNat (comM R G A) ^ x.toNat % R) * (G ^ a.toNat % R) % R = G ^ (a+x * evI A x).toNat % R
  rw [due_com h hx (A:=A) fun b hb=>hA b (List.mem_cons_of_mem _ hb),pow_emod,← Int.mul_emod,← Int.pow_mul,← Int.pow_add]
  congr 2
  have h3:=Int.mul_nonneg hx h2
  have:(((evI A x).toNat * x.toNat:Nat):Int) = x * evI A x:=by
   rw [Int.natCast_mul,Int.toNat_of_nonneg h2,Int.toNat_of_nonneg hx,Int.mul_comm]
  omega
theorem fits_iff {R P G x s:Int} (h:GroupI R P G) (hx:0≤x) {A:List Int} (hA:∀ a∈A,0≤a) (hs:0≤s∧s < P):hornR R x.toNat (comM R G A) = G ^ s.toNat % R↔s = valM P x A:=by
 have hR:=h.hR
 have hP:=h.hP
 have hv:=valM_rng (P:=P) (x:=x) (by omega) A
 have e1:hornR R x.toNat (comM R G A) = G ^ (valM P x A).toNat % R:=by
  rw [due_com h hx hA]
  exact el_congr hR.1 hP.1 h.one (evI_nonneg hx hA) hv.1 (by rw [valM_ev,Int.emod_emod])
 rw [e1]
 exact ⟨fun e=>(el_inj h hv hs e).symm,fun e=>by rw [e]⟩
theorem hasB_pow {R P G:Int} (h:GroupI R P G) (n:Int):hasB R P (G ^ n.toNat % R) = true:=by
 have hR:=h.hR
 have h1:(G ^ n.toNat % R) ^ P.toNat % R = 1:=by
  rw [pow_emod,← Int.pow_mul,Nat.mul_comm,Int.pow_mul,← pow_emod,h.one,Int.one_pow]
  exact Int.emod_eq_of_lt (by omega) (by omega)
 have h2:0≤G ^ n.toNat % R:=Int.emod_nonneg _ (by omega)
 have h3:G ^ n.toNat % R < R:=Int.emod_lt_of_pos _ (by omega)
 have h4:G ^ n.toNat % R≠0:=fun e=>by
  rw [e,Int.zero_pow (by have:=h.hP;omega)] at h1;simp at h1
 simp only [hasB,Bool.and_eq_true,decide_eq_true_eq]
 exact ⟨by omega,h1⟩
end Go.Dp
namespace Go.Dp
open Go.RowKit
set_option linter.unusedVariables false
set_option maxRecDepth 100000
def bigF:Nat:=1040601409259347307201936192180013345347014657661481674909487127315775177503686880595638769067372563846598523942614636734666037394466736676767376766772139444337953182801020212046966620754733944587196386019851684172289789627555144798861708096993281159898282109788034252065451039548249911401392971342809618092235359486014133921255952208769369326059161391345853896057953327303951645891358009787224205830067606822995116270397694458349180567630356146159825702427322054544754752754643486383201441571621226189433643636788627570547402217021626496647400260019158925499454072818271438715426626884035250801465758628560172400953007098778663686277758908419723113336323466371153156574391356591854054281766436978319094161405317079333099385962088492365133502000941014098715125563854871855500551871219889003233247883877324310209562899035485814140712376812035246617104641761442462284922470358869360011682234793183229828225786244178097999620255401943164707395024489228228900406344989958533052173810516162207566524127683064434870800810263983510
def smallF:Nat:=1212572281469974431553408211851070062469437482860551096495184126054682082412843455708022655532724910
noncomputable def cvO (n:Nat):Nat→Bool :=
 Nat.rec (fun _=>true) (fun _ ih d=>bif Nat.beq (Nat.gcd d bigF) 1 then false else ih (Nat.add d 1)) n
noncomputable def fnO (p n:Nat):Nat→Bool :=
 Nat.rec (fun _=>false) (fun _ ih r=>bif Nat.beq (Nat.gcd r bigF) 1 then Nat.ble r 5764800 else ih (Nat.add r (Nat.add p p))) n
def okG (g p:Nat) (b:Bool):Bool:=bif (bif Nat.ble 2 g then Nat.blt g p else false) then true else b
noncomputable def okO (p:Nat):Bool:=okG (Nat.gcd p smallF) p (fnO p 2000 (Nat.add (Nat.add p p) 1))
noncomputable def chO (n:Nat):Nat→Bool :=
 Nat.rec (fun _=>true) (fun _ ih p=>bif okO p then ih (Nat.add p 2) else false) n
theorem cv_all:cvO 2399 2 = true:=by kernel_rfl
theorem ch1:chO 8192 3 = true:=by kernel_rfl
theorem ch2:chO 8192 16387 = true:=by kernel_rfl
theorem ch3:chO 8192 32771 = true:=by kernel_rfl
theorem ch4:chO 8184 49155 = true:=by kernel_rfl
theorem cvO_of:∀ n d,cvO n d = true→∀ e,d≤e→e < d+n→Nat.gcd e bigF≠1
 | 0,d,_,e,h1,h2=>by omega
 | n+1,d,h,e,h1,h2=>by
  have h':(bif Nat.beq (Nat.gcd d bigF) 1 then false else cvO n (d+1)) = true:=h
  cases hb:Nat.beq (Nat.gcd d bigF) 1
  ·rw [hb] at h'
   by_cases he:e = d
   ·subst he;intro hc;rw [hc] at hb;cases hb
   ·exact cvO_of n (d+1) h' e (by omega) (by omega)
  ·rw [hb] at h';cases h'
theorem fnO_of:∀ p n r,fnO p n r = true→∃ j,Nat.gcd (r+j * (p+p)) bigF = 1∧r+j * (p+p)≤5764800
 | p,0,r,h=>by cases (show false = true from h)
 | p,n+1,r,h=>by
  have h':(bif Nat.beq (Nat.gcd r bigF) 1 then Nat.ble r 5764800 else fnO p n (r+(p+p))) = true:=h
  cases hb:Nat.beq (Nat.gcd r bigF) 1
  ·rw [hb] at h'
   obtain ⟨j,h1,h2⟩:=fnO_of p n _ h'
   exact ⟨j+1,by rw [Nat.add_mul,Nat.one_mul,Nat.add_comm (j * _),← Nat.add_assoc];exact h1,by rw [Nat.add_mul,Nat.one_mul,Nat.add_comm (j * _),← Nat.add_assoc];exact h2⟩
  ·rw [hb] at h'
   exact ⟨0,by rw [Nat.zero_mul,Nat.add_zero];exact Nat.eq_of_beq_eq_true hb,by rw [Nat.zero_mul,Nat.add_zero];exact Nat.le_of_ble_eq_true h'⟩
theorem chO_of:∀ n p,chO n p = true→∀ i,i < n→okO (p+2 * i) = true
 | 0,p,_,i,hi=>by omega
 | n+1,p,h,i,hi=>by
  have h':(bif okO p then chO n (p+2) else false) = true:=h
  cases hb:okO p
  ·rw [hb] at h';cases h'
  ·rw [hb] at h'
   cases i with
   | zero=>exact hb
   | succ i =>
    have:=chO_of n (p+2) h' i (by omega)
    rwa [show p+2 * (i+1) = p+2+2 * i by omega]
theorem okG_of {g p:Nat} {b:Bool} (h:okG g p b = true):(2≤g∧g < p)∨b = true:=by
 unfold okG at h
 cases hc:Nat.ble 2 g
 ·rw [hc] at h;simp only [cond_false] at h;exact .inr h
 ·rw [hc] at h
  simp only [cond_true] at h
  cases hd:Nat.blt g p
  ·rw [hd] at h;simp only [cond_false] at h;exact .inr h
  ·exact .inl ⟨Nat.le_of_ble_eq_true hc,Nat.le_of_ble_eq_true hd⟩
theorem okO_of {p:Nat} (h:okO p = true):∃ g,g = Nat.gcd p smallF∧((2≤g∧g < p)∨fnO p 2000 (Nat.add (Nat.add p p) 1) = true):=⟨_,rfl,okG_of h⟩
theorem okO_all {p:Nat} (h1:3≤p) (h2:p≤65521) (h3:p % 2 = 1):okO p = true:=by
 by_cases a1:p < 16387
 ·have:=chO_of _ _ ch1 ((p - 3) / 2) (by omega);rwa [show 3+2 * ((p - 3) / 2) = p by omega] at this
 by_cases a2:p < 32771
 ·have:=chO_of _ _ ch2 ((p - 16387) / 2) (by omega);rwa [show 16387+2 * ((p - 16387) / 2) = p by omega] at this
 by_cases a3:p < 49155
 ·have:=chO_of _ _ ch3 ((p - 32771) / 2) (by omega);rwa [show 32771+2 * ((p - 32771) / 2) = p by omega] at this
 ·have:=chO_of _ _ ch4 ((p - 49155) / 2) (by omega);rwa [show 49155+2 * ((p - 49155) / 2) = p by omega] at this
theorem prime_gcd {r:Nat} (h1:1 < r) (h2:r≤5764800) (hg:Nat.gcd r bigF = 1):PrimeI (r:Int):=by
 refine ⟨by omega,fun d hd1 hd2 hz=>?_⟩
 have hd3:d≤2400:=by
  by_cases h:d≤2400
  ·exact h
  ·have : (2401 : Int) * 2401 ≤ d * d := Int.mul_le_mul (by omega) (by omega) (by omega) (by omega)
   omega
 obtain ⟨e,rfl⟩:∃ e:Nat,d = e:=⟨d.toNat,by omega⟩
 have hdv:e ∣ r:=Int.natCast_dvd_natCast.1 (Int.dvd_of_emod_eq_zero hz)
 have h3:Nat.gcd e bigF ∣ Nat.gcd r bigF:=Nat.gcd_dvd_gcd_of_dvd_left _ hdv
 rw [hg] at h3
 exact cvO_of _ _ cv_all e (by omega) (by omega) (Nat.dvd_one.1 h3)
theorem above_ex {p:Int} (h:PrimeI p) (h1:3≤p) (h2:p≤65521):∃ K:Nat,PrimeI (p+1+K * p)∧p+1+K * p≤5764800:=by
 obtain ⟨q,rfl⟩:∃ q:Nat,p = q:=⟨p.toNat,by omega⟩
 have hodd:q % 2 = 1:=by
  by_cases h4:(4:Int)≤q
  ·have:=h.2 2 (by omega) (by omega);omega
  ·omega
 have hok:=okO_all (p:=q) (by omega) (by omega) hodd
 have hf:fnO q 2000 (Nat.add (Nat.add q q) 1) = true:=by
  obtain ⟨g,hg,⟨hl2,hl⟩ | hf⟩:=okO_of hok
  ·exfalso
   have hdv:(g:Int) ∣ (q:Int):=Int.natCast_dvd_natCast.2 (by rw [hg];exact Nat.gcd_dvd_left _ _)
   clear hg
   rcases h.dvd hdv (by omega) with e | e <;> omega
  ·exact hf
 obtain ⟨j,hj1,hj2⟩:=fnO_of _ _ _ hf
 rw [show Nat.add (Nat.add q q) 1 = q+q+1 from rfl] at hj1 hj2
 have hp:=prime_gcd (by omega) hj2 hj1
 have e:((q+q+1+j * (q+q):Nat):Int) = (q:Int)+1+((1+2 * j:Nat):Int) * q:=by
  simp only [Int.natCast_add,Int.natCast_mul,Int.natCast_one,Int.add_mul,Int.mul_add,Int.one_mul]
  have:((2:Nat):Int) * (j:Int) * (q:Int) = (j:Int) * q+(j:Int) * q:=by
   rw [Int.mul_assoc];omega
  rw [this];omega
 rw [e] at hp
 exact ⟨1+2 * j,hp,by rw [← e];omega⟩
end Go.Dp
namespace Go.Dp
open Go.RowKit
set_option linter.unusedVariables false
set_option linter.unusedSimpArgs false
def InF (P:Int) (l:List Int):Prop:=∀ a∈l,0≤a∧a < P
theorem InF.nil {P:Int}:InF P []:=fun _ h=>by cases h
theorem InF.cons {P a:Int} {l:List Int} (ha:0≤a∧a < P) (h:InF P l):InF P (a::l):=fun b hb=>by
 rcases List.mem_cons.1 hb with rfl | hb
 ·exact ha
 ·exact h b hb
theorem InF.set {P:Int} {l:List Int} (h:InF P l) (i:Nat) {v:Int} (hv:0≤v∧v < P):InF P (l.set i v):=fun a ha=>by
 rcases List.mem_or_eq_of_mem_set ha with h1 | rfl
 ·exact h a h1
 ·exact hv
theorem InF.rep {P:Int} (hP:0 < P) (n:Nat):InF P (List.replicate n 0):=fun a ha=>by
 have:=(List.mem_replicate.1 ha).2;omega
theorem emod_rng {a P:Int} (hP:0 < P):0≤a % P∧a % P < P:=⟨Int.emod_nonneg _ (by omega),Int.emod_lt_of_pos _ hP⟩
def trimI:List Int→List Int
 | []=>[]
 | a::l=>match trimI l with
  | []=>if a = 0 then [] else [a]
  | b::m=>a::b::m
theorem trimI_ev (z:Int):∀ l,evI (trimI l) z = evI l z
 | []=>rfl
 | a::l=>by
  have ih:=trimI_ev z l
  unfold trimI
  cases h:trimI l with
  | nil =>
   rw [h] at ih
   have ih':evI l z = 0:=ih.symm
   dsimp only
   split
   ·rename_i ha;subst ha;simp [evI,ih']
   ·simp [evI,ih']
  | cons b m =>
   rw [h] at ih
   show a+z * evI (b::m) z = a+z * evI l z
   rw [ih]
theorem trimI_len:∀ l,(trimI l).length≤l.length
 | []=>by simp [trimI]
 | a::l=>by
  have ih:=trimI_len l
  unfold trimI
  cases h:trimI l with
  | nil=>dsimp only;split <;> simp
  | cons b m=>rw [h] at ih;simpa using ih
theorem trimI_in {P:Int}:∀ {l},InF P l→InF P (trimI l)
 | [],h=>by simpa [trimI] using h
 | a::l,h=>by
  have ih:=trimI_in (P:=P) (l:=l) fun b hb=>h b (List.mem_cons_of_mem _ hb)
  unfold trimI
  cases e:trimI l with
  | nil =>
   dsimp only;split
   ·exact InF.nil
   ·exact InF.cons (h a (by simp)) InF.nil
  | cons b m=>rw [e] at ih;exact InF.cons (h a (by simp)) ih
theorem trimI_take:∀ {l:List Int} {n:Nat},n≤l.length→(∀ i,n≤i→(h:i < l.length)→l[i] = 0)→(0 < n→(h:n - 1 < l.length)→l[n - 1]≠0)→trimI l = l.take n
 | [],n,hn,_,_=>by simp [trimI]
 | a::l,0,hn,h0,h1=>by
  have ih:=trimI_take (l:=l) (n:=0) (by simp) (fun i hi h=>h0 (i+1) (by omega) (by simpa using h)) (fun h=>by omega)
  unfold trimI
  rw [ih]
  have:a = 0:=h0 0 (by omega) (by simp)
  simp [this]
 | a::l,1,hn,h0,h1=>by
  have ih:=trimI_take (l:=l) (n:=0) (by simp) (fun i hi h=>h0 (i+1) (by omega) (by simpa using h)) (fun h=>by omega)
  unfold trimI
  rw [ih]
  have:a≠0:=h1 (by omega) (by simp)
  simp [this]
 | a::l,n+2,hn,h0,h1=>by
  have ih:=trimI_take (l:=l) (n:=n+1) (by simpa using hn) (fun i hi h=>h0 (i+1) (by omega) (by simpa using h)) (fun _ h=>by simpa using h1 (by omega) (by simp at h ⊢;omega))
  unfold trimI
  rw [ih]
  have hl:n+1≤l.length:=by simpa using hn
  match l,hl with
  | b::m,_=>simp
def addF (P c:Int):List Int→List Int→List Int
 | p,[]=>p
 | [],a::q=>((0+c * a % P) % P)::addF P c [] q
 | x::p,a::q=>((x+c * a % P) % P)::addF P c p q
theorem addF_len (P c:Int):∀ p q:List Int,(addF P c p q).length = max p.length q.length
 | p,[]=>by simp [addF]
 | [],a::q=>by simp [addF,addF_len P c [] q]
 | x::p,a::q=>by simp [addF,addF_len P c p q]
theorem addF_in {P c:Int} (hP:0 < P):∀ {p q:List Int},InF P p→InF P (addF P c p q)
 | p,[],h=>by simpa [addF] using h
 | [],a::q,h=>InF.cons (emod_rng hP) (addF_in hP (p:=[]) (q:=q) InF.nil)
 | x::p,a::q,h=>InF.cons (emod_rng hP) (addF_in hP (p:=p) (q:=q) fun b hb=>h b (List.mem_cons_of_mem _ hb))
theorem add_mod_congr {P a b c d:Int} (h1:a % P = b % P) (h2:c % P = d % P):(a+c) % P = (b+d) % P:=by
 rw [Int.add_emod,h1,h2,← Int.add_emod]
theorem mul_mod_congr {P a b c d:Int} (h1:a % P = b % P) (h2:c % P = d % P):(a * c) % P = (b * d) % P:=by
 rw [Int.mul_emod,h1,h2,← Int.mul_emod]
theorem addF_ev (P c z:Int):∀ p q:List Int,evI (addF P c p q) z % P = (evI p z+c * evI q z) % P
 | p,[]=>by simp [addF,evI]
 | [],a::q=>by
  have ih:=addF_ev P c z [] q
  show ((0+c * a % P) % P+z * evI (addF P c [] q) z) % P = (0+c * (a+z * evI q z)) % P
  have e:(0+c * (a+z * evI q z)) = (0+c * a)+z * (evI [] z+c * evI q z):=by
   show _ = 0+c * a+z * (0+c * evI q z)
   rw [Int.mul_add,Int.mul_add,Int.mul_zero,Int.mul_left_comm c z];omega
  rw [e]
  exact add_mod_congr (by rw [Int.emod_emod];exact add_mod_congr rfl (Int.emod_emod _ _)) (mul_mod_congr rfl ih)
 | x::p,a::q=>by
  have ih:=addF_ev P c z p q
  show ((x+c * a % P) % P+z * evI (addF P c p q) z) % P = (x+z * evI p z+c * (a+z * evI q z)) % P
  have e:(x+z * evI p z+c * (a+z * evI q z)) = (x+c * a)+z * (evI p z+c * evI q z):=by
   rw [Int.mul_add,Int.mul_add,Int.mul_left_comm c z];omega
  rw [e]
  exact add_mod_congr (by rw [Int.emod_emod];exact add_mod_congr rfl (Int.emod_emod _ _)) (mul_mod_congr rfl ih)
theorem addF_step {P c:Int}:∀ {p q:List Int} {i:Nat} (hq:i < q.length) (hp:q.length≤p.length),addF P c p (q.take (i+1)) = (addF P c p (q.take i)).set i (((addF P c p (q.take i)).getD i 0+c * q[i] % P) % P)
 | p,[],i,hq,hp=>by simp at hq
 | [],a::q,i,hq,hp=>by simp at hp
 | x::p,a::q,0,hq,hp=>by simp [addF]
 | x::p,a::q,i+1,hq,hp=>by
  have ih:=addF_step (P:=P) (c:=c) (p:=p) (q:=q) (i:=i) (by simpa using hq) (by simpa using hp)
  simp only [List.take_succ_cons,addF,List.getElem_cons_succ,List.set_cons_succ,List.getD_cons_succ]
  rw [ih]
theorem evI_pad (z:Int):∀ (l:List Int) (n:Nat),evI (l++List.replicate n 0) z = evI l z
 | [],n=>by
  induction n with
  | zero=>rfl
  | succ n ih=>simp only [List.nil_append] at ih ⊢;rw [List.replicate_succ];show 0+z * evI (List.replicate n 0) z = 0;rw [ih];simp [evI]
 | a::l,n=>by
  show a+z * evI (l++List.replicate n 0) z = a+z * evI l z
  rw [evI_pad z l n]
theorem evI_set (z:Int):∀ {l:List Int} {i:Nat} (h:i < l.length) (v:Int),evI (l.set i v) z = evI l z+(v - l[i]) * z ^ i
 | a::l,0,h,v=>by
  show v+z * evI l z = a+z * evI l z+(v - a) * z ^ 0
  rw [Int.pow_zero,Int.mul_one];omega
 | a::l,i+1,h,v=>by
  show a+z * evI (l.set i v) z = a+z * evI l z+(v - l[i]'(by simpa using h)) * z ^ (i+1)
  rw [evI_set z (by simpa using h) v,Int.mul_add,Int.pow_succ,Int.mul_comm (z ^ i) z,Int.mul_left_comm z]
  omega
def rowM (P a:Int) (i:Nat):List Int→Nat→List Int→List Int
 | [],_,C=>C
 | b::q,j,C=>rowM P a i q (j+1) (C.set (i+j) ((C.getD (i+j) 0+a * b % P) % P))
def prodM (P:Int) (q:List Int):List Int→Nat→List Int→List Int
 | [],_,C=>C
 | a::p,i,C=>prodM P q p (i+1) (rowM P a i q 0 C)
theorem rowM_len (P a:Int) (i:Nat):∀ (q:List Int) (j:Nat) (C:List Int),(rowM P a i q j C).length = C.length
 | [],_,C=>rfl
 | b::q,j,C=>by rw [rowM,rowM_len P a i q];simp
theorem prodM_len (P:Int) (q:List Int):∀ (p:List Int) (i:Nat) (C:List Int),(prodM P q p i C).length = C.length
 | [],_,C=>rfl
 | a::p,i,C=>by rw [prodM,prodM_len P q p,rowM_len]
theorem rowM_in {P a:Int} (hP:0 < P) (i:Nat):∀ (q:List Int) (j:Nat) (C:List Int),InF P C→InF P (rowM P a i q j C)
 | [],_,C,h=>h
 | b::q,j,C,h=>rowM_in hP i q (j+1) _ (h.set _ (emod_rng hP))
theorem prodM_in {P:Int} (hP:0 < P) (q:List Int):∀ (p:List Int) (i:Nat) (C:List Int),InF P C→InF P (prodM P q p i C)
 | [],_,C,h=>h
 | a::p,i,C,h=>prodM_in hP q p (i+1) _ (rowM_in hP i q 0 C h)
theorem rowM_ev {P a z:Int} (i:Nat):∀ (q:List Int) (j:Nat) (C:List Int),i+j+q.length≤C.length→evI (rowM P a i q j C) z % P = (evI C z+a * z ^ (i+j) * evI q z) % P
 | [],j,C,h=>by simp [rowM,evI]
 | b::q,j,C,h=>by
  have hlt:i+j < C.length:=by simp at h;omega
  rw [rowM,rowM_ev i q (j+1) _ (by simp at h ⊢;omega),evI_set z hlt,List.getD_eq_getElem?_getD,List.getElem?_eq_getElem hlt,Option.getD_some]
  show (evI C z+((C[i+j]+a * b % P) % P - C[i+j]) * z ^ (i+j)+a * z ^ (i+(j+1)) * evI q z) % P = (evI C z+a * z ^ (i+j) * (b+z * evI q z)) % P
  have e1:((C[i+j]+a * b % P) % P - C[i+j]) % P = (a * b) % P:=by
   rw [Int.sub_emod,Int.emod_emod,← Int.sub_emod,Int.add_comm,Int.add_sub_cancel,Int.emod_emod]
  have e2:evI C z+a * z ^ (i+j) * (b+z * evI q z) = evI C z+(a * b) * z ^ (i+j)+a * z ^ (i+(j+1)) * evI q z:=by
   rw [show i+(j+1) = (i+j)+1 by omega,Int.pow_succ,Int.mul_add,← Int.add_assoc]
   congr 1
   ·congr 1
    rw [Int.mul_assoc,Int.mul_comm (z ^ (i+j)) b,← Int.mul_assoc]
   ·simp only [Int.mul_assoc]
  rw [e2]
  exact add_mod_congr (add_mod_congr rfl (mul_mod_congr e1 rfl)) rfl
theorem prodM_ev {P z:Int} (q:List Int):∀ (p:List Int) (i:Nat) (C:List Int),i+p.length+q.length≤C.length+1→evI (prodM P q p i C) z % P = (evI C z+z ^ i * evI p z * evI q z) % P
 | [],i,C,h=>by simp [prodM,evI]
 | a::p,i,C,h=>by
  simp only [List.length_cons] at h
  rw [prodM,prodM_ev q p (i+1) _ (by rw [rowM_len];omega)]
  have h1:=rowM_ev (P:=P) (a:=a) (z:=z) i q 0 C (by omega)
  rw [Nat.add_zero] at h1
  have e:evI C z+z ^ i * (a+z * evI p z) * evI q z = (evI C z+a * z ^ i * evI q z)+z ^ (i+1) * evI p z * evI q z:=by
   rw [Int.pow_succ,Int.mul_add,Int.add_mul,← Int.add_assoc]
   congr 1
   ·congr 1
    rw [Int.mul_comm (z ^ i) a]
   ·simp only [Int.mul_assoc]
  show _ = (evI C z+z ^ i * (a+z * evI p z) * evI q z) % P
  rw [e]
  exact add_mod_congr h1 rfl
def plusF (P:Int) (p:List Int) (c:Int) (q:List Int):List Int:=trimI (addF P c (p++List.replicate (max p.length q.length - p.length) 0) q)
def convF (P:Int) (p q:List Int):List Int:=prodM P q p 0 (List.replicate (p.length+q.length - 1) 0)
def timesF (P:Int) (p q:List Int):List Int:=if p.length = 0∨q.length = 0 then [] else trimI (convF P p q)
theorem plusF_ev {P c z:Int} (p q:List Int):evI (plusF P p c q) z % P = (evI p z+c * evI q z) % P:=by
 unfold plusF;rw [trimI_ev,addF_ev,evI_pad]
theorem plusF_in {P c:Int} (hP:0 < P) {p q:List Int} (h:InF P p):InF P (plusF P p c q):=by
 refine trimI_in (addF_in hP fun a ha=>?_)
 rcases List.mem_append.1 ha with h1 | h1
 ·exact h a h1
 ·exact InF.rep hP _ a h1
theorem plusF_len {P c:Int} (p q:List Int):(plusF P p c q).length≤max p.length q.length:=by
 refine Nat.le_trans (trimI_len _) ?_
 rw [addF_len];simp;omega
theorem convF_ev {P z:Int} {p q:List Int} (h:p.length≠0):evI (convF P p q) z % P = (evI p z * evI q z) % P:=by
 unfold convF
 rw [prodM_ev q p 0 _ (by simp;omega)]
 have:evI (List.replicate (p.length+q.length - 1) 0) z = 0:=evI_pad z [] _
 rw [this,Int.pow_zero,Int.one_mul,Int.zero_add]
theorem convF_len {P:Int} {p q:List Int}:(convF P p q).length = p.length+q.length - 1:=by unfold convF;rw [prodM_len];simp
theorem convF_in {P:Int} (hP:0 < P) {p q:List Int}:InF P (convF P p q):=prodM_in hP q p 0 _ (InF.rep hP _)
theorem timesF_ev {P z:Int} (p q:List Int):evI (timesF P p q) z % P = (evI p z * evI q z) % P:=by
 unfold timesF
 split
 ·rename_i h
  rcases h with h | h
  ·have:p = []:=List.length_eq_zero_iff.1 h
   subst this;simp [evI]
  ·have:q = []:=List.length_eq_zero_iff.1 h
   subst this;simp [evI]
 ·rename_i h
  rw [trimI_ev,convF_ev (fun e=>h (.inl e))]
theorem timesF_in {P:Int} (hP:0 < P) {p q:List Int}:InF P (timesF P p q):=by
 unfold timesF;split
 ·exact InF.nil
 ·exact trimI_in (convF_in hP)
theorem timesF_len {P:Int} (p q:List Int):(timesF P p q).length≤p.length+q.length - 1:=by
 unfold timesF;split
 ·simp
 ·exact Nat.le_trans (trimI_len _) (Nat.le_of_eq convF_len)
def newtF (P:Int):List Int→List Int→List Int→List Int→List Int
 | x::xs,y::ys,out,zero=>newtF P xs ys (plusF P out (((y - valM P x out+P) % P) * (valM P x zero ^ (P - 2).toNat % P) % P) zero) (timesF P zero [(0 - x+P) % P,1])
 | _,_,out,_=>out
theorem newtF_ok {P:Int} (h:PrimeI P) (hP:3≤P):∀ (xs ys out zero done:List Int) (f:Int→Int),xs.length = ys.length→InF P xs→InF P done→(done++xs).Nodup→InF P out→InF P zero→out.length≤done.length→zero.length≤done.length+1 →
  (∀ z∈done,evI out z % P = f z % P)→(∀ z,evI zero z % P = prodAt z done * (-1) ^ done.length % P)→(∀ i (hx:i < xs.length) (hy:i < ys.length),ys[i] = f xs[i] % P) →
  InF P (newtF P xs ys out zero)∧(newtF P xs ys out zero).length≤done.length+xs.length∧∀ z∈done++xs,evI (newtF P xs ys out zero) z % P = f z % P
 | [],ys,out,zero,done,f,hl,hx,hd,hn,ho,hz,l1,l2,h1,h2,h3=>by
  have:ys = []:=List.length_eq_zero_iff.1 (by simpa using hl.symm)
  subst this
  rw [List.append_nil]
  exact ⟨ho,by simpa [newtF] using l1,h1⟩
 | x::xs,[],out,zero,done,f,hl,_,_,_,_,_,_,_,_,_,_=>by simp at hl
 | x::xs,y::ys,out,zero,done,f,hl,hx,hd,hn,ho,hz,l1,l2,h1,h2,h3=>by
  have hx0:=hx x (by simp)
  have hxd:∀ w∈done,¬ P ∣ w - x:=fun w hw hdv=>by
   have e:=emod_of_dvd_sub hdv
   have:=hd w hw
   rw [Int.emod_eq_of_lt this.1 this.2,Int.emod_eq_of_lt hx0.1 hx0.2] at e
   subst e
   have hn2:=List.nodup_append.1 hn
   exact hn2.2.2 w hw w (by simp) rfl
  have hzx:¬ P ∣ valM P x zero:=by
   rw [valM_ev,h2]
   intro hdv
   have e:=Int.emod_eq_zero_of_dvd hdv
   rw [Int.emod_emod] at e
   rcases h.mul (Int.dvd_of_emod_eq_zero e) with h4 | h4
   ·exact prodAt_ndvd h done hxd h4
   ·have:∀ n:Nat,¬ P ∣ (-1:Int) ^ n:=by
     intro n
     induction n with
     | zero=>simpa using not_dvd_small (by omega) h.1
     | succ n ih =>
      intro hdv
      rw [Int.pow_succ] at hdv
      rcases h.mul hdv with h5 | h5
      ·exact ih h5
      ·have : P ∣ 1 := by have := Int.dvd_neg.2 h5; simpa using this
       exact not_dvd_small (by omega) h.1 this
    exact this _ h4
  obtain ⟨c,hc⟩:∃ c,c = ((y - valM P x out+P) % P) * (valM P x zero ^ (P - 2).toNat % P) % P:=⟨_,rfl⟩
  have hP0:0 < P:=by omega
  have hy0:y = f x % P:=h3 0 (by simp) (by simp)
  have hcx:(c * evI zero x) % P = (f x - evI out x) % P:=by
   have e0:evI zero x % P = valM P x zero:=(valM_ev zero).symm
   have e1:(c * evI zero x) % P = (c * valM P x zero) % P:=mul_mod_congr rfl (by rw [valM_ev,Int.emod_emod])
   rw [e1,hc,Int.mul_emod,Int.emod_emod,← Int.mul_emod,Int.mul_assoc,Int.mul_comm (_ % P) (valM P x zero),Int.mul_emod,inv_mul h hP hzx,Int.mul_one,Int.emod_emod,Int.emod_emod,Int.add_emod,Int.emod_self,Int.add_zero,Int.emod_emod,hy0,valM_ev,← Int.sub_emod]
  have step := newtF_ok h hP xs ys (plusF P out c zero) (timesF P zero [(0 - x + P) % P, 1]) (done ++ [x]) f (by simpa using hl) (fun a ha => hx a (List.mem_cons_of_mem _ ha))
   (fun a ha=>(List.mem_append.1 ha).elim (fun h4=>hd a h4) (fun h4=>by rw [List.mem_singleton] at h4;rw [h4];exact hx0))
   (by rw [List.append_assoc];exact hn) (plusF_in hP0 ho) (timesF_in hP0)
   (by have:=plusF_len (P:=P) (c:=c) out zero;simp only [List.length_append,List.length_singleton];omega)
   (by have:=timesF_len (P:=P) zero [(0 - x+P) % P,1];simp only [List.length_append,List.length_singleton,List.length_cons,List.length_nil] at this ⊢;omega)
   (fun z hz'=>by
    rw [plusF_ev]
    rcases List.mem_append.1 hz' with h4 | h4
    ·have e : evI zero z % P = 0 := by rw [h2, prodAt_zero h4, Int.zero_mul, Int.zero_emod]
     have e2:(c * evI zero z) % P = 0:=by rw [Int.mul_emod,e,Int.mul_zero,Int.zero_emod]
     rw [Int.add_emod,e2,Int.add_zero,Int.emod_emod];exact h1 z h4
    ·have : z = x := by simpa using h4
     subst this
     rw [Int.add_emod,hcx,← Int.add_emod]
     congr 1;omega)
   (fun z=>by
    rw [timesF_ev]
    have e1:evI [(0 - x+P) % P,1] z % P = ((x - z) * (-1)) % P:=by
     show ((0 - x+P) % P+z * (1+z * 0)) % P = _
     rw [Int.emod_add_emod]
     have:0 - x+P+z * (1+z * 0) = (x - z) * (-1)+P:=by
      rw [Int.mul_zero,Int.add_zero,Int.mul_one];omega
     rw [this,Int.add_emod,Int.emod_self,Int.add_zero,Int.emod_emod]
    rw [mul_mod_congr (h2 z) e1 (P:=P)]
    congr 1
    have e2:∀ (l:List Int),prodAt z (l++[x]) = prodAt z l * (x - z):=by
     intro l
     induction l with
     | nil=>simp [prodAt]
     | cons w l ih=>simp only [List.cons_append,prodAt,ih,Int.mul_assoc]
    rw [e2,List.length_append,List.length_singleton,Int.pow_succ]
    rw [Int.mul_assoc,Int.mul_assoc,Int.mul_left_comm (x - z)])
   (fun i hi hj=>h3 (i+1) (by simpa using hi) (by simpa using hj))
  rw [List.append_assoc] at step
  refine ⟨?_,?_,?_⟩
  ·show InF P (newtF P xs ys (plusF P out _ zero) _);rw [← hc];exact step.1
  ·show (newtF P xs ys (plusF P out _ zero) _).length≤_
   rw [← hc]
   have:=step.2.1
   simp only [List.length_append,List.length_singleton,List.length_cons,List.length_nil] at this ⊢
   omega
  ·show ∀ z∈done++x::xs,evI (newtF P xs ys (plusF P out _ zero) _) z % P = _
   rw [← hc];exact step.2.2
end Go.Dp
namespace Go.Dp
open Go.RowKit
set_option linter.unusedVariables false
def invF (P a:Int):Int:=a ^ (P - 2).toNat % P
end Go.Dp
