import Derived.Test.YtgbjppfikncpcaaGreatDsM8
import Derived.Test.YtgbjppfikncpcaaGreatDvTP
import Derived.Test.YtgbjppfikncpcaaGreatDpWk
import Derived.Test.YtgbjppfikncpcaaGreatDpCut
namespace Go.Dp
open Go.RowKit
set_option linter.unusedVariables false
set_option linter.unusedSimpArgs false
theorem rise_ext:∀ {A B:List Int},A.Pairwise (· < ·)→B.Pairwise (· < ·)→(∀ x,x∈A↔x∈B)→A = B
 | [],[],_,_,_=>rfl
 | [],b::B,_,_,h=>absurd ((h b).2 (by simp)) (by simp)
 | a::A,[],_,_,h=>absurd ((h a).1 (by simp)) (by simp)
 | a::A,b::B,hA,hB,h=>by
  have hA':=List.pairwise_cons.1 hA
  have hB':=List.pairwise_cons.1 hB
  have e:a = b:=by
   have h1:=(h a).1 (by simp)
   have h2:=(h b).2 (by simp)
   rcases List.mem_cons.1 h1 with h1 | h1
   ·exact h1
   ·rcases List.mem_cons.1 h2 with h2 | h2
    ·exact h2.symm
    ·have:=hB'.1 a h1;have:=hA'.1 b h2;omega
  subst e
  rw [rise_ext hA'.2 hB'.2 fun x=>?_]
  constructor
  ·intro hx
   rcases List.mem_cons.1 ((h x).1 (List.mem_cons_of_mem _ hx)) with e | hx'
   ·have:=hA'.1 x hx;omega
   ·exact hx'
  ·intro hx
   rcases List.mem_cons.1 ((h x).2 (List.mem_cons_of_mem _ hx)) with e | hx'
   ·have:=hB'.1 x hx;omega
   ·exact hx'
def insI (x:Int):List Int→List Int
 | []=>[x]
 | y::l=>if x < y then x::y::l else y::insI x l
theorem insI_mem {x z:Int}:∀ {l:List Int},z∈insI x l↔z = x∨z∈l
 | []=>by simp [insI]
 | y::l=>by
  unfold insI
  split
  ·simp
  ·rw [List.mem_cons,insI_mem,List.mem_cons]
   constructor
   ·rintro (h | h | h)
    ·exact .inr (.inl h)
    ·exact .inl h
    ·exact .inr (.inr h)
   ·rintro (h | h | h)
    ·exact .inr (.inl h)
    ·exact .inl h
    ·exact .inr (.inr h)
theorem insI_len {x:Int}:∀ {l:List Int},(insI x l).length = l.length+1
 | []=>rfl
 | y::l=>by
  unfold insI
  split
  ·simp
  ·simp [insI_len]
theorem insI_rise {x:Int}:∀ {l:List Int},l.Pairwise (· < ·)→x ∉ l→(insI x l).Pairwise (· < ·)
 | [],_,_=>by simp [insI]
 | y::l,h,hx=>by
  have h':=List.pairwise_cons.1 h
  unfold insI
  split
  ·rename_i hlt
   refine List.pairwise_cons.2 ⟨fun z hz=>?_,h⟩
   rcases List.mem_cons.1 hz with rfl | hz
   ·exact hlt
   ·have:=h'.1 z hz;omega
  ·rename_i hlt
   refine List.pairwise_cons.2 ⟨fun z hz=>?_,insI_rise h'.2 fun hm=>hx (List.mem_cons_of_mem _ hm)⟩
   have hne:x≠y:=fun e=>hx (by rw [e];simp)
   rcases insI_mem.1 hz with rfl | hz
   ·omega
   ·exact h'.1 z hz
def srtI:List Int→List Int:=List.foldl (fun l x=>insI x l) []
theorem srtI_snoc (l:List Int) (x:Int):srtI (l++[x]) = insI x (srtI l):=by unfold srtI;rw [List.foldl_append];rfl
theorem srtI_len:∀ (n:Nat) (l:List Int),l.length = n→(srtI l).length = n
 | 0,l,h=>by rw [List.length_eq_zero_iff.1 h];rfl
 | n+1,l,h=>by
  have e:=List.dropLast_concat_getLast (l:=l) (by intro e;rw [e] at h;simp at h)
  rw [← e,srtI_snoc,insI_len,srtI_len n _ (by simp [h])]
theorem srtI_ok:∀ (n:Nat) (l:List Int),l.length = n→l.Nodup→(srtI l).Pairwise (· < ·)∧∀ x,x∈srtI l↔x∈l
 | 0,l,h,_=>by rw [List.length_eq_zero_iff.1 h];simp [srtI]
 | n+1,l,h,hn=>by
  have e:=List.dropLast_concat_getLast (l:=l) (by intro e;rw [e] at h;simp at h)
  rw [← e] at hn ⊢
  have hn':=List.nodup_append.1 hn
  obtain ⟨h1,h2⟩:=srtI_ok n l.dropLast (by simp [h]) hn'.1
  rw [srtI_snoc]
  refine ⟨insI_rise h1 fun hm=>hn'.2.2 _ ((h2 _).1 hm) _ (by simp) rfl,fun x=>?_⟩
  rw [insI_mem,h2,List.mem_append,List.mem_singleton]
  exact Or.comm
theorem insI_le {x:Int}:∀ {l:List Int},l.Pairwise (·≤·)→(insI x l).Pairwise (·≤·)
 | [],_=>by simp [insI]
 | y::l,h=>by
  have h':=List.pairwise_cons.1 h
  unfold insI
  split
  ·rename_i hlt
   refine List.pairwise_cons.2 ⟨fun z hz=>?_,h⟩
   rcases List.mem_cons.1 hz with rfl | hz
   ·omega
   ·have:=h'.1 z hz;omega
  ·rename_i hlt
   refine List.pairwise_cons.2 ⟨fun z hz=>?_,insI_le h'.2⟩
   rcases insI_mem.1 hz with rfl | hz
   ·omega
   ·exact h'.1 z hz
theorem srtI_le:∀ (n:Nat) (l:List Int),l.length = n→(srtI l).Pairwise (·≤·)
 | 0,l,h=>by rw [List.length_eq_zero_iff.1 h];simp [srtI]
 | n+1,l,h=>by
  have e:=List.dropLast_concat_getLast (l:=l) (by intro e;rw [e] at h;simp at h)
  rw [← e,srtI_snoc]
  exact insI_le (srtI_le n _ (by simp [h]))
theorem insI_app {x:Int} {C:List Int}:∀ {A:List Int},(∀ z∈A,z≤x)→insI x (A++C) = A++insI x C
 | [],_=>rfl
 | z::A,h=>by
  have h1:=h z (by simp)
  rw [List.cons_append]
  show (if x < z then _ else _) = _
  rw [if_neg (by omega),insI_app fun w hw=>h w (List.mem_cons_of_mem _ hw)];rfl
theorem insI_low {x:Int}:∀ {C:List Int},(∀ z∈C,x < z)→insI x C = x::C
 | [],_=>rfl
 | z::C,h=>by unfold insI;rw [if_pos (h z (by simp))]
theorem insI_at {x:Int} {S:List Int} {j:Nat} (hS:S.Pairwise (·≤·)) (hj:j≤S.length) (h1:∀ z∈S.drop j,x < z) (h2:∀ (h:0 < j),S[j - 1]≤x):insI x S = S.take j++x::S.drop j:=by
 conv=>lhs;rw [← List.take_append_drop j S]
 rw [insI_app fun z hz=>?_,insI_low h1]
 obtain ⟨i,hi,rfl⟩:=List.getElem_of_mem hz
 rw [List.length_take] at hi
 rw [List.getElem_take]
 have h3:=h2 (by omega)
 by_cases e:i = j - 1
 ·subst e;exact h3
 ·exact Int.le_trans (List.pairwise_iff_getElem.1 hS i (j - 1) (by omega) (by omega) (by omega)) h3
def insAt (S:List Int) (j:Nat) (x:Int) (R:List Int):List Int:=S.take j++x::(S.drop j++R)
theorem insAt_len {S R:List Int} {j:Nat} {x:Int}:(insAt S j x R).length = S.length+1+R.length:=by
 unfold insAt;simp only [List.length_append,List.length_cons,List.length_take,List.length_drop];omega
theorem insAt_x {S R:List Int} {j:Nat} {x:Int} (hj:j≤S.length) (h:j < (insAt S j x R).length):(insAt S j x R)[j] = x:=by
 have e:(insAt S j x R)[j]? = some x:=by
  unfold insAt
  rw [List.getElem?_append_right (by rw [List.length_take];omega)]
  simp [List.length_take,Nat.min_eq_left hj]
 rw [List.getElem?_eq_getElem h] at e
 exact Option.some.inj e
theorem insAt_y {S R:List Int} {j:Nat} {x:Int} (hj:j < S.length) (h:j < (insAt S (j+1) x R).length):(insAt S (j+1) x R)[j] = S[j]:=by
 have e:(insAt S (j+1) x R)[j]? = some S[j]:=by
  unfold insAt
  rw [List.getElem?_append_left (by rw [List.length_take];omega),List.getElem?_take,if_pos (by omega),List.getElem?_eq_getElem hj]
 rw [List.getElem?_eq_getElem h] at e
 exact Option.some.inj e
theorem insAt_swap {S R:List Int} {j:Nat} {x:Int} (hj:j < S.length):((insAt S (j+1) x R).set (j+1) S[j]).set j x = insAt S j x R:=by
 have hl:(S.take j).length = j:=by rw [List.length_take];omega
 have hd:S.drop j = S[j]::S.drop (j+1):=List.drop_eq_getElem_cons hj
 unfold insAt
 rw [← List.take_append_getElem hj,hd,List.append_assoc,List.set_append_right _ _ (by omega),List.set_append_right _ _ (by omega),hl,Nat.add_sub_cancel_left,Nat.sub_self]
 rfl
theorem prod_dvd:∀ {M:List Nat} {n:Nat},M.Nodup→(∀ p∈M,PrimeN p∧p ∣ n)→M.foldr (· * ·) 1 ∣ n
 | [],n,_,_=>⟨n,by simp⟩
 | p::M,n,hn,h=>by
  have hn':=List.nodup_cons.1 hn
  obtain ⟨m,rfl⟩:=(h p (by simp)).2
  have h1:M.foldr (· * ·) 1 ∣ m:=prod_dvd hn'.2 fun q hq=>by
   have hq':=h q (List.mem_cons_of_mem _ hq)
   refine ⟨hq'.1,?_⟩
   have hc:Nat.Coprime q p:=by
    have hg:=Nat.gcd_dvd_left q p
    have hg2:=Nat.gcd_dvd_right q p
    rcases hq'.1.2 _ hg with h1 | h1
    ·exact h1
    ·rw [h1] at hg2
     rcases (h p (by simp)).1.2 _ hg2 with h3 | h3
     ·have:=hq'.1.1;omega
     ·exact absurd (h3 ▸ hq) hn'.1
   exact hc.dvd_of_dvd_mul_left hq'.2
  obtain ⟨k,hk⟩:=h1
  exact ⟨k,by rw [List.foldr_cons,hk,Nat.mul_assoc]⟩
def nxP (c:Nat):Nat:=if c % 6 = 1 then c+4 else c+2
def prP:Nat→Nat→Nat
 | _,0=>1
 | c,k+1=>nxP c * prP (nxP c) k
def is6 (c:Nat):Prop:=c % 6 = 1∨c % 6 = 5
theorem nxP_6 {c:Nat} (h:is6 c):is6 (nxP c):=by unfold is6 nxP at *;split <;> omega
theorem nxP_le {c d:Nat} (hc:is6 c) (hd:is6 d) (h:c < d):nxP c≤d:=by unfold is6 nxP at *;split <;> omega
theorem nxP_mono {c d:Nat} (hc:is6 c) (hd:is6 d) (h:c≤d):nxP c≤nxP d:=by unfold is6 nxP at *;split <;> split <;> omega
theorem prP_mono:∀ {k c d:Nat},is6 c→is6 d→c≤d→prP c k≤prP d k
 | 0,c,d,_,_,_=>Nat.le_refl _
 | k+1,c,d,hc,hd,h=>Nat.mul_le_mul (nxP_mono hc hd h) (prP_mono (nxP_6 hc) (nxP_6 hd) (nxP_mono hc hd h))
theorem prod_low:∀ {M:List Nat} {c:Nat},M.Pairwise (· < ·)→(∀ p∈M,is6 p∧c < p)→is6 c→prP c M.length≤M.foldr (· * ·) 1
 | [],c,_,_,_=>Nat.le_refl _
 | p::M,c,hp,h,hc=>by
  have hp':=List.pairwise_cons.1 hp
  have h1:=h p (by simp)
  have h2:=prod_low hp'.2 (c:=p) (fun q hq=>⟨(h q (List.mem_cons_of_mem _ hq)).1,hp'.1 q hq⟩) h1.1
  rw [List.length_cons,prP,List.foldr_cons]
  exact Nat.mul_le_mul (nxP_le hc h1.1 h1.2) (Nat.le_trans (prP_mono (nxP_6 hc) h1.1 (nxP_le hc h1.1 h1.2)) h2)
theorem prime6 {p:Nat} (h:PrimeN p) (h2:p≠2) (h3:p≠3):is6 p∧1 < p:=by
 have a:¬ 2 ∣ p:=fun hd=>by rcases h.2 2 hd with e | e <;> omega
 have b:¬ 3 ∣ p:=fun hd=>by rcases h.2 3 hd with e | e <;> omega
 exact ⟨by unfold is6;omega,h.1⟩
theorem few6 {M:List Nat} {n:Nat} (hr:M.Pairwise (· < ·)) (h:∀ p∈M,PrimeN p∧p ∣ n∧p≠2∧p≠3) (hn:0 < n):prP 1 M.length≤n:=by
 have h1:=prod_low hr (c:=1) (fun p hp=>prime6 (h p hp).1 (h p hp).2.2.1 (h p hp).2.2.2) (.inl rfl)
 have h2:=prod_dvd (hr.imp fun h=>Nat.ne_of_lt h) (n:=n) fun p hp=>⟨(h p hp).1,(h p hp).2.1⟩
 exact Nat.le_trans h1 (Nat.le_of_dvd hn h2)
theorem prP_le (k:Nat):prP 1 k≤prP 1 (k+1):=by
 have:∀ (k c:Nat),0 < c→prP c k≤prP c (k+1):=by
  intro k
  induction k with
  | zero=>intro c hc;simp only [prP];unfold nxP;split <;> omega
  | succ k ih =>
   intro c hc
   rw [prP,prP]
   exact Nat.mul_le_mul_left _ (ih _ (by unfold nxP;split <;> omega))
 exact this k 1 (by omega)
theorem prP_lt {j k:Nat} (h:j≤k):prP 1 j≤prP 1 k:=by
 induction h with
 | refl=>exact Nat.le_refl _
 | step _ ih=>exact Nat.le_trans ih (prP_le _)
theorem few_odd {M:List Nat} {n:Nat} (hr:M.Pairwise (· < ·)) (h:∀ p∈M,PrimeN p∧p ∣ n∧p≠2) (hn:0 < n) (hb:n≤1000000000000):M.length≤10:=by
 refine Nat.le_of_not_lt fun hl=>?_
 by_cases h3:3∈M
 ·have hM:=List.perm_cons_erase h3
  have hl2:(M.erase 3).length+1 = M.length:=by rw [List.length_erase_of_mem h3];omega
  obtain ⟨m,hm⟩:=(h 3 h3).2.1
  have hm0:0 < m:=by omega
  have hr':(M.erase 3).Pairwise (· < ·):=hr.sublist List.erase_sublist
  have:=few6 (n:=m) hr' (fun p hp=>by
   have hpM:=List.mem_of_mem_erase hp
   have hne:p≠3:=fun e=>by
    have hnd:=List.Pairwise.imp (R:=(· < ·)) (S:=(·≠·)) (fun h=>Nat.ne_of_lt h) hr
    exact absurd hp (by rw [e];exact List.Nodup.not_mem_erase hnd)
   refine ⟨(h p hpM).1,?_,(h p hpM).2.2,hne⟩
   have hd:=(h p hpM).2.1
   rw [hm] at hd
   have hc:Nat.Coprime p 3:=by
    have h6:=prime6 (h p hpM).1 (h p hpM).2.2 hne
    have hg2:=Nat.gcd_dvd_right p 3
    have hg:=Nat.gcd_dvd_left p 3
    rcases (h p hpM).1.2 _ hg with e | e
    ·exact e
    ·rw [e] at hg2
     have:=Nat.le_of_dvd (by omega) hg2
     unfold is6 at h6;omega
   exact hc.dvd_of_dvd_mul_left hd) hm0
  have h10:=prP_lt (j:=10) (k:=(M.erase 3).length) (by omega)
  have:prP 1 10 = 835668708875:=by decide
  omega
 ·have:=few6 (n:=n) hr (fun p hp=>⟨(h p hp).1,(h p hp).2.1,(h p hp).2.2,fun e=>h3 (e ▸ hp)⟩) hn
  have h11:=prP_lt (j:=11) (k:=M.length) (by omega)
  have:prP 1 11 = 29248404810625:=by decide
  omega
noncomputable def primeB (n:Int):Bool:=@decide (PrimeI n) (Classical.propDecidable _)
theorem primeB_iff {n:Int}:primeB n = true↔PrimeI n:=by simp [primeB]
theorem primeB_of {n:Int} (h:PrimeI n):primeB n = true:=primeB_iff.2 h
theorem primeB_not {n:Int} (h:¬ PrimeI n):primeB n = false:=by
 cases e:primeB n
 ·rfl
 ·exact absurd (primeB_iff.1 e) h
theorem nodup_len {M L:List Int} (hn:M.Nodup) (hs:∀ x∈M,x∈L):M.length≤L.length:=by
 induction M generalizing L with
 | nil=>simp
 | cons a M ih =>
  have hn':=List.nodup_cons.1 hn
  have ha:=hs a (by simp)
  have:=ih (L:=L.erase a) hn'.2 fun x hx=>(List.mem_erase_of_ne (fun (e:x = a)=>hn'.1 (by rw [← e];exact hx))).2 (hs x (List.mem_cons_of_mem _ hx))
  rw [List.length_erase_of_mem ha] at this
  have:=List.length_pos_of_mem ha
  rw [List.length_cons];omega
def addP (L:List Int) (p:Nat):List Int:=if (p:Int)∈L then L else L++[(p:Int)]
def addA (L:List Int) (ps:List Nat):List Int:=ps.foldl addP L
theorem addA_mem {x:Int}:∀ {ps:List Nat} {L:List Int},x∈addA L ps↔x∈L∨∃ p∈ps,x = (p:Int)
 | [],L=>by simp [addA]
 | p::ps,L=>by
  show x∈addA (addP L p) ps↔_
  rw [addA_mem]
  unfold addP
  split
  ·rename_i h
   constructor
   ·rintro (h1 | ⟨q,hq,h1⟩)
    ·exact .inl h1
    ·exact .inr ⟨q,List.mem_cons_of_mem _ hq,h1⟩
   ·rintro (h1 | ⟨q,hq,h1⟩)
    ·exact .inl h1
    ·rcases List.mem_cons.1 hq with rfl | hq
     ·exact .inl (h1 ▸ h)
     ·exact .inr ⟨q,hq,h1⟩
  ·rw [List.mem_append,List.mem_singleton]
   constructor
   ·rintro ((h1 | h1) | ⟨q,hq,h1⟩)
    ·exact .inl h1
    ·exact .inr ⟨p,by simp,h1⟩
    ·exact .inr ⟨q,List.mem_cons_of_mem _ hq,h1⟩
   ·rintro (h1 | ⟨q,hq,h1⟩)
    ·exact .inl (.inl h1)
    ·rcases List.mem_cons.1 hq with rfl | hq
     ·exact .inl (.inr h1)
     ·exact .inr ⟨q,hq,h1⟩
theorem addA_nodup:∀ {ps:List Nat} {L:List Int},L.Nodup→(addA L ps).Nodup
 | [],L,h=>h
 | p::ps,L,h=>by
  show (addA (addP L p) ps).Nodup
  refine addA_nodup ?_
  unfold addP
  split
  ·exact h
  ·rename_i hn
   refine List.nodup_append.2 ⟨h,by simp,fun a ha b hb=>?_⟩
   rw [List.mem_singleton] at hb
   intro e
   exact hn (hb ▸ e ▸ ha)
def plU (a b:Int):List Int:=addA (addA [-1,2] (primesL a.natAbs)) (primesL b.natAbs)
theorem plU_mem {a b:Int} (ha:a≠0) (hb:b≠0) {x:Int}:x∈plU a b↔x = -1∨x = 2∨∃ p:Nat,PrimeN p∧x = (p:Int)∧(p ∣ a.natAbs∨p ∣ b.natAbs):=by
 have h1:=primesL_ok (n:=a.natAbs) (by omega)
 have h2:=primesL_ok (n:=b.natAbs) (by omega)
 unfold plU
 rw [addA_mem,addA_mem]
 simp only [List.mem_cons,List.not_mem_nil,or_false]
 constructor
 ·rintro (((h | h) | ⟨p,hp,h⟩) | ⟨p,hp,h⟩)
  ·exact .inl h
  ·exact .inr (.inl h)
  ·exact .inr (.inr ⟨p,(h1.1 p hp).1,h,.inl (h1.1 p hp).2.1⟩)
  ·exact .inr (.inr ⟨p,(h2.1 p hp).1,h,.inr (h2.1 p hp).2.1⟩)
 ·rintro (h | h | ⟨p,hp,h,hd | hd⟩)
  ·exact .inl (.inl (.inl h))
  ·exact .inl (.inl (.inr h))
  ·exact .inl (.inr ⟨p,h1.2.2 p hp hd,h⟩)
  ·exact .inr ⟨p,h2.2.2 p hp hd,h⟩
theorem plU_nodup (a b:Int):(plU a b).Nodup:=addA_nodup (addA_nodup (by decide))
def plS (a b:Int):List Int:=srtI (plU a b)
theorem plS_rise (a b:Int):(plS a b).Pairwise (· < ·):=(srtI_ok _ _ rfl (plU_nodup a b)).1
theorem plS_mem {a b:Int} (ha:a≠0) (hb:b≠0) {x:Int}:x∈plS a b↔x = -1∨x = 2∨∃ p:Nat,PrimeN p∧x = (p:Int)∧(p ∣ a.natAbs∨p ∣ b.natAbs):=by
 rw [← plU_mem ha hb];exact (srtI_ok _ _ rfl (plU_nodup a b)).2 x
theorem rise_nat:∀ {l:List Int},l.Pairwise (· < ·)→(∀ x∈l,0≤x)→(l.map Int.toNat).Pairwise (· < ·)
 | [],_,_=>by simp
 | a::l,h,h0=>by
  have h':=List.pairwise_cons.1 h
  rw [List.map_cons]
  refine List.pairwise_cons.2 ⟨fun z hz=>?_,rise_nat h'.2 fun x hx=>h0 x (List.mem_cons_of_mem _ hx)⟩
  obtain ⟨y,hy,rfl⟩:=List.mem_map.1 hz
  have:=h'.1 y hy;have:=h0 a (by simp);have:=h0 y (List.mem_cons_of_mem _ hy)
  omega
theorem plS_few {a b:Int} (ha:a≠0) (hb:b≠0) (hA:a.natAbs≤1000000) (hB:b.natAbs≤1000000):(plS a b).length≤12:=by
 obtain ⟨M,hM⟩:∃ M,M = (plS a b).filter fun x=>decide (2 < x):=⟨_,rfl⟩
 have hr:M.Pairwise (· < ·):=by rw [hM];exact (plS_rise a b).filter _
 have hmem:∀ x∈M,∃ p:Nat,PrimeN p∧x = (p:Int)∧(p ∣ a.natAbs∨p ∣ b.natAbs)∧2 < x:=fun x hx=>by
  rw [hM] at hx
  obtain ⟨h1,h2⟩:=List.mem_filter.1 hx
  rw [decide_eq_true_eq] at h2
  rcases (plS_mem ha hb).1 h1 with h | h | ⟨p,hp,h,hd⟩
  ·omega
  ·omega
  ·exact ⟨p,hp,h,hd,h2⟩
 have h10:(M.map Int.toNat).length≤10:=by
  refine few_odd (n:=a.natAbs * b.natAbs) (rise_nat hr fun x hx=>by obtain ⟨p,_,_,_,h⟩:=hmem x hx;omega) (fun p hp=>?_) (Nat.mul_pos (by omega) (by omega)) (Nat.le_trans (Nat.mul_le_mul hA hB) (by decide))
  obtain ⟨x,hx,rfl⟩:=List.mem_map.1 hp
  obtain ⟨q,hq,rfl,hd,h2⟩:=hmem x hx
  rw [Int.toNat_natCast]
  refine ⟨hq,?_,by omega⟩
  rcases hd with hd | hd
  ·exact Nat.dvd_mul_right_of_dvd hd _
  ·exact Nat.dvd_mul_left_of_dvd hd _
 rw [List.length_map] at h10
 have hle:(plS a b).length≤([-1,2]++M).length:=by
  have hnd:=List.Pairwise.imp (R:=(· < ·)) (S:=(·≠·)) (fun (h:_ < _)=>Int.ne_of_lt h) (plS_rise a b)
  refine nodup_len hnd fun x hx=>?_
  by_cases h2:2 < x
  ·exact List.mem_append_right _ (by rw [hM];exact List.mem_filter.2 ⟨hx,decide_eq_true h2⟩)
  ·refine List.mem_append_left _ ?_
   rcases (plS_mem ha hb).1 hx with h | h | ⟨p,hp,h,hd⟩
   ·simp [h]
   ·simp [h]
   ·have:=hp.1
    have:x = 2:=by omega
    simp [this]
 rw [List.length_append] at hle
 simp at hle
 omega
noncomputable def plT (a b p:Int):Bool:=(decide (p ∣ a) || decide (p ∣ b)) && primeB p
noncomputable def plR (a b:Int) (n:Nat):List Int:=[-1,2]++((List.range n).map fun i:Nat=>3+2 * (i:Int)).filter (plT a b)
theorem plR_succ (a b:Int) (n:Nat):plR a b (n+1) = plR a b n++if plT a b (3+2 * (n:Int)) then [3+2 * (n:Int)] else []:=by
 unfold plR
 rw [List.range_succ,List.map_append,List.filter_append,← List.append_assoc]
 congr 1
 cases h:plT a b (3+2 * (n:Int)) <;> simp [h]
theorem plR_rise (a b:Int) (n:Nat):(plR a b n).Pairwise (· < ·):=by
 unfold plR
 refine List.pairwise_append.2 ⟨by decide,List.Pairwise.filter _ (List.pairwise_map.2 (List.pairwise_lt_range.imp fun h=>by omega)),fun x hx y hy=>?_⟩
 obtain ⟨i,_,rfl⟩:=List.mem_map.1 (List.mem_filter.1 hy).1
 simp only [List.mem_cons,List.not_mem_nil,or_false] at hx
 omega
theorem dvd_abs {p:Nat} {a:Int}:(p:Int) ∣ a↔p ∣ a.natAbs:=Int.ofNat_dvd_left
theorem plR_mem {a b:Int} {n:Nat} {x:Int}:x∈plR a b n↔x = -1∨x = 2∨∃ i,i < n∧x = 3+2 * (i:Int)∧(x ∣ a∨x ∣ b)∧PrimeI x:=by
 unfold plR
 rw [List.mem_append,List.mem_filter,List.mem_map]
 simp only [List.mem_cons,List.not_mem_nil,or_false,List.mem_range,plT,Bool.and_eq_true,Bool.or_eq_true,decide_eq_true_eq,primeB_iff]
 constructor
 ·rintro ((h | h) | ⟨⟨i,hi,rfl⟩,h1,h2⟩)
  ·exact .inl h
  ·exact .inr (.inl h)
  ·exact .inr (.inr ⟨i,hi,rfl,h1,h2⟩)
 ·rintro (h | h | ⟨i,hi,h0,h1,h2⟩)
  ·exact .inl (.inl h)
  ·exact .inl (.inr h)
  ·exact .inr ⟨⟨i,hi,h0.symm⟩,h1,h2⟩
theorem places_eq {a b:Int} (ha:a≠0) (hb:b≠0) (hA:a.natAbs≤1000000) (hB:b.natAbs≤1000000):plS a b = plR a b 499999:=by
 refine rise_ext (plS_rise a b) (plR_rise a b _) fun x=>?_
 rw [plS_mem ha hb,plR_mem]
 constructor
 ·rintro (h | h | ⟨p,hp,rfl,hd⟩)
  ·exact .inl h
  ·exact .inr (.inl h)
  ·by_cases h2:p = 2
   ·subst h2;exact .inr (.inl rfl)
   ·have hodd:p % 2 = 1:=by
     rcases Nat.mod_two_eq_zero_or_one p with h | h
     ·exfalso
      rcases hp.2 2 (Nat.dvd_of_mod_eq_zero h) with e | e <;> omega
     ·exact h
    have hp2:=hp.1
    have hle:p≤1000000:=by
     rcases hd with hd | hd
     ·exact Nat.le_trans (Nat.le_of_dvd (by omega) hd) hA
     ·exact Nat.le_trans (Nat.le_of_dvd (by omega) hd) hB
    exact .inr (.inr ⟨(p - 3) / 2,by omega,by omega,by rw [dvd_abs,dvd_abs];exact hd,hp.i⟩)
 ·rintro (h | h | ⟨i,hi,h0,hd,hp⟩)
  ·exact .inl h
  ·exact .inr (.inl h)
  ·obtain ⟨p, rfl⟩ : ∃ p : Nat, x = (p : Int) := ⟨x.toNat, by omega⟩
   rw [dvd_abs,dvd_abs] at hd
   exact .inr (.inr ⟨p,hp.n,rfl,hd⟩)
theorem first_prime {n:Nat} (hn:2≤n):∃ p ps,primesL n = p::ps∧((p = n)↔PrimeN n):=by
 have h:=primesL_ok (n:=n) (by omega)
 cases e:primesL n with
 | nil =>
  exfalso
  obtain ⟨p,hp,hd⟩:∃ p,PrimeN p∧p ∣ n:=by
   have:∀ k n,n≤k→2≤n→∃ p,PrimeN p∧p ∣ n:=by
    intro k
    induction k with
    | zero=>intro n h1 h2;omega
    | succ k ih =>
     intro n h1 h2
     by_cases hp:PrimeN n
     ·exact ⟨n,hp,Nat.dvd_refl _⟩
     ·have:∃ d,d ∣ n∧d≠1∧d≠n:=Classical.byContradiction fun hc=>hp ⟨h2,fun d hd=>Classical.byContradiction fun hne=>hc ⟨d,hd,fun e=>hne (.inl e),fun e=>hne (.inr e)⟩⟩
      obtain ⟨d,hd,hd1,hdn⟩:=this
      have hd0:0 < d:=Nat.pos_of_dvd_of_pos hd (by omega)
      have hdle:=Nat.le_of_dvd (by omega) hd
      obtain ⟨p,hp,hpd⟩:=ih d (by omega) (by omega)
      exact ⟨p,hp,Nat.dvd_trans hpd hd⟩
   exact this n n (Nat.le_refl _) hn
  have:=h.2.2 p hp hd
  rw [e] at this;cases this
 | cons p ps =>
  refine ⟨p,ps,rfl,fun hpn=>?_,fun hp=>?_⟩
  ·rw [← hpn];exact (h.1 p (by rw [e];simp)).1
  ·rw [primesL_prime hp] at e;simp at e;exact e.1.symm
def splitI:Nat→Int→Int→Int × Int
 | 0,n,_=>(0,n)
 | f+1,n,p=>if n.tmod p = 0 then ((splitI f (n.tdiv p) p).1+1,(splitI f (n.tdiv p) p).2) else (0,n)
theorem splitI_step {f:Nat} {n p:Int} (h:n.tmod p = 0):splitI (f+1) n p = ((splitI f (n.tdiv p) p).1+1,(splitI f (n.tdiv p) p).2):=by rw [splitI,if_pos h]
theorem splitI_end {f:Nat} {n p:Int} (h:¬ n.tmod p = 0):splitI f n p = (0,n):=by
 cases f with
 | zero=>rfl
 | succ f=>rw [splitI,if_neg h]
theorem tdiv_less {n p:Int} (hp:2≤p) (hn:n≠0) (h:n.tmod p = 0):(n.tdiv p).natAbs+1≤n.natAbs∧n.tdiv p≠0∧n = p * n.tdiv p:=by
 have e:n = p * n.tdiv p:=by have:=Int.mul_tdiv_add_tmod n p;omega
 obtain ⟨q,hq⟩:∃ q,q = n.tdiv p:=⟨_,rfl⟩
 rw [← hq] at e ⊢
 have hq0:q≠0:=fun h0=>by rw [h0] at e;simp at e;exact hn e
 have hm:n.natAbs = p.natAbs * q.natAbs:=by rw [e,Int.natAbs_mul]
 have h2:2 * q.natAbs≤p.natAbs * q.natAbs:=Nat.mul_le_mul_right _ (by omega)
 exact ⟨by omega,hq0,e⟩
theorem splitI_ok {p:Int} (hp:2≤p):∀ (f:Nat) (n:Int),n≠0→n.natAbs≤f→0≤(splitI f n p).1∧(splitI f n p).1+((splitI f n p).2.natAbs:Int)≤n.natAbs∧(splitI f n p).2≠0∧¬ p ∣ (splitI f n p).2∧n = p ^ (splitI f n p).1.toNat * (splitI f n p).2
 | 0,n,hn,hf=>by omega
 | f+1,n,hn,hf=>by
  by_cases h:n.tmod p = 0
  ·obtain ⟨h1,h2,h3⟩:=tdiv_less hp hn h
   obtain ⟨a1,a2,a3,a4,a5⟩:=splitI_ok hp f (n.tdiv p) h2 (by omega)
   rw [splitI_step h]
   dsimp only
   refine ⟨by omega,by omega,a3,a4,?_⟩
   rw [show ((splitI f (n.tdiv p) p).1+1).toNat = (splitI f (n.tdiv p) p).1.toNat+1 by omega,Int.pow_succ,Int.mul_comm _ p,Int.mul_assoc,← a5]
   exact h3
  ·rw [splitI_end h]
   dsimp only
   exact ⟨Int.le_refl _,by omega,hn,fun hd=>h (Int.tmod_eq_zero_of_dvd hd),by simp⟩
def sgnI (n:Int):Int:=if n % 2 = 0 then 1 else -1
def chI (n p:Int):Int:=if (n % p) ^ ((p - 1) / 2).toNat % p = 1 then 1 else -1
def symP (p i u j w:Int):Int:=if p = 2 then sgnI ((u - 1).tdiv 2 * (w - 1).tdiv 2+i * ((w * w - 1) / 8)+j * ((u * u - 1) / 8)) else sgnI (i * j * ((p - 1) / 2)) * (if j % 2 = 1 then chI u p else 1) * (if i % 2 = 1 then chI w p else 1)
def spl (n p:Int):Int × Int:=splitI n.natAbs n p
def symM (a b p:Int):Int:=if p = -1 then (if a < 0∧b < 0 then -1 else 1) else symP p (spl a p).1 (spl a p).2 (spl b p).1 (spl b p).2
theorem sgnI_pm (n:Int):sgnI n = 1∨sgnI n = -1:=by unfold sgnI;split <;> simp
theorem chI_pm (n p:Int):chI n p = 1∨chI n p = -1:=by unfold chI;split <;> simp
theorem sgnI_add (m n:Int):sgnI (m+n) = sgnI m * sgnI n:=by
 unfold sgnI
 split <;> split <;> split <;> omega
end Go.Dp
namespace Go.Dp
open Go.RowKit Go.Proofs
attribute [local irreducible] wp wpOps wpOp1 CallW CallT kSeq kBlk kLoop kReg retP retR kAsg kRound kRf kCut kItr kItr2
set_option linter.unusedVariables false
set_option linter.unusedSimpArgs false
theorem pmod (b m:Int) (k:Nat):(b % m) ^ k % m = b ^ k % m:=by
 induction k with
 | zero=>rw [Int.pow_zero,Int.pow_zero]
 | succ k ih=>rw [Int.pow_succ,Int.pow_succ,Int.mul_emod,ih,Int.emod_emod,← Int.mul_emod]
theorem sq_step (r b m:Int) (e:Int) (he:0 < e) (h:e % 2 = 1):(r * b % m * (b * b % m) ^ (e / 2).toNat) % m = (r * b ^ e.toNat) % m:=by
 have he2:e.toNat = 2 * (e / 2).toNat+1:=by omega
 rw [he2,Int.mul_emod,Int.emod_emod,pmod,← Int.mul_emod,Int.pow_succ,Int.pow_mul]
 congr 1
 rw [show (b ^ 2:Int) = b * b from by rw [Int.pow_succ,Int.pow_succ,Int.pow_zero,Int.one_mul]]
 rw [Int.mul_assoc,Int.mul_comm b]
theorem sq_step0 (r b m:Int) (e:Int) (he:0 < e) (h:¬ e % 2 = 1):(r * (b * b % m) ^ (e / 2).toNat) % m = (r * b ^ e.toNat) % m:=by
 have he2:e.toNat = 2 * (e / 2).toNat:=by omega
 rw [he2,Int.mul_emod,pmod,← Int.mul_emod,Int.pow_mul]
 congr 1
 rw [show (b ^ 2:Int) = b * b from by rw [Int.pow_succ,Int.pow_succ,Int.pow_zero,Int.one_mul]]
theorem emod_rng {a P:Int} (h:0 < P):0≤a % P∧a % P < P:=⟨Int.emod_nonneg _ (by omega),Int.emod_lt_of_pos _ h⟩
theorem mul_bd {a b m:Int} (ha:0≤a∧a < m) (hb:0≤b∧b < m) (hm:m≤2 ^ 31):0≤a * b∧a * b < 2 ^ 62:=by
 have h1:a * b≤(2 ^ 31 - 1) * (2 ^ 31 - 1):=Int.mul_le_mul (by omega) (by omega) (by omega) (by omega)
 exact ⟨Int.mul_nonneg ha.1 hb.1,by omega⟩
theorem tdiv_abs (a:Int) {b:Int}:(a.tdiv b).natAbs≤a.natAbs:=by
 rw [Int.natAbs_tdiv];exact Nat.div_le_self _ _
@[go_sem low] theorem v_quo_t {a b:Int} (h:b≠0∧-9223372036854775808 < a∧a < 9223372036854775808):vbin .quo (.int .i64 a) (.int .i64 b) = some (.int .i64 (a.tdiv b)):=by
 have h1:=tdiv_abs a (b:=b)
 obtain ⟨h2,h3⟩:=h
 simp [vbin,vint,h2,wrap_i64 (z:=a.tdiv b) (by omega)]
theorem rem_fix {n p:Int} (hp:0 < p):(n.tmod p+p).tmod p = n % p:=by
 have h1:-p < n.tmod p:=Int.lt_tmod_of_pos n hp
 rw [Int.tmod_eq_emod_of_nonneg (by omega),Int.add_emod_right]
 have:=Int.mul_tdiv_add_tmod n p
 conv=>rhs;rw [← this]
 rw [Int.add_comm,Int.add_mul_emod_self_left]
theorem tmod_2 (n:Int):n.tmod 2 = 0↔n % 2 = 0:=by
 rw [← Int.dvd_iff_tmod_eq_zero,← Int.dvd_iff_emod_eq_zero]
theorem k66 (n:Int) (hn:-2 ^ 62 < n∧n < 2 ^ 62):PureC Tryz.prog 66 [.int .i64 n] (fun r=>r = .int .i64 (n.natAbs:Int)):=by
 refine pureC_of_wp .x mixed ok66 rfl ?_
 unfold c66
 dsimp only [argE]
 by_cases h:0≤n
 ·rw [Int.natAbs_of_nonneg h]
  refine W.run ?_
  first | rfl | (congr 1;done) | (congr 1;omega)
 ·have e : (n.natAbs : Int) = -n := by omega
  rw [e]
  refine W.run ?_
  first | rfl | (congr 1;done) | (congr 1;omega)
set_option maxRecDepth 10000 in
theorem k48 (n p:Int) (hn:n≠0∧-2 ^ 40 < n∧n < 2 ^ 40) (hp:2≤p∧p < 2 ^ 40):PureC Tryz.prog 48 [.int .i64 n,.int .i64 p] (fun r=>r = .tup [.int .i64 (spl n p).1,.int .i64 (spl n p).2]):=by
 refine pureC_of_wp (.l [.x,.x]) mixed ok48 rfl ?_
 unfold c48
 dsimp only [argE]
 refine W.run ?_
 refine W.lp (fun z:Nat × Int × Int=>[(0,.int .i64 z.2.1),(1,.int .i64 p),(4,.int .i64 z.2.2)]) (fun _ _=>none) (fun z=>(z.2.1≠0∧z.2.1.natAbs≤z.1)∧(0≤z.2.2∧z.2.2+z.2.1.natAbs≤n.natAbs)∧spl n p = (z.2.2+(splitI z.1 z.2.1 p).1,(splitI z.1 z.2.1 p).2)) (fun z=>z.1) (n.natAbs,n,0) rfl (HS.refl _) ⟨⟨hn.1,Nat.le_refl _⟩,by dsimp only;omega,by dsimp only;rw [Int.zero_add];rfl⟩ ?_
 rintro ⟨f,m,e⟩ nx ⟨⟨h0,hf⟩,⟨he,hem⟩,hs⟩ hnx
 dsimp only at h0 hf he hem hs ⊢
 by_cases hz:m.tmod p = 0
 ·obtain ⟨f, rfl⟩ : ∃ g, f = g + 1 := ⟨f - 1, by omega⟩
  obtain ⟨h1,h2,h3⟩:=tdiv_less hp.1 h0 hz
  rw [splitI_step hz] at hs
  refine W.run ?_
  refine W.kl (f,m.tdiv p,e+1) rfl (HS.refl _) (by omega) ⟨⟨h2,by dsimp only;omega⟩,by dsimp only;omega,?_⟩ (by dsimp only;omega)
  rw [hs];dsimp only;rw [Int.add_assoc,Int.add_comm 1]
 ·rw [splitI_end hz,Int.add_zero] at hs
  refine W.run ?_
  rw [hs]
set_option maxRecDepth 10000 in
theorem k34 (n p:Int) (hn:n≠0∧-2 ^ 40 < n∧n < 2 ^ 40) (hp:2≤p∧p < 2 ^ 40):PureC Tryz.prog 34 [.int .i64 n,.int .i64 p] (fun r=>r = .tup [.int .i64 (spl n p).1,.int .i64 (spl n p).2]):=by
 refine pureC_of_wp (.l [.x,.x]) mixed ok34 rfl ?_
 unfold c34
 dsimp only [argE]
 refine W.run ?_
 refine W.lp (fun z:Nat × Int × Int=>[(0,.int .i64 z.2.1),(1,.int .i64 p),(6,.int .i64 z.2.2)]) (fun _ _=>none) (fun z=>(z.2.1≠0∧z.2.1.natAbs≤z.1)∧(0≤z.2.2∧z.2.2+z.2.1.natAbs≤n.natAbs)∧spl n p = (z.2.2+(splitI z.1 z.2.1 p).1,(splitI z.1 z.2.1 p).2)) (fun z=>z.1) (n.natAbs,n,0) rfl (HS.refl _) ⟨⟨hn.1,Nat.le_refl _⟩,by dsimp only;omega,by dsimp only;rw [Int.zero_add];rfl⟩ ?_
 rintro ⟨f,m,e⟩ nx ⟨⟨h0,hf⟩,⟨he,hem⟩,hs⟩ hnx
 dsimp only at h0 hf he hem hs ⊢
 by_cases hz:m.tmod p = 0
 ·obtain ⟨f, rfl⟩ : ∃ g, f = g + 1 := ⟨f - 1, by omega⟩
  obtain ⟨h1,h2,h3⟩:=tdiv_less hp.1 h0 hz
  rw [splitI_step hz] at hs
  refine W.run ?_
  refine W.kl (f,m.tdiv p,e+1) rfl (HS.refl _) (by omega) ⟨⟨h2,by dsimp only;omega⟩,by dsimp only;omega,?_⟩ (by dsimp only;omega)
  rw [hs];dsimp only;rw [Int.add_assoc,Int.add_comm 1]
 ·rw [splitI_end hz,Int.add_zero] at hs
  refine W.run ?_
  rw [hs]
set_option maxRecDepth 10000 in
theorem k50 (n p:Int) (hn:-2 ^ 62 < n∧n < 2 ^ 62) (hp:3≤p∧p < 2 ^ 31):PureC Tryz.prog 50 [.int .i64 n,.int .i64 p] (fun r=>r = .int .i64 (chI n p)):=by
 have h1:-p < n.tmod p:=Int.lt_tmod_of_pos n (by omega)
 have h2:n.tmod p < p:=Int.tmod_lt_of_pos n (by omega)
 have hfx:=rem_fix (n:=n) (p:=p) (by omega)
 rw [Int.tmod_eq_emod_of_nonneg (by omega)] at hfx
 have hx:=emod_rng (a:=n) (P:=p) (by omega)
 refine pureC_of_wp .x mixed ok50 rfl ?_
 unfold c50
 dsimp only [argE]
 refine W.run ?_
 rw [hfx]
 unfold chI
 generalize n % p = x at hx ⊢
 clear h1 h2 hfx
 refine W.lp (fun z:Int × Int × Int=>[(1,.int .i64 p),(5,.int .i64 z.1),(6,.int .i64 z.2.1),(7,.int .i64 z.2.2)]) (fun _ _=>none) (fun z=>(0≤z.1∧z.1 < p)∧(0≤z.2.1∧z.2.1 < p)∧(0≤z.2.2∧z.2.2≤p)∧z.1 * z.2.1 ^ z.2.2.toNat % p = x ^ ((p - 1) / 2).toNat % p) (fun z=>z.2.2.toNat) (1,x,(p - 1) / 2) rfl (HS.refl _) ⟨by dsimp only;omega,hx,by dsimp only;omega,by dsimp only;rw [Int.one_mul]⟩ ?_
 rintro ⟨o,b,k⟩ nx ⟨ho,hb,hk,hI⟩ hnx
 dsimp only at ho hb hk hI ⊢
 by_cases hk0:0 < k
 ·have m1 := mul_bd ho hb (by omega)
  have m2:=mul_bd hb hb (by omega)
  have r1:=emod_rng (a:=o * b) (P:=p) (by omega)
  have r2:=emod_rng (a:=b * b) (P:=p) (by omega)
  by_cases hodd:k % 2 = 1
  ·refine W.run ?_
   exact W.kl (o * b % p,b * b % p,k / 2) rfl (HS.refl _) (by omega) ⟨r1,r2,by dsimp only;omega,by dsimp only;rw [← hI];exact sq_step o b p k hk0 hodd⟩ (by dsimp only;omega)
  ·refine W.run ?_
   exact W.kl (o,b * b % p,k / 2) rfl (HS.refl _) (by omega) ⟨ho,r2,by dsimp only;omega,by dsimp only;rw [← hI];exact sq_step0 o b p k hk0 hodd⟩ (by dsimp only;omega)
 ·have hke : k = 0 := by omega
  rw [hke] at hI
  rw [show (0:Int).toNat = 0 from rfl,Int.pow_zero,Int.mul_one,Int.emod_eq_of_lt ho.1 ho.2] at hI
  rw [← hI]
  by_cases h1:o = 1
  ·refine W.run ?_
   rw [if_pos h1]
  ·refine W.run ?_
   rw [if_neg h1]
set_option maxRecDepth 10000 in
theorem k36 (n p:Int) (hn:-2 ^ 62 < n∧n < 2 ^ 62) (hp:3≤p∧p < 2 ^ 31):PureC Tryz.prog 36 [.int .i64 n,.int .i64 p] (fun r=>r = .int .i64 (chI n p)):=by
 have h1:-p < n.tmod p:=Int.lt_tmod_of_pos n (by omega)
 have h2:n.tmod p < p:=Int.tmod_lt_of_pos n (by omega)
 have hfx:=rem_fix (n:=n) (p:=p) (by omega)
 rw [Int.tmod_eq_emod_of_nonneg (by omega)] at hfx
 have hx:=emod_rng (a:=n) (P:=p) (by omega)
 refine pureC_of_wp .x mixed ok36 rfl ?_
 unfold c36
 dsimp only [argE]
 refine W.run ?_
 rw [hfx]
 unfold chI
 generalize n % p = x at hx ⊢
 clear h1 h2 hfx
 refine W.lp (fun z:Int × Int × Int=>[(0,.int .i64 z.2.1),(1,.int .i64 p),(5,.int .i64 z.1),(6,.int .i64 z.2.2)]) (fun _ _=>none) (fun z=>(0≤z.1∧z.1 < p)∧(0≤z.2.1∧z.2.1 < p)∧(0≤z.2.2∧z.2.2≤p)∧z.1 * z.2.1 ^ z.2.2.toNat % p = x ^ ((p - 1) / 2).toNat % p) (fun z=>z.2.2.toNat) (1,x,(p - 1) / 2) rfl (HS.refl _) ⟨by dsimp only;omega,hx,by dsimp only;omega,by dsimp only;rw [Int.one_mul]⟩ ?_
 rintro ⟨o,b,k⟩ nx ⟨ho,hb,hk,hI⟩ hnx
 dsimp only at ho hb hk hI ⊢
 by_cases hk0:0 < k
 ·have m1 := mul_bd ho hb (by omega)
  have m2:=mul_bd hb hb (by omega)
  have r1:=emod_rng (a:=o * b) (P:=p) (by omega)
  have r2:=emod_rng (a:=b * b) (P:=p) (by omega)
  by_cases hodd:k % 2 = 1
  ·refine W.run ?_
   exact W.kl (o * b % p,b * b % p,k / 2) rfl (HS.refl _) (by omega) ⟨r1,r2,by dsimp only;omega,by dsimp only;rw [← hI];exact sq_step o b p k hk0 hodd⟩ (by dsimp only;omega)
  ·refine W.run ?_
   exact W.kl (o,b * b % p,k / 2) rfl (HS.refl _) (by omega) ⟨ho,r2,by dsimp only;omega,by dsimp only;rw [← hI];exact sq_step0 o b p k hk0 hodd⟩ (by dsimp only;omega)
 ·have hke : k = 0 := by omega
  rw [hke] at hI
  rw [show (0:Int).toNat = 0 from rfl,Int.pow_zero,Int.mul_one,Int.emod_eq_of_lt ho.1 ho.2] at hI
  rw [← hI]
  by_cases h1:o = 1
  ·refine W.run ?_
   rw [if_pos h1]
  ·refine W.run ?_
   rw [if_neg h1]
theorem k49 (n:Int) (hn:-2 ^ 63≤n∧n < 2 ^ 63):PureC Tryz.prog 49 [.int .i64 n] (fun r=>r = .int .i64 (sgnI n)):=by
 have h:=tmod_2 n
 refine pureC_of_wp .x mixed ok49 rfl ?_
 unfold c49
 dsimp only [argE]
 unfold sgnI
 by_cases h2:n.tmod 2 = 0
 ·have h3:=h.1 h2
  clear h
  refine W.run ?_
  rw [if_pos h3]
 ·have h3:=fun e=>h2 (h.2 e)
  clear h
  refine W.run ?_
  rw [if_neg h3]
theorem k35 (n:Int) (hn:-2 ^ 63≤n∧n < 2 ^ 63):PureC Tryz.prog 35 [.int .i64 n] (fun r=>r = .bool (decide (n % 2 = 0))):=by
 have h:=tmod_2 n
 refine pureC_of_wp .x mixed ok35 rfl ?_
 unfold c35
 dsimp only [argE]
 by_cases h2:n.tmod 2 = 0
 ·have h3:=h.1 h2
  clear h
  refine W.run ?_
  rw [decide_eq_true h3]
 ·have h3:=fun e=>h2 (h.2 e)
  clear h
  refine W.run ?_
  rw [decide_eq_false h3]
end Go.Dp
