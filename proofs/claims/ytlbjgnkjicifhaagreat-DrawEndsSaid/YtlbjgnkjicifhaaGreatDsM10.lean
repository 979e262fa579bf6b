import Derived.Test.YtlbjgnkjicifhaaGreatDsM2
namespace Go.Dp
open Go.RowKit
set_option linter.unusedVariables false
set_option linter.unusedSimpArgs false
def InF (P:Int) (l:List Int):Prop:=∀ a∈l,0≤a∧a < P
theorem InF.nil {P:Int}:InF P []:=fun _ h=>by cases h
theorem InF.cons {P a:Int} {l:List Int} (ha:0≤a∧a < P) (h:InF P l):InF P (a::l):=fun b hb=>by
 rcases List.mem_cons.1 hb with rfl | hb
 ·exact ha
 ·exact h b hb
theorem InF.set {P:Int} {l:List Int} (h:InF P l) (i:Nat) {v:Int} (hv:0≤v∧v < P):InF P (l.set i v):=fun a ha=>by
 rcases List.mem_or_eq_of_mem_set ha with h1 | rfl
 ·exact h a h1
 ·exact hv
theorem InF.rep {P:Int} (hP:0 < P) (n:Nat):InF P (List.replicate n 0):=fun a ha=>by
 have:=(List.mem_replicate.1 ha).2;omega
theorem emod_rng {a P:Int} (hP:0 < P):0≤a % P∧a % P < P:=⟨Int.emod_nonneg _ (by omega),Int.emod_lt_of_pos _ hP⟩
def trimI:List Int→List Int
 | []=>[]
 | a::l=>match trimI l with
  | []=>if a = 0 then [] else [a]
  | b::m=>a::b::m
theorem trimI_ev (z:Int):∀ l,evI (trimI l) z = evI l z
 | []=>rfl
 | a::l=>by
  have ih:=trimI_ev z l
  unfold trimI
  cases h:trimI l with
  | nil =>
   rw [h] at ih
   have ih':evI l z = 0:=ih.symm
   dsimp only
   split
   ·rename_i ha;subst ha;simp [evI,ih']
   ·simp [evI,ih']
  | cons b m =>
   rw [h] at ih
   show a+z * evI (b::m) z = a+z * evI l z
   rw [ih]
theorem trimI_len:∀ l,(trimI l).length≤l.length
 | []=>by simp [trimI]
 | a::l=>by
  have ih:=trimI_len l
  unfold trimI
  cases h:trimI l with
  | nil=>dsimp only;split <;> simp
  | cons b m=>rw [h] at ih;simpa using ih
theorem trimI_in {P:Int}:∀ {l},InF P l→InF P (trimI l)
 | [],h=>by simpa [trimI] using h
 | a::l,h=>by
  have ih:=trimI_in (P:=P) (l:=l) fun b hb=>h b (List.mem_cons_of_mem _ hb)
  unfold trimI
  cases e:trimI l with
  | nil =>
   dsimp only;split
   ·exact InF.nil
   ·exact InF.cons (h a (by simp)) InF.nil
  | cons b m=>rw [e] at ih;exact InF.cons (h a (by simp)) ih
theorem trimI_take:∀ {l:List Int} {n:Nat},n≤l.length→(∀ i,n≤i→(h:i < l.length)→l[i] = 0)→(0 < n→(h:n - 1 < l.length)→l[n - 1]≠0)→trimI l = l.take n
 | [],n,hn,_,_=>by simp [trimI]
 | a::l,0,hn,h0,h1=>by
  have ih:=trimI_take (l:=l) (n:=0) (by simp) (fun i hi h=>h0 (i+1) (by omega) (by simpa using h)) (fun h=>by omega)
  unfold trimI
  rw [ih]
  have:a = 0:=h0 0 (by omega) (by simp)
  simp [this]
 | a::l,1,hn,h0,h1=>by
  have ih:=trimI_take (l:=l) (n:=0) (by simp) (fun i hi h=>h0 (i+1) (by omega) (by simpa using h)) (fun h=>by omega)
  unfold trimI
  rw [ih]
  have:a≠0:=h1 (by omega) (by simp)
  simp [this]
 | a::l,n+2,hn,h0,h1=>by
  have ih:=trimI_take (l:=l) (n:=n+1) (by simpa using hn) (fun i hi h=>h0 (i+1) (by omega) (by simpa using h)) (fun _ h=>by simpa using h1 (by omega) (by simp at h ⊢;omega))
  unfold trimI
  rw [ih]
  have hl:n+1≤l.length:=by simpa using hn
  match l,hl with
  | b::m,_=>simp
def addF (P c:Int):List Int→List Int→List Int
 | p,[]=>p
 | [],a::q=>((0+c * a % P) % P)::addF P c [] q
 | x::p,a::q=>((x+c * a % P) % P)::addF P c p q
theorem addF_len (P c:Int):∀ p q:List Int,(addF P c p q).length = max p.length q.length
 | p,[]=>by simp [addF]
 | [],a::q=>by simp [addF,addF_len P c [] q]
 | x::p,a::q=>by simp [addF,addF_len P c p q]
theorem addF_in {P c:Int} (hP:0 < P):∀ {p q:List Int},InF P p→InF P (addF P c p q)
 | p,[],h=>by simpa [addF] using h
 | [],a::q,h=>InF.cons (emod_rng hP) (addF_in hP (p:=[]) (q:=q) InF.nil)
 | x::p,a::q,h=>InF.cons (emod_rng hP) (addF_in hP (p:=p) (q:=q) fun b hb=>h b (List.mem_cons_of_mem _ hb))
theorem add_mod_congr {P a b c d:Int} (h1:a % P = b % P) (h2:c % P = d % P):(a+c) % P = (b+d) % P:=by
 rw [Int.add_emod,h1,h2,← Int.add_emod]
theorem mul_mod_congr {P a b c d:Int} (h1:a % P = b % P) (h2:c % P = d % P):(a * c) % P = (b * d) % P:=by
 rw [Int.mul_emod,h1,h2,← Int.mul_emod]
theorem addF_ev (P c z:Int):∀ p q:List Int,evI (addF P c p q) z % P = (evI p z+c * evI q z) % P
 | p,[]=>by simp [addF,evI]
 | [],a::q=>by
  have ih:=addF_ev P c z [] q
  show ((0+c * a % P) % P+z * evI (addF P c [] q) z) % P = (0+c * (a+z * evI q z)) % P
  have e:(0+c * (a+z * evI q z)) = (0+c * a)+z * (evI [] z+c * evI q z):=by
   show _ = 0+c * a+z * (0+c * evI q z)
   rw [Int.mul_add,Int.mul_add,Int.mul_zero,Int.mul_left_comm c z];omega
  rw [e]
  exact add_mod_congr (by rw [Int.emod_emod];exact add_mod_congr rfl (Int.emod_emod _ _)) (mul_mod_congr rfl ih)
 | x::p,a::q=>by
  have ih:=addF_ev P c z p q
  show ((x+c * a % P) % P+z * evI (addF P c p q) z) % P = (x+z * evI p z+c * (a+z * evI q z)) % P
  have e:(x+z * evI p z+c * (a+z * evI q z)) = (x+c * a)+z * (evI p z+c * evI q z):=by
   rw [Int.mul_add,Int.mul_add,Int.mul_left_comm c z];omega
  rw [e]
  exact add_mod_congr (by rw [Int.emod_emod];exact add_mod_congr rfl (Int.emod_emod _ _)) (mul_mod_congr rfl ih)
theorem addF_step {P c:Int}:∀ {p q:List Int} {i:Nat} (hq:i < q.length) (hp:q.length≤p.length),addF P c p (q.take (i+1)) = (addF P c p (q.take i)).set i (((addF P c p (q.take i)).getD i 0+c * q[i] % P) % P)
 | p,[],i,hq,hp=>by simp at hq
 | [],a::q,i,hq,hp=>by simp at hp
 | x::p,a::q,0,hq,hp=>by simp [addF]
 | x::p,a::q,i+1,hq,hp=>by
  have ih:=addF_step (P:=P) (c:=c) (p:=p) (q:=q) (i:=i) (by simpa using hq) (by simpa using hp)
  simp only [List.take_succ_cons,addF,List.getElem_cons_succ,List.set_cons_succ,List.getD_cons_succ]
  rw [ih]
theorem evI_pad (z:Int):∀ (l:List Int) (n:Nat),evI (l++List.replicate n 0) z = evI l z
 | [],n=>by
  induction n with
  | zero=>rfl
  | succ n ih=>simp only [List.nil_append] at ih ⊢;rw [List.replicate_succ];show 0+z * evI (List.replicate n 0) z = 0;rw [ih];simp [evI]
 | a::l,n=>by
  show a+z * evI (l++List.replicate n 0) z = a+z * evI l z
  rw [evI_pad z l n]
theorem evI_set (z:Int):∀ {l:List Int} {i:Nat} (h:i < l.length) (v:Int),evI (l.set i v) z = evI l z+(v - l[i]) * z ^ i
 | a::l,0,h,v=>by
  show v+z * evI l z = a+z * evI l z+(v - a) * z ^ 0
  rw [Int.pow_zero,Int.mul_one];omega
 | a::l,i+1,h,v=>by
  show a+z * evI (l.set i v) z = a+z * evI l z+(v - l[i]'(by simpa using h)) * z ^ (i+1)
  rw [evI_set z (by simpa using h) v,Int.mul_add,Int.pow_succ,Int.mul_comm (z ^ i) z,Int.mul_left_comm z]
  omega
def rowM (P a:Int) (i:Nat):List Int→Nat→List Int→List Int
 | [],_,C=>C
 | b::q,j,C=>rowM P a i q (j+1) (C.set (i+j) ((C.getD (i+j) 0+a * b % P) % P))
def prodM (P:Int) (q:List Int):List Int→Nat→List Int→List Int
 | [],_,C=>C
 | a::p,i,C=>prodM P q p (i+1) (rowM P a i q 0 C)
theorem rowM_len (P a:Int) (i:Nat):∀ (q:List Int) (j:Nat) (C:List Int),(rowM P a i q j C).length = C.length
 | [],_,C=>rfl
 | b::q,j,C=>by rw [rowM,rowM_len P a i q];simp
theorem prodM_len (P:Int) (q:List Int):∀ (p:List Int) (i:Nat) (C:List Int),(prodM P q p i C).length = C.length
 | [],_,C=>rfl
 | a::p,i,C=>by rw [prodM,prodM_len P q p,rowM_len]
theorem rowM_in {P a:Int} (hP:0 < P) (i:Nat):∀ (q:List Int) (j:Nat) (C:List Int),InF P C→InF P (rowM P a i q j C)
 | [],_,C,h=>h
 | b::q,j,C,h=>rowM_in hP i q (j+1) _ (h.set _ (emod_rng hP))
theorem prodM_in {P:Int} (hP:0 < P) (q:List Int):∀ (p:List Int) (i:Nat) (C:List Int),InF P C→InF P (prodM P q p i C)
 | [],_,C,h=>h
 | a::p,i,C,h=>prodM_in hP q p (i+1) _ (rowM_in hP i q 0 C h)
theorem rowM_ev {P a z:Int} (i:Nat):∀ (q:List Int) (j:Nat) (C:List Int),i+j+q.length≤C.length→evI (rowM P a i q j C) z % P = (evI C z+a * z ^ (i+j) * evI q z) % P
 | [],j,C,h=>by simp [rowM,evI]
 | b::q,j,C,h=>by
  have hlt:i+j < C.length:=by simp at h;omega
  rw [rowM,rowM_ev i q (j+1) _ (by simp at h ⊢;omega),evI_set z hlt,List.getD_eq_getElem?_getD,List.getElem?_eq_getElem hlt,Option.getD_some]
  show (evI C z+((C[i+j]+a * b % P) % P - C[i+j]) * z ^ (i+j)+a * z ^ (i+(j+1)) * evI q z) % P = (evI C z+a * z ^ (i+j) * (b+z * evI q z)) % P
  have e1:((C[i+j]+a * b % P) % P - C[i+j]) % P = (a * b) % P:=by
   rw [Int.sub_emod,Int.emod_emod,← Int.sub_emod,Int.add_comm,Int.add_sub_cancel,Int.emod_emod]
  have e2:evI C z+a * z ^ (i+j) * (b+z * evI q z) = evI C z+(a * b) * z ^ (i+j)+a * z ^ (i+(j+1)) * evI q z:=by
   rw [show i+(j+1) = (i+j)+1 by omega,Int.pow_succ,Int.mul_add,← Int.add_assoc]
   congr 1
   ·congr 1
    rw [Int.mul_assoc,Int.mul_comm (z ^ (i+j)) b,← Int.mul_assoc]
   ·simp only [Int.mul_assoc]
  rw [e2]
  exact add_mod_congr (add_mod_congr rfl (mul_mod_congr e1 rfl)) rfl
theorem prodM_ev {P z:Int} (q:List Int):∀ (p:List Int) (i:Nat) (C:List Int),i+p.length+q.length≤C.length+1→evI (prodM P q p i C) z % P = (evI C z+z ^ i * evI p z * evI q z) % P
 | [],i,C,h=>by simp [prodM,evI]
 | a::p,i,C,h=>by
  simp only [List.length_cons] at h
  rw [prodM,prodM_ev q p (i+1) _ (by rw [rowM_len];omega)]
  have h1:=rowM_ev (P:=P) (a:=a) (z:=z) i q 0 C (by omega)
  rw [Nat.add_zero] at h1
  have e:evI C z+z ^ i * (a+z * evI p z) * evI q z = (evI C z+a * z ^ i * evI q z)+z ^ (i+1) * evI p z * evI q z:=by
   rw [Int.pow_succ,Int.mul_add,Int.add_mul,← Int.add_assoc]
   congr 1
   ·congr 1
    rw [Int.mul_comm (z ^ i) a]
   ·simp only [Int.mul_assoc]
  show _ = (evI C z+z ^ i * (a+z * evI p z) * evI q z) % P
  rw [e]
  exact add_mod_congr h1 rfl
def plusF (P:Int) (p:List Int) (c:Int) (q:List Int):List Int:=trimI (addF P c (p++List.replicate (max p.length q.length - p.length) 0) q)
def convF (P:Int) (p q:List Int):List Int:=prodM P q p 0 (List.replicate (p.length+q.length - 1) 0)
def timesF (P:Int) (p q:List Int):List Int:=if p.length = 0∨q.length = 0 then [] else trimI (convF P p q)
theorem plusF_ev {P c z:Int} (p q:List Int):evI (plusF P p c q) z % P = (evI p z+c * evI q z) % P:=by
 unfold plusF;rw [trimI_ev,addF_ev,evI_pad]
theorem plusF_in {P c:Int} (hP:0 < P) {p q:List Int} (h:InF P p):InF P (plusF P p c q):=by
 refine trimI_in (addF_in hP fun a ha=>?_)
 rcases List.mem_append.1 ha with h1 | h1
 ·exact h a h1
 ·exact InF.rep hP _ a h1
theorem plusF_len {P c:Int} (p q:List Int):(plusF P p c q).length≤max p.length q.length:=by
 refine Nat.le_trans (trimI_len _) ?_
 rw [addF_len];simp;omega
theorem convF_ev {P z:Int} {p q:List Int} (h:p.length≠0):evI (convF P p q) z % P = (evI p z * evI q z) % P:=by
 unfold convF
 rw [prodM_ev q p 0 _ (by simp;omega)]
 have:evI (List.replicate (p.length+q.length - 1) 0) z = 0:=evI_pad z [] _
 rw [this,Int.pow_zero,Int.one_mul,Int.zero_add]
theorem convF_len {P:Int} {p q:List Int}:(convF P p q).length = p.length+q.length - 1:=by unfold convF;rw [prodM_len];simp
theorem convF_in {P:Int} (hP:0 < P) {p q:List Int}:InF P (convF P p q):=prodM_in hP q p 0 _ (InF.rep hP _)
theorem timesF_ev {P z:Int} (p q:List Int):evI (timesF P p q) z % P = (evI p z * evI q z) % P:=by
 unfold timesF
 split
 ·rename_i h
  rcases h with h | h
  ·have:p = []:=List.length_eq_zero_iff.1 h
   subst this;simp [evI]
  ·have:q = []:=List.length_eq_zero_iff.1 h
   subst this;simp [evI]
 ·rename_i h
  rw [trimI_ev,convF_ev (fun e=>h (.inl e))]
theorem timesF_in {P:Int} (hP:0 < P) {p q:List Int}:InF P (timesF P p q):=by
 unfold timesF;split
 ·exact InF.nil
 ·exact trimI_in (convF_in hP)
theorem timesF_len {P:Int} (p q:List Int):(timesF P p q).length≤p.length+q.length - 1:=by
 unfold timesF;split
 ·simp
 ·exact Nat.le_trans (trimI_len _) (Nat.le_of_eq convF_len)
def newtF (P:Int):List Int→List Int→List Int→List Int→List Int
 | x::xs,y::ys,out,zero=>newtF P xs ys (plusF P out (((y - valM P x out+P) % P) * (valM P x zero ^ (P - 2).toNat % P) % P) zero) (timesF P zero [(0 - x+P) % P,1])
 | _,_,out,_=>out
theorem newtF_ok {P:Int} (h:PrimeI P) (hP:3≤P):∀ (xs ys out zero done:List Int) (f:Int→Int),xs.length = ys.length→InF P xs→InF P done→(done++xs).Nodup→InF P out→InF P zero→out.length≤done.length→zero.length≤done.length+1 →
  (∀ z∈done,evI out z % P = f z % P)→(∀ z,evI zero z % P = prodAt z done * (-1) ^ done.length % P)→(∀ i (hx:i < xs.length) (hy:i < ys.length),ys[i] = f xs[i] % P) →
  InF P (newtF P xs ys out zero)∧(newtF P xs ys out zero).length≤done.length+xs.length∧∀ z∈done++xs,evI (newtF P xs ys out zero) z % P = f z % P
 | [],ys,out,zero,done,f,hl,hx,hd,hn,ho,hz,l1,l2,h1,h2,h3=>by
  have:ys = []:=List.length_eq_zero_iff.1 (by simpa using hl.symm)
  subst this
  rw [List.append_nil]
  exact ⟨ho,by simpa [newtF] using l1,h1⟩
 | x::xs,[],out,zero,done,f,hl,_,_,_,_,_,_,_,_,_,_=>by simp at hl
 | x::xs,y::ys,out,zero,done,f,hl,hx,hd,hn,ho,hz,l1,l2,h1,h2,h3=>by
  have hx0:=hx x (by simp)
  have hxd:∀ w∈done,¬ P ∣ w - x:=fun w hw hdv=>by
   have e:=emod_of_dvd_sub hdv
   have:=hd w hw
   rw [Int.emod_eq_of_lt this.1 this.2,Int.emod_eq_of_lt hx0.1 hx0.2] at e
   subst e
   have hn2:=List.nodup_append.1 hn
   exact hn2.2.2 w hw w (by simp) rfl
  have hzx:¬ P ∣ valM P x zero:=by
   rw [valM_ev,h2]
   intro hdv
   have e:=Int.emod_eq_zero_of_dvd hdv
   rw [Int.emod_emod] at e
   rcases h.mul (Int.dvd_of_emod_eq_zero e) with h4 | h4
   ·exact prodAt_ndvd h done hxd h4
   ·have:∀ n:Nat,¬ P ∣ (-1:Int) ^ n:=by
     intro n
     induction n with
     | zero=>simpa using not_dvd_small (by omega) h.1
     | succ n ih =>
      intro hdv
      rw [Int.pow_succ] at hdv
      rcases h.mul hdv with h5 | h5
      ·exact ih h5
      ·have : P ∣ 1 := by have := Int.dvd_neg.2 h5; simpa using this
       exact not_dvd_small (by omega) h.1 this
    exact this _ h4
  obtain ⟨c,hc⟩:∃ c,c = ((y - valM P x out+P) % P) * (valM P x zero ^ (P - 2).toNat % P) % P:=⟨_,rfl⟩
  have hP0:0 < P:=by omega
  have hy0:y = f x % P:=h3 0 (by simp) (by simp)
  have hcx:(c * evI zero x) % P = (f x - evI out x) % P:=by
   have e0:evI zero x % P = valM P x zero:=(valM_ev zero).symm
   have e1:(c * evI zero x) % P = (c * valM P x zero) % P:=mul_mod_congr rfl (by rw [valM_ev,Int.emod_emod])
   rw [e1,hc,Int.mul_emod,Int.emod_emod,← Int.mul_emod,Int.mul_assoc,Int.mul_comm (_ % P) (valM P x zero),Int.mul_emod,inv_mul h hP hzx,Int.mul_one,Int.emod_emod,Int.emod_emod,Int.add_emod,Int.emod_self,Int.add_zero,Int.emod_emod,hy0,valM_ev,← Int.sub_emod]
  have step := newtF_ok h hP xs ys (plusF P out c zero) (timesF P zero [(0 - x + P) % P, 1]) (done ++ [x]) f (by simpa using hl) (fun a ha => hx a (List.mem_cons_of_mem _ ha))
   (fun a ha=>(List.mem_append.1 ha).elim (fun h4=>hd a h4) (fun h4=>by rw [List.mem_singleton] at h4;rw [h4];exact hx0))
   (by rw [List.append_assoc];exact hn) (plusF_in hP0 ho) (timesF_in hP0)
   (by have:=plusF_len (P:=P) (c:=c) out zero;simp only [List.length_append,List.length_singleton];omega)
   (by have:=timesF_len (P:=P) zero [(0 - x+P) % P,1];simp only [List.length_append,List.length_singleton,List.length_cons,List.length_nil] at this ⊢;omega)
   (fun z hz'=>by
    rw [plusF_ev]
    rcases List.mem_append.1 hz' with h4 | h4
    ·have e : evI zero z % P = 0 := by rw [h2, prodAt_zero h4, Int.zero_mul, Int.zero_emod]
     have e2:(c * evI zero z) % P = 0:=by rw [Int.mul_emod,e,Int.mul_zero,Int.zero_emod]
     rw [Int.add_emod,e2,Int.add_zero,Int.emod_emod];exact h1 z h4
    ·have : z = x := by simpa using h4
     subst this
     rw [Int.add_emod,hcx,← Int.add_emod]
     congr 1;omega)
   (fun z=>by
    rw [timesF_ev]
    have e1:evI [(0 - x+P) % P,1] z % P = ((x - z) * (-1)) % P:=by
     show ((0 - x+P) % P+z * (1+z * 0)) % P = _
     rw [Int.emod_add_emod]
     have:0 - x+P+z * (1+z * 0) = (x - z) * (-1)+P:=by
      rw [Int.mul_zero,Int.add_zero,Int.mul_one];omega
     rw [this,Int.add_emod,Int.emod_self,Int.add_zero,Int.emod_emod]
    rw [mul_mod_congr (h2 z) e1 (P:=P)]
    congr 1
    have e2:∀ (l:List Int),prodAt z (l++[x]) = prodAt z l * (x - z):=by
     intro l
     induction l with
     | nil=>simp [prodAt]
     | cons w l ih=>simp only [List.cons_append,prodAt,ih,Int.mul_assoc]
    rw [e2,List.length_append,List.length_singleton,Int.pow_succ]
    rw [Int.mul_assoc,Int.mul_assoc,Int.mul_left_comm (x - z)])
   (fun i hi hj=>h3 (i+1) (by simpa using hi) (by simpa using hj))
  rw [List.append_assoc] at step
  refine ⟨?_,?_,?_⟩
  ·show InF P (newtF P xs ys (plusF P out _ zero) _);rw [← hc];exact step.1
  ·show (newtF P xs ys (plusF P out _ zero) _).length≤_
   rw [← hc]
   have:=step.2.1
   simp only [List.length_append,List.length_singleton,List.length_cons,List.length_nil] at this ⊢
   omega
  ·show ∀ z∈done++x::xs,evI (newtF P xs ys (plusF P out _ zero) _) z % P = _
   rw [← hc];exact step.2.2
end Go.Dp
namespace Go.Dp
open Go.RowKit
set_option linter.unusedVariables false
def invF (P a:Int):Int:=a ^ (P - 2).toNat % P
def PrimeN (p:Nat):Prop:=2≤p∧∀ d,d ∣ p→d = 1∨d = p
theorem PrimeN.i {p:Nat} (h:PrimeN p):PrimeI (p:Int):=by
 refine ⟨by have:=h.1;omega,fun d h1 h2 h3=>?_⟩
 obtain ⟨e,rfl⟩:∃ e:Nat,d = e:=⟨d.toNat,by omega⟩
 have hdv:e ∣ p:=Int.natCast_dvd_natCast.1 (Int.dvd_of_emod_eq_zero h3)
 rcases h.2 e hdv with rfl | rfl
 ·omega
 ·have h4 : (2 : Int) * (e : Int) ≤ (e : Int) * e := Int.mul_le_mul_of_nonneg_right h1 (by omega)
  omega
theorem PrimeI.n {p:Nat} (h:PrimeI (p:Int)):PrimeN p:=by
 refine ⟨by have:=h.1;omega,fun d hd=>?_⟩
 have h0:0 < d:=Nat.pos_of_dvd_of_pos hd (by have:=h.1;omega)
 rcases h.dvd (Int.natCast_dvd_natCast.2 hd) (by omega) with e | e
 ·left;omega
 ·right;omega
theorem PrimeN.mul {p a b:Nat} (h:PrimeN p) (hd:p ∣ a * b):p ∣ a∨p ∣ b:=by
 have:(p:Int) ∣ (a:Int) * b:=by rw [← Int.natCast_mul];exact Int.natCast_dvd_natCast.2 hd
 rcases h.i.mul this with h1 | h1
 ·exact .inl (Int.natCast_dvd_natCast.1 h1)
 ·exact .inr (Int.natCast_dvd_natCast.1 h1)
theorem PrimeN.cop {p m:Nat} (h:PrimeN p) (hm:¬ p ∣ m):Nat.Coprime m p:=by
 have h1:Nat.gcd m p ∣ p:=Nat.gcd_dvd_right _ _
 rcases h.2 _ h1 with e | e
 ·exact e
 ·exact absurd (e ▸ Nat.gcd_dvd_left m p) hm
theorem split_prime {p:Nat} (h:PrimeN p):∀ n:Nat,0 < n→∃ e m,n = p ^ e * m∧¬ p ∣ m:=by
 intro n
 induction n using Nat.strongRecOn with
 | _ n ih =>
  intro hn
  by_cases hd:p ∣ n
  ·obtain ⟨k,rfl⟩:=hd
   have hk:0 < k:=Nat.pos_of_ne_zero fun e=>by rw [e] at hn;simp at hn
   have hp:=h.1
   have hlt:k < p * k:=by
    have:2 * k≤p * k:=Nat.mul_le_mul_right k hp
    omega
   obtain ⟨e,m,rfl,hm⟩:=ih k hlt hk
   exact ⟨e+1,m,by rw [Nat.pow_succ,Nat.mul_comm (p ^ e) p,Nat.mul_assoc],hm⟩
  ·exact ⟨0,n,by simp,hd⟩
theorem pow_cop {R u:Int} (hR:1 < R) {a b:Nat} (hab:Nat.Coprime a b) (ha:u ^ a % R = 1) (hb:u ^ b % R = 1):u % R = 1:=by
 have key:∀ (m n:Nat),u ^ m % R = 1→u ^ n % R = 1→u ^ (Nat.gcd m n) % R = 1:=by
  intro m n
  induction m,n using Nat.gcd.induction with
  | H0 n=>intro _ h;rw [Nat.gcd_zero_left];exact h
  | H1 m n hm ih =>
   intro h1 h2
   rw [Nat.gcd_rec]
   refine ih ?_ h1
   have e:n = m * (n / m)+n % m:=(Nat.div_add_mod n m).symm
   have h3:u ^ (m * (n / m)) % R = 1:=by
    rw [Int.pow_mul,← pow_emod,h1,Int.one_pow];exact Int.emod_eq_of_lt (by omega) hR
   rw [e,Int.pow_add,Int.mul_emod,h3,Int.one_mul,Int.emod_emod] at h2
   exact h2
 have:=key a b ha hb
 rw [hab] at this
 rwa [Int.pow_succ,Int.pow_zero,Int.one_mul] at this
theorem one_prime {P:Int} (h:PrimeI P) (hP:3≤P) {p:Nat} (hp:PrimeN p) (hd:p ∣ (P - 1).toNat) :
  ∃ (b:Int) (q m:Nat),(P - 1).toNat = q * m∧¬ p ∣ m∧(∀ r,PrimeN r→r ∣ q→r = p)∧¬ P ∣ b∧b ^ q % P = 1∧b ^ (q / p) % P≠1∧p ∣ q:=by
 have hN:0 < (P - 1).toNat:=by omega
 obtain ⟨k,hk⟩:=hd
 have hk0:0 < k:=Nat.pos_of_ne_zero fun e=>by rw [e] at hk;omega
 have hp2:=hp.1
 have hk1:(k:Int)+1 < P:=by
  have h1:2 * k≤p * k:=Nat.mul_le_mul_right k hp2
  omega
 obtain ⟨a,ha1,ha2,ha3⟩:=no_root h hk0 hk1
 obtain ⟨e,m,hem,hm⟩:=split_prime hp (P - 1).toNat hN
 have he:e≠0:=fun e0=>by
  subst e0
  rw [Nat.pow_zero,Nat.one_mul] at hem
  exact hm (hem ▸ ⟨k,hk⟩)
 have hnd:¬ P ∣ a:=not_dvd_small (by omega) ha2
 have hq:p ^ e / p = p ^ (e - 1):=by
  rw [show e = (e - 1)+1 by omega,Nat.pow_succ,Nat.add_sub_cancel];exact Nat.mul_div_cancel _ (by omega)
 refine ⟨a ^ m % P,p ^ e,m,hem,hm,fun r hr hrd=>?_,?_,?_,?_,?_⟩
 ·have:∀ n,r ∣ p ^ n→r = p:=by
   intro n
   induction n with
   | zero=>intro h1;rw [Nat.pow_zero] at h1;have:=Nat.dvd_one.1 h1;have:=hr.1;omega
   | succ n ih =>
    intro h1
    rw [Nat.pow_succ] at h1
    rcases hr.mul h1 with h2 | h2
    ·exact ih h2
    ·rcases hp.2 r h2 with h3 | h3
     ·have:=hr.1;omega
     ·exact h3
  exact this e hrd
 ·intro hd
  have h1:¬ P ∣ a ^ m:=by
   have:∀ n:Nat,¬ P ∣ a ^ n:=by
    intro n
    induction n with
    | zero=>simpa using not_dvd_small (by omega) h.1
    | succ n ih=>intro hd;rw [Int.pow_succ] at hd;rcases h.mul hd with h2 | h2;exact ih h2;exact hnd h2
   exact this m
  apply h1
  have h2:=Int.emod_eq_zero_of_dvd hd
  rw [Int.emod_emod] at h2
  exact Int.dvd_of_emod_eq_zero h2
 ·rw [pow_emod,← Int.pow_mul,Nat.mul_comm,← hem];exact fermat h hnd
 ·rw [hq,pow_emod,← Int.pow_mul]
  intro hc
  have e1:m * p ^ (e - 1) = k:=by
   have h1:p * (m * p ^ (e - 1)) = p * k:=by
    rw [← hk,hem,show e = (e - 1)+1 by omega,Nat.pow_succ,Nat.add_sub_cancel,Nat.mul_comm (p ^ (e - 1)) p,Nat.mul_assoc,Nat.mul_comm m]
   exact Nat.eq_of_mul_eq_mul_left (by omega) h1
  rw [e1] at hc
  exact ha3 hc
 ·exact ⟨p ^ (e - 1),by rw [show e = (e - 1)+1 by omega,Nat.pow_succ,Nat.add_sub_cancel,Nat.mul_comm]⟩
theorem some_primes {P:Int} (h:PrimeI P) (hP:3≤P):∀ ps:List Nat,ps.Nodup→(∀ p∈ps,PrimeN p∧p ∣ (P - 1).toNat) →
  ∃ g:Int,¬ P ∣ g∧(∀ p∈ps,g ^ ((P - 1).toNat / p) % P≠1)∧∀ r,PrimeN r→r ∣ (P - 1).toNat→r ∉ ps→g ^ ((P - 1).toNat / r) % P = 1
 | [],_,_=>⟨1,not_dvd_small (by omega) h.1,fun p hp=>(by cases hp),fun r _ _ _=>by rw [Int.one_pow];exact Int.emod_eq_of_lt (by omega) h.1⟩
 | p::ps,hn,hps=>by
  rw [List.nodup_cons] at hn
  obtain ⟨g,hg0,hg1,hg2⟩:=some_primes h hP ps hn.2 (fun q hq=>hps q (List.mem_cons_of_mem _ hq))
  obtain ⟨hp,hpd⟩:=hps p (by simp)
  obtain ⟨b,q,m,hqm,hm,hq,hb0,hb1,hb2,hpq⟩:=one_prime h hP hp hpd
  have hp0:0 < p:=by have:=hp.1;omega
  have hN:0 < (P - 1).toNat:=by omega
  have other:∀ r,PrimeN r→r ∣ (P - 1).toNat→r≠p→b ^ ((P - 1).toNat / r) % P = 1:=fun r hr hrd hrp=>by
   have hrm:r ∣ m:=by
    rcases hr.mul (hqm ▸ hrd) with h1 | h1
    ·exact absurd (hq r hr h1) hrp
    ·exact h1
   obtain ⟨k,rfl⟩:=hrm
   have:(P - 1).toNat / r = q * k:=by
    rw [hqm,show q * (r * k) = r * (q * k) by rw [Nat.mul_left_comm]];exact Nat.mul_div_cancel_left _ (by have:=hr.1;omega)
   rw [this,Int.pow_mul,← pow_emod,hb1,Int.one_pow];exact Int.emod_eq_of_lt (by omega) h.1
  refine ⟨b * g,fun hd=>(h.mul hd).elim hb0 hg0,fun r hr=>?_,fun r hr hrd hrn=>?_⟩
  ·rw [Int.mul_pow,Int.mul_emod]
   rcases List.mem_cons.1 hr with rfl | hr
   ·rw [hg2 r hp hpd hn.1,Int.mul_one,Int.emod_emod]
    obtain ⟨k,hk⟩:=hpq
    have e1:(P - 1).toNat / r = (q / r) * m:=by
     rw [hqm,hk,Nat.mul_div_cancel_left _ hp0,Nat.mul_assoc];exact Nat.mul_div_cancel_left _ hp0
    rw [e1,Int.pow_mul]
    intro hc
    have h1:(b ^ (q / r)) ^ r % P = 1:=by
     rw [← Int.pow_mul]
     have:q / r * r = q:=by rw [hk,Nat.mul_div_cancel_left _ hp0,Nat.mul_comm]
     rw [this];exact hb1
    exact hb2 (pow_cop (by omega) (hp.cop hm) hc h1)
   ·have hrp:r≠p:=fun e=>hn.1 (e ▸ hr)
    have h1:=hps r (List.mem_cons_of_mem _ hr)
    rw [other r h1.1 h1.2 hrp,Int.one_mul,Int.emod_emod]
    exact hg1 r hr
  ·have h1 : r ≠ p ∧ r ∉ ps := by simpa using hrn
   rw [Int.mul_pow,Int.mul_emod,other r hr hrd h1.1,hg2 r hr hrd h1.2]
   exact Int.emod_eq_of_lt (by omega) h.1
theorem prim_root {P:Int} (h:PrimeI P) (hP:3≤P) (ps:List Nat) (hn:ps.Nodup) (hps:∀ p∈ps,PrimeN p∧p ∣ (P - 1).toNat):∃ g:Nat,1≤g∧(g:Int) < P∧∀ p∈ps,(g:Int) ^ ((P - 1).toNat / p) % P≠1:=by
 obtain ⟨g,h0,h1,_⟩:=some_primes h hP ps hn hps
 have h2:0≤g % P:=Int.emod_nonneg _ (by omega)
 have h3:g % P < P:=Int.emod_lt_of_pos _ (by omega)
 have h4:g % P≠0:=fun e=>h0 (Int.dvd_of_emod_eq_zero e)
 refine ⟨(g % P).toNat,by omega,by omega,fun p hp=>?_⟩
 rw [Int.toNat_of_nonneg h2,pow_emod]
 exact h1 p hp
def stripN:Nat→Nat→Nat→Nat
 | 0,n,_=>n
 | f+1,n,p=>if n % p = 0 then stripN f (n / p) p else n
def primesF:Nat→Nat→Nat→List Nat
 | 0,_,n=>if 1 < n then [n] else []
 | f+1,p,n=>if p * p≤n then (if n % p = 0 then p::primesF f (p+1) (stripN n n p) else primesF f (p+1) n) else if 1 < n then [n] else []
theorem div_lt_self2 {n p:Nat} (hn:0 < n) (hp:2≤p):n / p < n:=Nat.div_lt_self hn (by omega)
theorem stripN_ok {p:Nat} (hp:2≤p):∀ (f n:Nat),n≤f→0 < n→∃ e,n = p ^ e * stripN f n p∧¬ p ∣ stripN f n p∧0 < stripN f n p
 | 0,n,h,h0=>by omega
 | f+1,n,h,h0=>by
  unfold stripN
  by_cases hd:n % p = 0
  ·rw [if_pos hd]
   have hdv:p ∣ n:=Nat.dvd_of_mod_eq_zero hd
   have h1:=div_lt_self2 h0 hp
   have h2:0 < n / p:=Nat.div_pos (Nat.le_of_dvd h0 hdv) (by omega)
   obtain ⟨e,a,b,c⟩:=stripN_ok hp f (n / p) (by omega) h2
   refine ⟨e+1,?_,b,c⟩
   have h3:n = p * (n / p):=(Nat.mul_div_cancel' hdv).symm
   rw [Nat.pow_succ,Nat.mul_comm (p ^ e) p,Nat.mul_assoc,← a];exact h3
  ·rw [if_neg hd]
   exact ⟨0,by simp,fun hdv=>hd (Nat.mod_eq_zero_of_dvd hdv),h0⟩
theorem prime_small {n p:Nat} (hn:1 < n) (hp:n < p * p) (h:∀ d,2≤d→d < p→¬ d ∣ n):PrimeN n:=by
 refine ⟨hn,fun d hd=>?_⟩
 obtain ⟨k,hk⟩:=hd
 by_cases h1:d = 1
 ·exact .inl h1
 by_cases h2:k = 1
 ·right;rw [hk,h2,Nat.mul_one]
 exfalso
 have hd0:d≠0:=fun e=>by rw [e] at hk;simp at hk;omega
 have hk0:k≠0:=fun e=>by rw [e] at hk;simp at hk;omega
 by_cases h3:d < p
 ·exact h d (by omega) h3 ⟨k,hk⟩
 ·have h4:k < p:=by
   refine Nat.lt_of_not_le fun h5=>?_
   have:p * p≤d * k:=Nat.mul_le_mul (by omega) h5
   omega
  exact h k (by omega) h4 ⟨d,by rw [hk,Nat.mul_comm]⟩
theorem primesF_ok:∀ (f p n:Nat),2≤p→0 < n→n+2≤f+p→(∀ d,2≤d→d < p→¬ d ∣ n) →
  (∀ q∈primesF f p n,PrimeN q∧q ∣ n∧p≤q)∧(primesF f p n).Nodup∧∀ r,PrimeN r→r ∣ n→r∈primesF f p n
 | 0,p,n,hp,hn,hf,hd=>by
  have h1:n = 1:=by
   refine Classical.byContradiction fun h=>?_
   exact hd n (by omega) (by omega) ⟨1,by simp⟩
  subst h1
  refine ⟨fun q hq=>by simp [primesF] at hq,by simp [primesF],fun r hr hrd=>?_⟩
  have:=Nat.dvd_one.1 hrd;have:=hr.1;omega
 | f+1,p,n,hp,hn,hf,hd=>by
  unfold primesF
  by_cases hs:p * p≤n
  ·rw [if_pos hs]
   by_cases hz:n % p = 0
   ·rw [if_pos hz]
    have hdv:p ∣ n:=Nat.dvd_of_mod_eq_zero hz
    have hpp:PrimeN p:=by
     refine ⟨hp,fun d hdp=>?_⟩
     have h1:0 < d:=Nat.pos_of_dvd_of_pos hdp (by omega)
     have h2:d≤p:=Nat.le_of_dvd (by omega) hdp
     by_cases h3:d = 1
     ·exact .inl h3
     ·right
      refine Classical.byContradiction fun h4=>?_
      exact hd d (by omega) (by omega) (Nat.dvd_trans hdp hdv)
    obtain ⟨e,a,b,c⟩:=stripN_ok hp n n (Nat.le_refl _) hn
    generalize stripN n n p = m at a b c ⊢
    have hm:m ∣ n:=⟨p ^ e,by rw [Nat.mul_comm];exact a⟩
    have hmn:m≤n:=Nat.le_of_dvd hn hm
    obtain ⟨i1, i2, i3⟩ := primesF_ok f (p + 1) m (by omega) c (by omega) (fun d h1 h2 h3 => by
     by_cases h4:d = p
     ·subst h4;exact b h3
     ·exact hd d h1 (by omega) (Nat.dvd_trans h3 hm))
    refine ⟨fun q hq=>?_,?_,fun r hr hrd=>?_⟩
    ·rcases List.mem_cons.1 hq with rfl | hq
     ·exact ⟨hpp,hdv,Nat.le_refl _⟩
     ·obtain ⟨j1,j2,j3⟩:=i1 q hq
      exact ⟨j1,Nat.dvd_trans j2 hm,by omega⟩
    ·rw [List.nodup_cons]
     exact ⟨fun h=>by have:=(i1 p h).2.2;omega,i2⟩
    ·rw [a] at hrd
     rcases hr.mul hrd with h1 | h1
     ·have:∀ k,r ∣ p ^ k→r = p:=by
       intro k
       induction k with
       | zero=>intro h;rw [Nat.pow_zero] at h;have:=Nat.dvd_one.1 h;have:=hr.1;omega
       | succ k ih =>
        intro h
        rw [Nat.pow_succ] at h
        rcases hr.mul h with h2 | h2
        ·exact ih h2
        ·rcases hpp.2 r h2 with h3 | h3
         ·have:=hr.1;omega
         ·exact h3
      rw [this e h1];exact List.mem_cons_self
     ·exact List.mem_cons_of_mem _ (i3 r hr h1)
   ·rw [if_neg hz]
    obtain ⟨i1, i2, i3⟩ := primesF_ok f (p + 1) n (by omega) hn (by omega) (fun d h1 h2 h3 => by
     by_cases h4:d = p
     ·subst h4;exact hz (Nat.mod_eq_zero_of_dvd h3)
     ·exact hd d h1 (by omega) h3)
    exact ⟨fun q hq=>by obtain ⟨j1,j2,j3⟩:=i1 q hq;exact ⟨j1,j2,by omega⟩,i2,i3⟩
  ·rw [if_neg hs]
   by_cases h1:1 < n
   ·rw [if_pos h1]
    have hpn:=prime_small h1 (by omega) hd
    refine ⟨fun q hq=>?_,by simp,fun r hr hrd=>?_⟩
    ·have : q = n := by simpa using hq
     subst this
     exact ⟨hpn,⟨1,by simp⟩,Nat.le_of_not_lt fun h=>hd q (by omega) h ⟨1,by simp⟩⟩
    ·rcases hpn.2 r hrd with h2 | h2
     ·have:=hr.1;omega
     ·rw [h2];simp
   ·rw [if_neg h1]
    have:n = 1:=by omega
    subst this
    refine ⟨fun q hq=>by simp at hq,by simp,fun r hr hrd=>?_⟩
    have:=Nat.dvd_one.1 hrd;have:=hr.1;omega
def primesL (n:Nat):List Nat:=primesF n 2 n
theorem primesL_ok {n:Nat} (hn:0 < n):(∀ q∈primesL n,PrimeN q∧q ∣ n∧2≤q)∧(primesL n).Nodup∧∀ r,PrimeN r→r ∣ n→r∈primesL n :=
 primesF_ok n 2 n (Nat.le_refl _) hn (Nat.le_refl _) (fun d h1 h2=>by omega)
theorem primesL_prime {n:Nat} (h:PrimeN n):primesL n = [n]:=by
 obtain ⟨h1,h2,h3⟩:=primesL_ok (n:=n) (by have:=h.1;omega)
 have h4:=h3 n h ⟨1,by simp⟩
 have h5:∀ q∈primesL n,q = n:=fun q hq=>by
  obtain ⟨a,b,_⟩:=h1 q hq
  rcases h.2 q b with c | c
  ·have:=a.1;omega
  ·exact c
 match e:primesL n with
 | []=>rw [e] at h4;cases h4
 | [a]=>rw [e] at h5;rw [h5 a (by simp)]
 | a::b::l =>
  rw [e] at h5 h2
  have e1:=h5 a (by simp)
  have e2:=h5 b (by simp)
  rw [List.nodup_cons] at h2
  exact absurd (by rw [e1,← e2];simp) h2.1
def lookI:List Int→List Int→Int→Int
 | x::X,s::S,z=>if z = x then s else lookI X S z
 | _,_,_=>0
theorem lookI_get:∀ {X S:List Int} {i:Nat} (hX:i < X.length) (hS:i < S.length),X.Nodup→lookI X S X[i] = S[i]
 | x::X,s::S,0,_,_,_=>by simp [lookI]
 | x::X,s::S,i+1,hX,hS,hn=>by
  have h1:=List.nodup_cons.1 hn
  have hX':i < X.length:=by simpa using hX
  have:X[i]≠x:=fun h=>h1.1 (h ▸ List.getElem_mem hX')
  show (if X[i] = x then s else lookI X S X[i]) = _
  rw [if_neg this]
  exact lookI_get hX' (by simpa using hS) h1.2
theorem newtF_all {P:Int} (h:PrimeI P) (hP:3≤P) {X S:List Int} (hl:X.length = S.length) (hX:InF P X) (hS:InF P S) (hn:X.Nodup) :
  InF P (newtF P X S [] [1])∧(newtF P X S [] [1]).length≤X.length∧∀ z∈X,evI (newtF P X S [] [1]) z % P = lookI X S z % P:=by
 have := newtF_ok h hP X S [] [1] [] (lookI X S) hl hX InF.nil (by simpa using hn) InF.nil (InF.cons (by omega) InF.nil) (by simp) (by simp) (by simp) (by simp [evI, prodAt]) (fun i hx hy => by
  rw [lookI_get hx hy hn]
  have:=hS S[i] (List.getElem_mem hy)
  exact (Int.emod_eq_of_lt this.1 this.2).symm)
 simpa using this
theorem pad_uniq {P:Int} (h:PrimeI P) {X A B:List Int} (hX:InF P X) (hn:X.Nodup) (hA:InF P A) (hB:InF P B) (lA:A.length≤X.length) (lB:B.length≤X.length) (he:∀ z∈X,evI A z % P = evI B z % P):A++List.replicate (X.length - A.length) 0 = B++List.replicate (X.length - B.length) 0:=by
 have hP0:0 < P:=by have:=h.1;omega
 have hpad:∀ {l:List Int},InF P l→∀ c∈l++List.replicate (X.length - l.length) 0,0≤c∧c < P:=fun hl c hc=>by
  rcases List.mem_append.1 hc with h1 | h1
  ·exact hl c h1
  ·exact InF.rep hP0 _ c h1
 refine poly_uniq h (as:=X) (by simp;omega) (by simp;omega) ?_ (fun a ha=>by rw [evI_pad,evI_pad];exact he a ha) (hpad hA) (hpad hB)
 refine (List.Pairwise.and_mem.1 hn).imp ?_
 rintro a b ⟨ha,hb,hne⟩ hd
 have h1:=emod_of_dvd_sub hd
 have h2:=hX a ha
 have h3:=hX b hb
 rw [Int.emod_eq_of_lt h2.1 h2.2,Int.emod_eq_of_lt h3.1 h3.2] at h1
 exact hne (by omega)
end Go.Dp
