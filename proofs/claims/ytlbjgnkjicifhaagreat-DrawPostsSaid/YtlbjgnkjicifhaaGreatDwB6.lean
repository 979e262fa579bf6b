import Derived.Test.YtlbjgnkjicifhaaGreatDwG1
import Derived.Test.YtlbjgnkjicifhaaGreatDpWk
import Derived.Test.YtlbjgnkjicifhaaGreatDsM9
import Derived.Test.YtlbjgnkjicifhaaGreatDsM12
namespace Go.Dp
open Go.RowKit Go.Proofs
attribute [local irreducible] wp wpOps wpOp1 CallW CallT kSeq kBlk kLoop kReg retP retR kAsg kRound kRf kCut kItr
set_option linter.unusedVariables false
set_option linter.unusedSimpArgs false
abbrev tM:TypeId:=213
abbrev modV (P:Int):V:=.ifc tM (.agg [.int .i64 P])
theorem mt1 : MethP Tryz.prog tM "dauber/field.product" 271 := fun v w => by kernel_rfl
theorem mt2 : MethP Tryz.prog tM "dauber/field.sum" 272 := fun v w => by kernel_rfl
theorem mt3 : MethP Tryz.prog tM "dauber/field.difference" 269 := fun v w => by kernel_rfl
theorem mt4 : MethP Tryz.prog tM "dauber/field.inverse" 270 := fun v w => by kernel_rfl
theorem k271 (P a b:Int) (hP:0 < P∧P < 2 ^ 31) (ha:0≤a∧a < P) (hb:0≤b∧b < P):PureC Tryz.prog 271 [.agg [.int .i64 P],.int .i64 a,.int .i64 b] (fun r=>r = .int .i64 (a * b % P)):=by
 have:=mul_small ha.1 hb.1 ha.2 hb.2 hP.2
 refine pureC_of_wp .x mixed ok271 rfl ?_
 unfold c271
 dsimp only [argE]
 refine W.run ?_
 rfl
theorem k272 (P a b:Int) (hP:0 < P∧P < 2 ^ 31) (ha:0≤a∧a < P) (hb:0≤b∧b < P):PureC Tryz.prog 272 [.agg [.int .i64 P],.int .i64 a,.int .i64 b] (fun r=>r = .int .i64 ((a+b) % P)):=by
 refine pureC_of_wp .x mixed ok272 rfl ?_
 unfold c272
 dsimp only [argE]
 refine W.run ?_
 rfl
theorem k269 (P a b:Int) (hP:0 < P∧P < 2 ^ 31) (ha:0≤a∧a < P) (hb:0≤b∧b < P):PureC Tryz.prog 269 [.agg [.int .i64 P],.int .i64 a,.int .i64 b] (fun r=>r = .int .i64 ((a - b+P) % P)):=by
 refine pureC_of_wp .x mixed ok269 rfl ?_
 unfold c269
 dsimp only [argE]
 refine W.run ?_
 rfl
set_option maxRecDepth 10000 in
theorem k182 (P a n:Int) (hP:1 < P∧P < 2 ^ 31) (ha:0≤a∧a < P) (hn:0≤n∧n < 2 ^ 63):PureC Tryz.prog 182 [modV P,.int .i64 a,.int .i64 n] (fun r=>r = .int .i64 (a ^ n.toNat % P)):=by
 have m1:=mt1
 refine pureC_of_wp .x mixed ok182 rfl ?_
 unfold c182
 dsimp only [argE]
 refine W.run ?_
 refine W.lp (fun x:Int × Int × Int=>[(0,modV P),(1,.int .i64 x.1),(2,.int .i64 x.2.1),(7,.int .i64 x.2.2)]) (fun _ _=>none)
  (fun x=>(0≤x.1∧x.1 < P)∧(0≤x.2.2∧x.2.2 < P)∧(0≤x.2.1∧x.2.1 < 2^63)∧(x.2.2 * x.1 ^ x.2.1.toNat) % P = a ^ n.toNat % P) (fun x=>x.2.1.toNat) (a,n,1) rfl (HS.refl _) ⟨ha,⟨by dsimp only;omega,by dsimp only;omega⟩,hn,by dsimp only;rw [Int.one_mul]⟩ ?_
 rintro ⟨b',e',r⟩ nx ⟨h1,h2,⟨h3,h3'⟩,h4⟩ hnx
 dsimp only at h1 h2 h3 h3' h4 ⊢
 have c1:=k271 P r b' (by omega) h2 h1
 have c2:=k271 P b' b' (by omega) h1 h1
 by_cases hz:0 < e'
 ·by_cases ho:e' % 2 = 1
  ·refine W.run ?_
   refine W.kl (b' * b' % P,e' / 2,r * b' % P) rfl (HS.refl _) (by omega) ⟨emod_rng (by omega),emod_rng (by omega),⟨by dsimp only;omega,by dsimp only;omega⟩,?_⟩ (by dsimp only;omega)
   dsimp only
   rw [sq_step _ _ _ _ hz ho];exact h4
  ·refine W.run ?_
   refine W.kl (b' * b' % P,e' / 2,r) rfl (HS.refl _) (by omega) ⟨emod_rng (by omega),h2,⟨by dsimp only;omega,by dsimp only;omega⟩,?_⟩ (by dsimp only;omega)
   dsimp only
   rw [sq_step0 _ _ _ _ hz ho];exact h4
 ·refine W.run ?_
  have:e' = 0:=by omega
  subst this
  simp only [Int.toNat_zero,Int.pow_zero,Int.mul_one] at h4
  rw [← h4,Int.emod_eq_of_lt h2.1 h2.2]
theorem k270 (P a:Int) (hP:2≤P∧P < 2 ^ 31) (ha:0≤a∧a < P):PureC Tryz.prog 270 [.agg [.int .i64 P],.int .i64 a] (fun r=>r = .int .i64 (invF P a)):=by
 have c1:=k182 P a (P - 2) (by omega) ha (by omega)
 refine pureC_of_wp .x mixed ok270 rfl ?_
 unfold c270 invF
 dsimp only [argE]
 refine W.run ?_
 rfl
def natV (l:List Nat):List V:=(l.map fun p:Nat=>(p:Int)).map (V.int .i64)
theorem stripN_step {f n p:Nat} (h:n % p = 0):stripN (f+1) n p = stripN f (n / p) p:=by rw [stripN,if_pos h]
theorem stripN_end {f n p:Nat} (h:¬ n % p = 0):stripN f n p = n:=by
 cases f with
 | zero=>rfl
 | succ f=>rw [stripN,if_neg h]
theorem primesF_a {f p n:Nat} (h:p * p≤n) (hz:n % p = 0):primesF (f+1) p n = p::primesF f (p+1) (stripN n n p):=by rw [primesF,if_pos h,if_pos hz]
theorem primesF_b {f p n:Nat} (h:p * p≤n) (hz:¬ n % p = 0):primesF (f+1) p n = primesF f (p+1) n:=by rw [primesF,if_pos h,if_neg hz]
theorem primesF_c {f p n:Nat} (h:¬ p * p≤n):primesF f p n = if 1 < n then [n] else []:=by
 cases f with
 | zero=>rfl
 | succ f=>rw [primesF,if_neg h]
theorem mapS_natV {n:Nat} {H:Hp} {l:List Nat}:mapS (frz n) (natV l) H = some (natV l,H):=mapS_atoms fun v hv=>by
 unfold natV at hv
 obtain ⟨a,_,rfl⟩:=List.mem_map.1 hv
 rfl
attribute [local go_sem] mapS_natV
theorem natV_snoc (l:List Nat) (p:Nat):natV (l++[p]) = natV l++[V.int .i64 (p:Int)]:=by simp [natV]
set_option maxRecDepth 10000 in
set_option maxHeartbeats 1000000 in
theorem k142 (n:Nat) (hn:0 < n∧n < 2 ^ 31):PureC Tryz.prog 142 [.int .i64 (n:Int)] (fun r=>r = .own (natV (primesL n)) (primesL n).length 1):=by
 refine pureC_of_wp (.s 1) mixed ok142 rfl ?_
 unfold c142
 dsimp only [argE]
 refine W.run ?_
 refine W.lp (fun z:Nat × Nat × List Nat=>[(0,.int .i64 (z.2.1:Int)),(3,.ref 8 z.2.2.length 0 z.2.2.length),(4,.int .i64 (z.1:Int))]) (fun z=>Hp.put (fun _=>none) 8 { cells:=natV z.2.2,sz:=1,ver:=z.2.2.length,nl:=if z.2.2.length = 0 then 1 else 0 })
  (fun z=>(2≤z.1∧z.1≤65536)∧(0 < z.2.1∧z.2.1≤n)∧z.2.2.length < z.1∧∃ f,n+2≤f+z.1∧primesL n = z.2.2++primesF f z.1 z.2.1) (fun z=>n+65540 - z.1) (2,n,[]) rfl (HS.refl _) ⟨by dsimp only;omega,by dsimp only;omega,by simp,n,by dsimp only;omega,rfl⟩ ?_
 rintro ⟨p,m,l⟩ nx ⟨hp,hm,hl,f,hf,hpr⟩ hnx
 dsimp only at hp hm hl hf hpr ⊢
 have hpp:((p * p:Nat):Int) = (p:Int) * p:=Int.natCast_mul _ _
 have hmp:((m % p:Nat):Int) = (m:Int) % p:=Int.natCast_emod _ _
 have hlen:(natV l).length = l.length:=by simp [natV]
 have hpb:0≤(p:Int) * p∧(p:Int) * p≤65536 * 65536:=by
  have:p * p≤65536 * 65536:=Nat.mul_le_mul hp.2 hp.2
  omega
 by_cases hs:p * p≤m
 ·have hp3:p < 65536:=by
   refine Nat.lt_of_not_le fun h=>?_
   have:65536 * 65536≤p * p:=Nat.mul_le_mul h h
   omega
  obtain ⟨f,rfl⟩:∃ g,f = g+1:=⟨f - 1,by
   have:p * 1≤p * p:=Nat.mul_le_mul_left p (by omega)
   omega⟩
  by_cases hz:m % p = 0
  ·rw [primesF_a hs hz] at hpr
   refine W.run ?_
   refine W.lp (fun z:Nat × Nat=>[(0,.int .i64 (z.2:Int)),(3,.ref 8 (l.length+1) 0 (l.length+1)),(4,.int .i64 (p:Int))]) (fun z=>Hp.put (fun _=>none) 8 { cells:=natV (l++[p]),sz:=1,ver:=l.length+1 })
    (fun z=>z.2≤z.1∧0 < z.2∧z.2≤n∧stripN m m p = stripN z.1 z.2 p) (fun z=>z.1) (m,m) rfl ?_ ⟨by dsimp only;omega,by dsimp only;omega,by dsimp only;omega,rfl⟩ ?_
   ·refine HS.skip (HS.put ?_ (HS.emp _)) (by simp only [Hp.put]; repeat (rw [if_neg (by omega)])) _
    rw [natV_snoc]
   rintro ⟨g,k⟩ n2 ⟨hk1,hk2,hk3,hst⟩ hn2
   dsimp only at hk1 hk2 hk3 hst ⊢
   have hkp:((k % p:Nat):Int) = (k:Int) % p:=Int.natCast_emod _ _
   by_cases hkz:k % p = 0
   ·obtain ⟨g, rfl⟩ : ∃ j, g = j + 1 := ⟨g - 1, by omega⟩
    rw [stripN_step hkz] at hst
    have h1:=div_lt_self2 hk2 hp.1
    have h2:0 < k / p:=Nat.div_pos (Nat.le_of_dvd hk2 (Nat.dvd_of_mod_eq_zero hkz)) (by omega)
    refine W.run ?_
    exact W.kl (g,k / p) (by rw [← Int.natCast_ediv];rfl) (HS.refl _) (by omega) ⟨by dsimp only;omega,h2,by dsimp only;omega,hst⟩ (by dsimp only;omega)
   ·rw [stripN_end hkz] at hst
    refine W.run ?_
    refine W.kl (p+1,k,l++[p]) (by dsimp only;rw [List.length_append,List.length_singleton];rfl) ?_ (by omega) ⟨by dsimp only;omega,by dsimp only;omega,by simp;omega,f,by dsimp only;omega,?_⟩ (by dsimp only;omega)
    ·refine HS.put ?_ (HS.refl _)
     dsimp only;rw [List.length_append,List.length_singleton,if_neg (by omega)]
    ·dsimp only;rw [hpr,hst,List.append_assoc];rfl
  ·rw [primesF_b hs hz] at hpr
   refine W.run ?_
   exact W.kl (p+1,m,l) rfl (HS.refl _) (by omega) ⟨by dsimp only;omega,hm,by dsimp only;omega,f,by dsimp only;omega,hpr⟩ (by dsimp only;omega)
 ·rw [primesF_c hs] at hpr
  by_cases h1:1 < m
  ·rw [if_pos h1] at hpr
   have e1:(primesL n).length = l.length+1:=by rw [hpr];simp
   have e2:(natV (l++[m])).length = l.length+1:=by simp [natV]
   rw [e1,hpr]
   refine W.run ?_
   rw [← natV_snoc]
   refine W.run ?_
   rfl
  ·rw [if_neg h1,List.append_nil] at hpr
   rw [hpr]
   refine W.run ?_
   rfl
end Go.Dp
namespace Go.Dp
open Go.RowKit Go.Proofs
attribute [local irreducible] wp wpOps wpOp1 CallW CallT kSeq kBlk kLoop kReg retP retR kAsg kRound kRf kCut kItr
set_option linter.unusedVariables false
set_option linter.unusedSimpArgs false
set_option maxRecDepth 10000 in
theorem k205 {α:Type} (e:α→V) (A:List α) (len:Nat) (hl:len = A.length) (hlen:A.length < 2 ^ 40) (g:FuncId) (caps:List V) (q:α→Bool) (ha:∀ a,(e a).atom = true) (hc:∀ v∈caps,v.atom = true) (hg:∀ a∈A,PureC Tryz.prog g (e a::caps) (fun r=>r = .bool (q a))) :
  PureC Tryz.prog 205 [.sl (A.map e) len,.clo (.func g) [] caps] (fun r=>r = .int .i64 (idxI q A 0)):=by
 subst hl
 refine pureC_of_wp .x mixed ok205 rfl ?_
 unfold c205
 dsimp only [argE]
 refine W.go ?_
 refine W.lp (fun i:Nat=>[(0,.sl (A.map e) A.length),(1,.clo (.func g) [] caps),(7,.int .i64 (A.length:Int)),(8,.int .i64 (i:Int))]) (fun _ _=>none)
  (fun i=>i≤A.length∧idxI q A 0 = idxI q (A.drop i) i) (fun i=>A.length - i) 0 rfl (HS.refl _) ⟨by omega,rfl⟩ ?_
 rintro i nx ⟨h1,h2⟩ hnx
 by_cases hi:i < A.length
 ·refine W.go ?_
  have ha':=ha A[i]
  refine W.cl (hg A[i] (List.getElem_mem hi)) ?_
  rw [idxI_drop hi] at h2
  cases hq:q A[i]
  ·rw [hq] at h2
   refine W.go ?_
   refine W.kl (i+1) rfl (HS.refl _) (by omega) ⟨by omega,?_⟩ (by omega)
   simpa using h2
  ·rw [hq] at h2
   refine W.go ?_
   rw [h2];rfl
 ·have : i = A.length := by omega
  subst this
  refine W.go ?_
  rw [h2,List.drop_length];rfl
set_option maxRecDepth 10000 in
theorem k180 {α:Type} (e:α→V) (A:List α) (len:Nat) (hl:len = A.length) (hlen:A.length < 2 ^ 40) (g:FuncId) (caps:List V) (q:α→Bool) (ha:∀ a,(e a).atom = true) (hc:∀ v∈caps,v.atom = true) (hg:∀ a∈A,PureC Tryz.prog g (e a::caps) (fun r=>r = .bool (q a))) :
  PureC Tryz.prog 180 [.sl (A.map e) len,.clo (.func g) [] caps] (fun r=>r = .bool (A.any q)):=by
 refine pureC_of_wp .x mixed ok180 rfl ?_
 unfold c180
 dsimp only [argE]
 refine W.go ?_
 refine W.cl (k205 e A len hl hlen g caps q ha hc hg) ?_
 have h:=idxI_any (q:=q) A 0
 cases hq:A.any q
 ·have : ¬ 0 ≤ idxI q A 0 := fun h' => by rw [h.1.1 h'] at hq; cases hq
  refine W.go ?_
  rfl
 ·have:0≤idxI q A 0:=h.1.2 hq
  refine W.go ?_
  rfl
def fldC (P g:Int) (m:V):List V:=[modV P,.int .i64 P,.int .i64 P,.int .i64 1,m,.int .i64 g]
abbrev mdV:V:=.sl [.int .i64 0,.int .i64 1] 2
abbrev fieldV (P g:Int):V:=.fp (fldC P g mdV) 0
theorem k181 (P p g g0:Int) (hP:3≤P∧P < 2 ^ 31) (hg:0≤g∧g < P) (hp:2≤p∧p < P):PureC Tryz.prog 181 [.int .i64 p,.fp [modV P] 0,.fp [.int .i64 g] 0,.fp [.fp (fldC P g0 mdV) 0] 0] (fun r=>r = .bool (decide (g ^ ((P - 1) / p).toNat % P = 1))):=by
 have h1:0≤(P - 1) / p:=Int.ediv_nonneg (by omega) (by omega)
 have h2:(P - 1) / p≤P - 1:=Int.ediv_le_self _ (by omega)
 have c1:=k182 P g ((P - 1) / p) (by omega) hg (by omega)
 refine pureC_of_wp .x mixed ok181 rfl ?_
 unfold c181 fldC
 dsimp only [argE]
 refine W.run ?_
 rfl
def hpF (n:Nat) (o mx om:Nat):Hp:=((Hp.put (fun _=>none) o { cells:=[modV n,.int .i64 (n:Int),.int .i64 (n:Int),.int .i64 1,.ref om 0 0 2,.int .i64 0],sz:=6 }).put mx { cells:=[.int .i64 (n:Int)],sz:=1 }).put om { cells:=[.int .i64 0,.int .i64 1],sz:=1 }
set_option maxRecDepth 10000 in
set_option maxHeartbeats 1000000 in
theorem k143 (n:Nat) (hP:3≤n∧n≤65521) (pP:PrimeI n):∃ g:Int,(1≤g∧g < n)∧∀ (o mx om top:Nat) (ho:o < mx∧mx < om∧om < top) (Y:Ys),RefC Tryz.prog Y 143 [.ptr o 0 0,modV n] (hpF n o mx om) top (fun r H' t=>r = .int .i64 g∧H' = hpF n o mx om):=by
 obtain ⟨ps1,ps2,ps3⟩:=primesL_ok (n:=n - 1) (by omega)
 have hto:((n:Int) - 1).toNat = n - 1:=by omega
 have hex:∃ g:Nat,1≤g∧(g:Int) < n∧∀ p∈primesL (n - 1),(g:Int) ^ ((n - 1) / p) % n≠1:=by
  have:=prim_root pP (by omega) (primesL (n - 1)) ps2 (fun p hp=>by rw [hto];exact ⟨(ps1 p hp).1,(ps1 p hp).2.1⟩)
  rwa [hto] at this
 obtain ⟨g0,⟨hg1,hg2,hg3⟩,hmin⟩:=exists_min (fun g:Nat=>g) hex
 refine ⟨(g0:Int),⟨by omega,hg2⟩,fun o mx om top ho Y=>?_⟩
 have c1:=k142 (n - 1) (by omega)
 rw [show ((n - 1:Nat):Int) = (n:Int) - 1 by omega] at c1
 obtain ⟨ps,hps⟩:∃ ps,ps = primesL (n - 1):=⟨_,rfl⟩
 rw [← hps] at c1 ps1 hg3
 have hlt:ps.length < 2 ^ 40:=by
  have hsub:∀ p∈ps,p < n:=fun p hp=>by
   have:=Nat.le_of_dvd (by omega) (ps1 p hp).2.1;omega
  have hnd:ps.Nodup:=hps ▸ ps2
  have:ps.length≤n:=by
   refine Nat.le_of_not_lt fun hc=>?_
   have hp:=perm_of_sub (M:=ps.map fun p:Nat=>(p:Int)) (L:=(List.range n).map fun p:Nat=>(p:Int)) (by
    rw [List.Nodup,List.pairwise_map]
    exact hnd.imp fun h e=>h (by omega)) (fun x hx=>by
    obtain ⟨p,hp,rfl⟩:=List.mem_map.1 hx
    exact List.mem_map.2 ⟨p,List.mem_range.2 (hsub p hp),rfl⟩) (by simp;omega)
   have:=hp.length_eq
   simp at this;omega
  omega
 have hg103:∀ g:Nat,(g:Int) < n→PureC Tryz.prog 180 [.sl (natV ps) ps.length,.clo (.func 181) [] [.fp [modV n] 0,.fp [.int .i64 (g:Int)] 0,.fp [.fp (fldC n 0 mdV) 0] 0]] (fun r=>r = .bool ((ps.map fun p:Nat=>(p:Int)).any fun p=>decide ((g:Int) ^ (((n:Int) - 1) / p).toNat % n = 1))):=fun g hg =>
  k180 (V.int .i64) (ps.map fun p : Nat => (p : Int)) ps.length (by simp) (by simpa using hlt) 181 [.fp [modV n] 0, .fp [.int .i64 (g : Int)] 0, .fp [.fp (fldC n 0 mdV) 0] 0] (fun p => decide ((g : Int) ^ (((n : Int) - 1) / p).toNat % n = 1)) (fun _ => rfl) (by simp [V.atom]) (fun p hp => by
   obtain ⟨q,hq,rfl⟩:=List.mem_map.1 hp
   have h1:=ps1 q hq
   have h2:=Nat.le_of_dvd (by omega) h1.2.1
   exact k181 n q g 0 (by omega) (by omega) (by omega))
 have hval:∀ g:Nat,((ps.map fun p:Nat=>(p:Int)).any fun p=>decide ((g:Int) ^ (((n:Int) - 1) / p).toNat % n = 1)) = decide (¬ ∀ p∈ps,(g:Int) ^ ((n - 1) / p) % n≠1):=fun g=>by
  rw [Bool.eq_iff_iff,List.any_eq_true,decide_eq_true_eq]
  have e:∀ q:Nat,(((n:Int) - 1) / (q:Int)).toNat = (n - 1) / q:=fun q=>by
   rw [show (n:Int) - 1 = ((n - 1:Nat):Int) by omega,← Int.natCast_ediv,Int.toNat_natCast]
  constructor
  ·rintro ⟨p,hp,hd⟩ hall
   obtain ⟨q,hq,rfl⟩:=List.mem_map.1 hp
   rw [decide_eq_true_eq,e] at hd
   exact hall q hq hd
  ·intro hn
   refine Classical.byContradiction fun hc=>hn fun p hp hd=>hc ⟨(p:Int),List.mem_map.2 ⟨p,hp,rfl⟩,?_⟩
   rw [decide_eq_true_eq,e];exact hd
 refine refC_of_wp (c:=c143) mixed ok143 rfl ?_
 unfold c143 hpF
 dsimp only [argE]
 refine W.run ?_
 refine W.lp (fun z:Nat × Nat=>[(2,.ptr top 0 0),(3,.ptr (top+8) 0 0),(5,.sl (natV ps) ps.length),(6,.ptr z.2 0 0)]) (fun z=>((((((Hp.put (fun _=>none) o { cells:=[modV n,.int .i64 (n:Int),.int .i64 (n:Int),.int .i64 1,.ref om 0 0 2,.int .i64 0],sz:=6 }).put mx { cells:=[.int .i64 (n:Int)],sz:=1 }).put om { cells:=[.int .i64 0,.int .i64 1],sz:=1 }).put top { cells:=[.ptr o 0 0],sz:=1 }).put (top+8) { cells:=[modV n],sz:=1 }).put z.2 { cells:=[.int .i64 (z.1:Int)],sz:=1 }))
  (fun z=>(1≤z.1∧z.1≤g0)∧top+8 < z.2) (fun z=>g0 - z.1) (1,top+80) rfl (HS.refl _) ⟨by dsimp only;omega,by dsimp only;omega⟩ ?_
 rintro ⟨g,og⟩ nx ⟨hg,hog⟩ hnx
 dsimp only at hg hog ⊢
 have c2:=hg103 g (by omega)
 rw [hval g] at c2
 by_cases hgg:g = g0
 ·subst hgg
  rw [decide_eq_false (by intro h;exact h hg3)] at c2
  clear hg103 hval hmin hex
  unfold fldC at c2
  refine W.run ?_
  exact W.retR rfl (HS.skip (HS.skip (HS.skip (HS.refl _) (by simp only [Hp.put];repeat (rw [if_neg (by omega)])) _) (by simp only [Hp.put];repeat (rw [if_neg (by omega)])) _) (by simp only [Hp.put];repeat (rw [if_neg (by omega)])) _) ⟨rfl,rfl⟩
 ·have hbad:¬ ∀ p∈ps,(g:Int) ^ ((n - 1) / p) % n≠1:=fun hall=>by
   have:=hmin g ⟨hg.1,by omega,by rw [← hps];exact hall⟩
   omega
  rw [decide_eq_true hbad] at c2
  clear hg103 hval hmin hex hbad hg3
  unfold fldC at c2
  refine W.run ?_
  exact W.kl (g+1,nx+40) rfl (HS.put rfl (HS.skip (HS.refl _) (by simp only [Hp.put];repeat (rw [if_neg (by omega)])) _)) (by omega) ⟨by dsimp only;omega,by dsimp only;omega⟩ (by dsimp only;omega)
set_option maxRecDepth 10000 in
set_option maxHeartbeats 1000000 in
theorem k97 (P:Int) (hP:3≤P∧P≤65521) (pP:PrimeI P):∃ g:Int,(1≤g∧g < P)∧PureC Tryz.prog 97 [.int .i64 P] (fun r=>r = .tup [fieldV P g,.int .i64 0]):=by
 obtain ⟨n,rfl⟩:∃ n:Nat,P = (n:Int):=⟨P.toNat,by omega⟩
 have c1:=k142 n (by omega)
 rw [primesL_prime pP.n] at c1
 simp only [natV,List.map_cons,List.map_nil,List.length_cons,List.length_nil] at c1
 obtain ⟨g,hg,hfirst⟩:=k143 n (by omega) pP
 refine ⟨g,hg,?_⟩
 refine pureC_of_wp (.l [.x,.x]) mixed ok97 rfl ?_
 unfold c97
 dsimp only [argE]
 refine W.run ?_
 refine W.lp (fun i:Nat × Int=>[(0,.int .i64 (n:Int)),(5,.ptr 152 0 0),(6,.int .i64 i.2)]) (fun i=>Hp.put (fun _=>none) 152 { cells:=[.nili,.int .i64 (n:Int),.int .i64 (n:Int),.int .i64 (i.1:Int),.nils,.int .i64 0],sz:=6 })
  (fun i=>i = (0,(n:Int))∨i = (1,1)) (fun i=>1 - i.1) (0,(n:Int)) rfl (HS.refl _) (.inl rfl) ?_
 rintro ⟨d,k⟩ nx hdk hnx
 rcases hdk with h | h
 ·simp only [Prod.mk.injEq] at h
  obtain ⟨rfl,rfl⟩:=h
  have e1:(n:Int) / n = 1:=Int.ediv_self (by omega)
  refine W.run ?_
  exact W.kl (1,(n:Int) / n) rfl (HS.refl _) (by omega) (.inr (by rw [e1])) (by dsimp only;omega)
 ·simp only [Prod.mk.injEq] at h
  obtain ⟨rfl,rfl⟩:=h
  rw [show ((1:Nat):Int) = 1 from rfl]
  refine W.run ?_
  refine W.refR (hfirst 152 (nx+56) (nx+144) _ (by omega) _) ⟨_,_,_,⟨rfl,rfl⟩,Nat.le_refl _,fun _ _ h=>h⟩ ?_
  rintro r H' t ⟨rfl,rfl⟩ ht _
  unfold hpF
  refine W.run ?_
  rfl
theorem zeros_map (n:Nat):zerosV [V.int .i64 0] n = (List.replicate n (0:Int)).map (V.int .i64):=by
 induction n with
 | zero=>rfl
 | succ n ih=>rw [zerosV,ih];rfl
abbrev slI (A:List Int):V:=.sl (A.map (V.int .i64)) A.length
set_option maxRecDepth 10000 in
theorem k208 (A:List Int) (hA:A.length < 2 ^ 40):PureC Tryz.prog 208 [slI A] (fun r=>r = slI (trimI A)):=by
 refine pureC_of_wp .x mixed ok208 rfl ?_
 unfold c208
 dsimp only [argE]
 refine W.run ?_
 refine W.lp (fun n:Nat=>[(0,slI A),(3,.int .i64 (n:Int))]) (fun _ _=>none)
  (fun n=>n≤A.length∧∀ i,n≤i→(h:i < A.length)→A[i] = 0) (fun n=>n) A.length rfl (HS.refl _) ⟨by omega,fun i h1 h2=>by omega⟩ ?_
 rintro n nx ⟨hn,hz⟩ hnx
 have fin:(0 < n→(h:n - 1 < A.length)→A[n - 1]≠0)→trimI A = A.take n∧(trimI A).length = n:=fun h1=>by
  have:=trimI_take hn hz h1
  exact ⟨this,by rw [this];simp;omega⟩
 by_cases h0:0 < n
 ·have hidx : ((n : Int) - 1).toNat = n - 1 := by omega
  have hl:((n:Int) - 1).toNat < A.length:=by omega
  by_cases he:A[((n:Int) - 1).toNat] = 0
  ·refine W.run ?_
   refine W.kl (n - 1) (by rw [show ((n:Int) - 1) = ((n - 1:Nat):Int) by omega];rfl) (HS.refl _) (by omega) ⟨by omega,fun i h1 h2=>?_⟩ (by omega)
   by_cases hi:i = n - 1
   ·subst hi
    simp only [hidx] at he;exact he
   ·exact hz i (by omega) h2
  ·obtain ⟨f1, f2⟩ := fin (fun _ _ => by simp only [hidx] at he; exact he)
   refine W.run ?_
   show _ = V.sl ((trimI A).map (V.int .i64)) (trimI A).length
   rw [f2,f1]
 ·obtain ⟨f1,f2⟩:=fin (fun h=>absurd h h0)
  have:n = 0:=by omega
  subst this
  refine W.run ?_
  show _ = V.sl ((trimI A).map (V.int .i64)) (trimI A).length
  rw [f2,f1];rfl
set_option maxRecDepth 10000 in
theorem k204 (P x : Int) (hP : 3 ≤ P ∧ P < 2 ^ 31) (A : List Int) (hA : A.length < 2 ^ 40) (hr : InF P A) (hx : 0 ≤ x ∧ x < P) (pv : V) (hpv : pv = slI A ∨ (pv = .nils ∧ A = [])) : PureC Tryz.prog 204 [pv, .int .i64 x, .int .i64 0, .clo (.method "dauber/field.sum") [modV P] [], .clo (.method "dauber/field.product") [modV P] []] (fun r => r = .int .i64 (valM P x A)) := by
 have m1:=mt1
 have m2:=mt2
 rcases hpv with rfl | ⟨rfl,rfl⟩
 ·refine pureC_of_wp .x mixed ok204 rfl ?_
  unfold c204
  dsimp only [argE]
  refine W.run ?_
  refine W.lp (fun y : Int × Int => [(0, slI A), (1, .int .i64 x), (3, .clo (.method "dauber/field.sum") [modV P] []), (4, .clo (.method "dauber/field.product") [modV P] []), (11, .int .i64 y.2), (12, .int .i64 y.1)]) (fun _ _ => none)
   (fun y=>(-1≤y.1∧y.1 < A.length)∧(0≤y.2∧y.2 < P)∧y.2 = valM P x (A.drop (y.1+1).toNat)) (fun y=>(y.1+1).toNat) ((A.length:Int) - 1,0) rfl (HS.refl _) ?_ ?_
  ·refine ⟨by dsimp only; omega, by dsimp only; omega, ?_⟩
   dsimp only
   rw [show ((A.length:Int) - 1+1).toNat = A.length by omega,List.drop_length];rfl
  rintro ⟨i,out⟩ nx ⟨⟨h1,h2⟩,h3,h4⟩ hnx
  dsimp only at h1 h2 h3 h4 ⊢
  by_cases hi:0≤i
  ·have hlt : i.toNat < A.length := by omega
   have ha:=hr A[i.toNat] (List.getElem_mem hlt)
   have c1:=k271 P out x (by omega) h3 hx
   have c2:=k272 P (out * x % P) A[i.toNat] (by omega) (emod_rng (by omega)) ha
   refine W.run ?_
   refine W.kl (i - 1,_) rfl (HS.refl _) (by omega) ⟨by dsimp only;omega,emod_rng (by omega),?_⟩ (by dsimp only;omega)
   dsimp only
   rw [show (i - 1+1).toNat = i.toNat by omega,List.drop_eq_getElem_cons hlt,h4,show (i+1).toNat = i.toNat+1 by omega]
   show _ = (valM P x (A.drop (i.toNat+1)) * (x % P) % P+A[i.toNat]) % P
   rw [Int.emod_eq_of_lt hx.1 hx.2]
  ·rw [show (i + 1).toNat = 0 by omega] at h4
   refine W.run ?_
   rw [h4];rfl
 ·refine pureC_of_wp .x mixed ok204 rfl ?_
  unfold c204
  dsimp only [argE]
  refine W.run ?_
  refine W.lp (fun _ : Unit => [(0, .nils), (1, .int .i64 x), (3, .clo (.method "dauber/field.sum") [modV P] []), (4, .clo (.method "dauber/field.product") [modV P] []), (11, .int .i64 0), (12, .int .i64 (-1))]) (fun _ _ => none) (fun _ => True) (fun _ => 0) () rfl (HS.refl _) trivial ?_
  rintro _ nx _ hnx
  refine W.run ?_
  rfl
theorem k178 (P x g:Int) (hP:3≤P∧P < 2 ^ 31) (A:List Int) (hA:A.length < 2 ^ 40) (hr:InF P A) (hx:0≤x∧x < P) (pv:V) (hpv:pv = slI A∨(pv = .nils∧A = [])):PureC Tryz.prog 178 [fieldV P g,pv,.int .i64 x] (fun r=>r = .int .i64 (valM P x A)):=by
 have c1:=k204 P x hP A hA hr hx pv hpv
 have hat:pv.atom = true:=by rcases hpv with rfl | ⟨rfl,_⟩ <;> rfl
 refine pureC_of_wp .x mixed ok178 rfl ?_
 unfold c178
 dsimp only [argE,fieldV,fldC]
 refine W.run ?_
 rfl
set_option maxRecDepth 10000 in
set_option maxHeartbeats 1000000 in
theorem k190 (P c g:Int) (hP:3≤P∧P < 2 ^ 31) (A B:List Int) (hA:A.length < 2 ^ 30) (hB:B.length < 2 ^ 30) (hrA:InF P A) (hrB:InF P B) (hc:0≤c∧c < P) (pv:V) (hpv:pv = slI A∨(pv = .nils∧A = [])):PureC Tryz.prog 190 [fieldV P g,pv,.int .i64 c,slI B] (fun r=>r = slI (plusF P A c B)):=by
 have m1:=mt1
 have m2:=mt2
 obtain ⟨n,hn,hn1,hn2,hn3⟩:∃ n:Nat,(if (A.length:Int) < (B.length:Int) then (B.length:Int) else (A.length:Int)) = (n:Int)∧n = max A.length B.length∧A.length≤n∧B.length≤n:=⟨max A.length B.length,by omega,rfl,by omega,by omega⟩
 refine pureC_of_wp .x mixed ok190 rfl ?_
 unfold c190
 dsimp only [argE,fieldV,fldC]
 have hn':(if (B.length:Int) > (A.length:Int) then (B.length:Int) else (A.length:Int)).toNat = n:=by omega
 obtain ⟨pad,hpad⟩:∃ pad,pad = A++List.replicate (n - A.length) 0:=⟨_,rfl⟩
 have hpl:pad.length = n:=by rw [hpad];simp;omega
 have hpr:InF P pad:=fun a ha=>by
  rw [hpad] at ha
  rcases List.mem_append.1 ha with h1 | h1
  ·exact hrA a h1
  ·exact InF.rep (by omega) _ a h1
 have hres:plusF P A c B = trimI (addF P c pad B):=by unfold plusF;rw [← hn1,← hpad]
 rw [hres]
 have hst:∀ i,i≤B.length→(addF P c pad (B.take i)).length = n∧InF P (addF P c pad (B.take i)):=fun i hi=>⟨by rw [addF_len,hpl];simp;omega,addF_in (by omega) hpr⟩
 rcases hpv with rfl | ⟨rfl,hA0⟩
 case' inl =>
  refine W.run ?_
  rw [hn',zeros_map]
  refine W.run ?_
  have e1:List.map (V.int .i64) A++List.map (V.int .i64) (List.drop (min A.length n) (List.replicate n 0)) = pad.map (V.int .i64):=by
   rw [← List.map_append,hpad,List.drop_replicate,show min A.length n = A.length by omega]
  rw [e1]
 case' inr =>
  have hn'':(if (B.length:Int) > ((0:Nat):Int) then (B.length:Int) else ((0:Nat):Int)).toNat = n:=by subst hA0;exact hn'
  refine W.run ?_
  rw [hn'',zeros_map]
  refine W.run ?_
  have e1:List.map (V.int .i64) (List.drop (min 0 n) (List.replicate n 0)) = pad.map (V.int .i64):=by
   rw [hpad,hA0,List.drop_replicate];simp
  rw [e1]
 all_goals
  refine W.lp (fun i:Nat=>[(0,fieldV P g),(2,.int .i64 c),(9,.ref 48 0 0 n),(21,slI B),(22,.int .i64 (B.length:Int)),(23,.int .i64 (i:Int))]) (fun i=>Hp.put (fun _=>none) 48 { cells:=(addF P c pad (B.take i)).map (V.int .i64),sz:=1 })
   (fun i=>i≤B.length) (fun i=>B.length - i) 0 rfl (HS.put (by cases pad <;> rfl) (HS.refl _)) (by omega) ?_
  rintro i nx hi hnx
  obtain ⟨l1,r1⟩:=hst i hi
  dsimp only [fieldV,fldC]
  by_cases hlt:i < B.length
  ·have hb:=hrB B[i] (List.getElem_mem hlt)
   have hs:=addF_step (P:=P) (c:=c) (p:=pad) hlt (by omega)
   obtain ⟨C,hC⟩:∃ C,addF P c pad (B.take i) = C:=⟨_,rfl⟩
   rw [hC] at l1 r1 hs ⊢
   rw [List.getD_eq_getElem?_getD,List.getElem?_eq_getElem (by omega),Option.getD_some] at hs
   have hCi:=r1 (C[i]'(by omega)) (List.getElem_mem _)
   have c1:=k271 P c B[i] (by omega) hc hb
   have c2:=k272 P (C[i]'(by omega)) (c * B[i] % P) (by omega) hCi (emod_rng (by omega))
   refine W.run ?_
   refine W.kl (i+1) rfl (HS.put ?_ (HS.refl _)) (by omega) (by omega) (by omega)
   rw [hs,List.set_eq_take_append_cons_drop,if_pos (by omega)];simp
  ·have : i = B.length := by omega
   subst this
   rw [List.take_length] at l1 r1 ⊢
   have c3:=k208 (addF P c pad B) (by omega)
   have c4:PureC Tryz.prog 208 [.sl ((addF P c pad B).map (V.int .i64)) n] (fun r=>r = slI (trimI (addF P c pad B))):=by rw [← l1];exact c3
   refine W.run ?_
   rfl
theorem rowM_drop {P a:Int} {i j:Nat} {q C:List Int} (h:j < q.length):rowM P a i (q.drop j) j C = rowM P a i (q.drop (j+1)) (j+1) (C.set (i+j) ((C.getD (i+j) 0+a * q[j] % P) % P)):=by
 rw [List.drop_eq_getElem_cons h];rfl
theorem prodM_drop {P:Int} {i:Nat} {p q C:List Int} (h:i < p.length):prodM P q (p.drop i) i C = prodM P q (p.drop (i+1)) (i+1) (rowM P p[i] i q 0 C):=by
 rw [List.drop_eq_getElem_cons h];rfl
set_option maxRecDepth 10000 in
set_option maxHeartbeats 1000000 in
theorem k191 (P g:Int) (hP:3≤P∧P < 2 ^ 31) (A B:List Int) (hA:A.length < 2 ^ 30) (hB:B.length < 2 ^ 30) (hrA:InF P A) (hrB:InF P B) (h0:A.length≠0) (h1:B.length≠0):PureC Tryz.prog 191 [fieldV P g,slI A,slI B] (fun r=>r = slI (timesF P A B)):=by
 have m1:=mt1
 have m2:=mt2
 refine pureC_of_wp .x mixed ok191 rfl ?_
 unfold c191
 dsimp only [argE,fieldV,fldC]
 have e:timesF P A B = trimI (convF P A B):=by unfold timesF;rw [if_neg (by omega)]
 rw [e]
 obtain ⟨n,hnn⟩:∃ n,n = A.length+B.length - 1:=⟨_,rfl⟩
 have hcl:(convF P A B).length = n:=by rw [convF_len,hnn]
 have hn:((A.length:Int)+(B.length:Int) - 1).toNat = n:=by omega
 refine W.run ?_
 rw [hn,zeros_map]
 refine W.run ?_
 refine W.lp (fun y:Nat × List Int=>[(0,fieldV P g),(2,slI B),(7,.ref 120 0 0 n),(27,slI A),(28,.int .i64 (A.length:Int)),(29,.int .i64 (y.1:Int))]) (fun y=>Hp.put (fun _=>none) 120 { cells:=y.2.map (V.int .i64),sz:=1 })
   (fun y=>y.1≤A.length∧y.2.length = n∧InF P y.2∧prodM P B (A.drop y.1) y.1 y.2 = convF P A B) (fun y=>A.length - y.1) (0,List.replicate n 0) rfl (HS.refl _) ⟨by dsimp only;omega,by simp,InF.rep (by omega) n,by rw [List.drop_zero,hnn];rfl⟩ ?_
 rintro ⟨i,C⟩ nx ⟨hi,hl,hC,hpr⟩ hnx
 dsimp only [fieldV,fldC] at hi hl hC hpr ⊢
 by_cases hlt:i < A.length
 ·rw [prodM_drop hlt] at hpr
  refine W.run ?_
  refine W.lp (fun y:Nat × List Int=>[(0,fieldV P g),(2,slI B),(7,.ref 120 0 0 n),(8,.int .i64 (i:Int)),(9,.int .i64 A[i]),(27,slI A),(28,.int .i64 (A.length:Int)),(29,.int .i64 (i:Int)),(34,slI B),(35,.int .i64 (B.length:Int)),(36,.int .i64 (y.1:Int))]) (fun y=>Hp.put (fun _=>none) 120 { cells:=y.2.map (V.int .i64),sz:=1 })
   (fun y=>y.1≤B.length∧y.2.length = n∧InF P y.2∧rowM P A[i] i (B.drop y.1) y.1 y.2 = rowM P A[i] i B 0 C) (fun y=>B.length - y.1) (0,C) rfl (HS.refl _) ⟨by dsimp only;omega,hl,hC,by rw [List.drop_zero]⟩ ?_
  rintro ⟨j,D⟩ nx1 ⟨hj,hl1,hD,hro⟩ hnx1
  dsimp only [fieldV,fldC] at hj hl1 hD hro ⊢
  by_cases hjt:j < B.length
  ·rw [rowM_drop hjt] at hro
   have hi1:i+j < D.length:=by omega
   have hidx:((i:Int)+(j:Int)).toNat = i+j:=by omega
   have hi2:((i:Int)+(j:Int)).toNat < D.length:=by omega
   have ha:=hrA A[i] (List.getElem_mem hlt)
   have hb:=hrB B[j] (List.getElem_mem hjt)
   have hc:=hD (D[((i:Int)+(j:Int)).toNat]'hi2) (List.getElem_mem _)
   have c1:=k271 P A[i] B[j] (by omega) ha hb
   have c2:=k272 P (D[((i:Int)+(j:Int)).toNat]'hi2) (A[i] * B[j] % P) (by omega) hc (emod_rng (by omega))
   refine W.run ?_
   refine W.kl (j+1,D.set (i+j) ((D.getD (i+j) 0+A[i] * B[j] % P) % P)) rfl ?_ (by omega) ⟨by dsimp only;omega,by simpa using hl1,hD.set _ (emod_rng (by omega)),hro⟩ (by dsimp only;omega)
   refine HS.put ?_ (HS.refl _)
   rw [← hidx,List.getD_eq_getElem?_getD,List.getElem?_eq_getElem hi2,Option.getD_some,List.set_eq_take_append_cons_drop,if_pos hi2];simp
  ·have : j = B.length := by omega
   subst this
   rw [List.drop_length] at hro
   refine W.run ?_
   refine W.kl (i+1,D) rfl (HS.refl _) (by omega) ⟨by dsimp only;omega,hl1,hD,?_⟩ (by dsimp only;omega)
   dsimp only
   rw [← hpr,← hro];rfl
 ·have : i = A.length := by omega
  subst this
  rw [List.drop_length] at hpr
  have c3:=k208 C (by omega)
  have c4:PureC Tryz.prog 208 [.sl (C.map (V.int .i64)) n] (fun r=>r = slI (trimI C)):=by rw [← hl];exact c3
  refine W.run ?_
  rw [← hpr];rfl
theorem newtF_drop {P:Int} {i:Nat} {xs ys out zero:List Int} (h1:i < xs.length) (h2:i < ys.length):newtF P (xs.drop i) (ys.drop i) out zero = newtF P (xs.drop (i+1)) (ys.drop (i+1)) (plusF P out (((ys[i] - valM P xs[i] out+P) % P) * (valM P xs[i] zero ^ (P - 2).toNat % P) % P) zero) (timesF P zero [(0 - xs[i]+P) % P,1]):=by
 rw [List.drop_eq_getElem_cons h1,List.drop_eq_getElem_cons h2];rfl
theorem zero_new {P x:Int} (h:PrimeI P) {zero done:List Int} (hz:∀ z,evI zero z % P = prodAt z done * (-1) ^ done.length % P) (hx:∀ w∈done,¬ P ∣ w - x):¬ P ∣ valM P x zero:=by
 rw [valM_ev,hz]
 intro hdv
 have e:=Int.emod_eq_zero_of_dvd hdv
 rw [Int.emod_emod] at e
 rcases h.mul (Int.dvd_of_emod_eq_zero e) with h4 | h4
 ·exact prodAt_ndvd h done hx h4
 ·have:∀ n:Nat,¬ P ∣ (-1:Int) ^ n:=by
   intro n
   induction n with
   | zero=>simpa using not_dvd_small (by omega) h.1
   | succ n ih =>
    intro hdv
    rw [Int.pow_succ] at hdv
    rcases h.mul hdv with h5 | h5
    ·exact ih h5
    ·have : P ∣ 1 := by have := Int.dvd_neg.2 h5; simpa using this
     exact not_dvd_small (by omega) h.1 this
  exact this _ h4
theorem zero_times {P x:Int} {zero done:List Int} (hz:∀ z,evI zero z % P = prodAt z done * (-1) ^ done.length % P) (z:Int):evI (timesF P zero [(0 - x+P) % P,1]) z % P = prodAt z (done++[x]) * (-1) ^ (done++[x]).length % P:=by
 rw [timesF_ev]
 have e1:evI [(0 - x+P) % P,1] z % P = ((x - z) * (-1)) % P:=by
  show ((0 - x+P) % P+z * (1+z * 0)) % P = _
  rw [Int.emod_add_emod]
  have:0 - x+P+z * (1+z * 0) = (x - z) * (-1)+P:=by
   rw [Int.mul_zero,Int.add_zero,Int.mul_one];omega
  rw [this,Int.add_emod,Int.emod_self,Int.add_zero,Int.emod_emod]
 rw [mul_mod_congr (hz z) e1 (P:=P)]
 congr 1
 have e2:∀ (l:List Int),prodAt z (l++[x]) = prodAt z l * (x - z):=by
  intro l
  induction l with
  | nil=>simp [prodAt]
  | cons w l ih=>simp only [List.cons_append,prodAt,ih,Int.mul_assoc]
 rw [e2,List.length_append,List.length_singleton,Int.pow_succ]
 rw [Int.mul_assoc,Int.mul_assoc,Int.mul_left_comm (x - z)]
set_option maxRecDepth 10000 in
set_option maxHeartbeats 1000000 in
theorem k148 (P g:Int) (hp:PrimeI P) (hP:3≤P∧P < 2 ^ 31) (X Y:List Int) (hl:X.length = Y.length) (hX:X.length≤200) (hrX:InF P X) (hrY:InF P Y) (hn:X.Nodup):PureC Tryz.prog 148 [fieldV P g,slI X,slI Y] (fun r=>r = slI (newtF P X Y [] [1])∨X = []∧r = .nils):=by
 have m1:=mt1
 have m2:=mt2
 have m3:=mt3
 have m4:=mt4
 refine pureC_of_wp .x mixed ok148 rfl ?_
 unfold c148
 dsimp only [argE,fieldV,fldC]
 refine W.run ?_
 refine W.lp (fun y:Nat × List Int × List Int=>[(0,fieldV P g),(2,slI Y),(7,match y.1 with | 0=>V.nils | _+1=>slI y.2.1),(8,match y.1 with | 0=>V.ref 16 0 0 1 | _+1=>slI y.2.2),(13,slI X),(14,.int .i64 (X.length:Int)),(15,.int .i64 (y.1:Int))]) (fun y=>match y.1 with | 0=>Hp.put (fun _=>none) 16 { cells:=[.int .i64 1],sz:=1 } | _+1=>fun _=>none)
  (fun y=>y.1≤X.length∧(y.1 = 0→y.2.1 = []∧y.2.2 = [1])∧InF P y.2.1∧InF P y.2.2∧y.2.1.length≤y.1∧y.2.2.length≤y.1+1∧(∀ z,evI y.2.2 z % P = prodAt z (X.take y.1) * (-1) ^ (X.take y.1).length % P)∧newtF P (X.drop y.1) (Y.drop y.1) y.2.1 y.2.2 = newtF P X Y [] [1]) (fun y=>X.length - y.1) (0,[],[1]) rfl (HS.refl _) ?_ ?_
 ·refine ⟨by dsimp only; omega, fun _ => ⟨rfl, rfl⟩, InF.nil, InF.cons (by omega) InF.nil, by simp, by simp, fun z => ?_, by rw [List.drop_zero, List.drop_zero]⟩
  simp [evI,prodAt]
 rintro ⟨i,out,zero⟩ nx ⟨hi,h00,ho,hz,l1,l2,h2,h3⟩ hnx
 dsimp only at hi h00 ho hz l1 l2 h2 h3
 by_cases hlt:i < X.length
 ·have hlt2 : i < Y.length := by omega
  rw [newtF_drop hlt hlt2] at h3
  have hx:=hrX X[i] (List.getElem_mem hlt)
  have hy:=hrY Y[i] (List.getElem_mem hlt2)
  have hnew:¬ P ∣ valM P X[i] zero:=zero_new hp h2 fun w hw hdv=>by
   have hwX:=List.mem_of_mem_take hw
   have e:=emod_of_dvd_sub hdv
   have:=hrX w hwX
   rw [Int.emod_eq_of_lt this.1 this.2,Int.emod_eq_of_lt hx.1 hx.2] at e
   have hn2:=List.nodup_append.1 (by rw [List.take_append_drop];exact hn:(X.take i++X.drop i).Nodup)
   exact hn2.2.2 w hw X[i] (by rw [List.drop_eq_getElem_cons hlt];exact List.mem_cons_self) e
  have hz0:zero.length≠0:=fun h=>hnew (by rw [List.length_eq_zero_iff.1 h];exact ⟨0,by simp [valM]⟩)
  have hx':=zero_times (x:=X[i]) h2
  rw [← List.take_succ_eq_append_getElem hlt] at hx'
  have r1:=valM_rng (P:=P) (x:=X[i]) (by omega) out
  have r2:=valM_rng (P:=P) (x:=X[i]) (by omega) zero
  obtain ⟨v1,hv1⟩:∃ v,v = valM P X[i] out:=⟨_,rfl⟩
  obtain ⟨v2,hv2⟩:∃ v,v = valM P X[i] zero:=⟨_,rfl⟩
  have r3:0≤(Y[i] - v1+P) % P∧(Y[i] - v1+P) % P < P:=emod_rng (by omega)
  have r4:0≤invF P v2∧invF P v2 < P:=emod_rng (by omega)
  obtain ⟨c,hc⟩:∃ c,c = (Y[i] - v1+P) % P * invF P v2 % P:=⟨_,rfl⟩
  have r5:0≤c∧c < P:=hc ▸ emod_rng (by omega)
  have r6:0≤(0 - X[i]+P) % P∧(0 - X[i]+P) % P < P:=emod_rng (by omega)
  have h3':newtF P (X.drop (i+1)) (Y.drop (i+1)) (plusF P out c zero) (timesF P zero [(0 - X[i]+P) % P,1]) = newtF P X Y [] [1]:=by rw [← h3,hc,hv1,hv2];rfl
  have c2:=k269 P Y[i] v1 (by omega) hy (hv1 ▸ r1)
  have c4:=k270 P v2 (by omega) (hv2 ▸ r2)
  have c5:=k271 P ((Y[i] - v1+P) % P) (invF P v2) (by omega) r3 r4
  rw [← hc] at c5
  have cMISSING7:=k269 P 0 X[i] (by omega) (by omega) hx
  have cMISSING8:=k191 P g hP zero [(0 - X[i]+P) % P,1] (by omega) (by simp) hz (InF.cons r6 (InF.cons (by omega) InF.nil)) hz0 (by simp)
  have hin1:InF P (plusF P out c zero):=plusF_in (by omega) ho
  have hin2:InF P (timesF P zero [(0 - X[i]+P) % P,1]):=timesF_in (by omega)
  have hl1:(plusF P out c zero).length≤i+1:=by have:=plusF_len (P:=P) (c:=c) out zero;omega
  have hl2:(timesF P zero [(0 - X[i]+P) % P,1]).length≤i+1+1:=by have:=timesF_len (P:=P) zero [(0 - X[i]+P) % P,1];simp only [List.length_cons,List.length_nil] at this;omega
  rcases i with _ | i
  ·obtain ⟨rfl,rfl⟩:=h00 rfl
   have c1:=k178 P X[0] g hP [] (by simp) ho hx .nils (.inr ⟨rfl,rfl⟩)
   have c3:PureC Tryz.prog 178 [fieldV P g,.sl [.int .i64 1] 1,.int .i64 X[0]] (fun r=>r = .int .i64 (valM P X[0] [1])):=k178 P X[0] g hP [1] (by simp) hz hx (slI [1]) (.inl rfl)
   have c6:PureC Tryz.prog 190 [fieldV P g,.nils,.int .i64 c,.sl [.int .i64 1] 1] (fun r=>r = slI (plusF P [] c [1])):=k190 P c g hP [] [1] (by simp) (by simp) ho hz r5 .nils (.inr ⟨rfl,rfl⟩)
   have cMISSING8:PureC Tryz.prog 191 [fieldV P g,.sl [.int .i64 1] 1,.sl [.int .i64 (((0:Int) - X[0]+P) % P),.int .i64 1] 2] (fun r=>r = slI (timesF P [1] [((0:Int) - X[0]+P) % P,1])):=cMISSING8
   rw [← hv1] at c1
   rw [← hv2] at c3
   dsimp only [fieldV,fldC] at c1 c3 c6 cMISSING8 ⊢
   refine W.run ?_
   refine W.kl (1,plusF P [] c [1],timesF P [1] [((0:Int) - X[0]+P) % P,1]) rfl (HS.emp _) (by omega) ⟨by dsimp only;omega,fun h=>absurd h (by simp),hin1,hin2,hl1,hl2,hx',h3'⟩ (by dsimp only;omega)
  ·have c1 := k178 P X[i + 1] g hP out (by omega) ho hx (slI out) (.inl rfl)
   have c3:=k178 P X[i+1] g hP zero (by omega) hz hx (slI zero) (.inl rfl)
   have cMISSING8:PureC Tryz.prog 191 [fieldV P g,slI zero,.sl [.int .i64 (((0:Int) - X[i+1]+P) % P),.int .i64 1] 2] (fun r=>r = slI (timesF P zero [((0:Int) - X[i+1]+P) % P,1])):=cMISSING8
   have c6:=k190 P c g hP out zero (by omega) (by omega) ho hz r5 (slI out) (.inl rfl)
   rw [← hv1] at c1
   rw [← hv2] at c3
   dsimp only [fieldV,fldC] at c1 c3 c6 cMISSING8 ⊢
   refine W.run ?_
   refine W.kl (i+1+1,plusF P out c zero,timesF P zero [((0:Int) - X[i+1]+P) % P,1]) rfl (HS.emp _) (by omega) ⟨by dsimp only;omega,fun h=>absurd h (by simp),hin1,hin2,hl1,hl2,hx',h3'⟩ (by dsimp only;omega)
 ·have hi' : i = X.length := by omega
  rw [hi',List.drop_length] at h3
  have h4:out = newtF P X Y [] [1]:=h3
  rcases i with _ | i
  ·dsimp only [fieldV,fldC]
   refine W.run ?_
   exact .inr ⟨List.length_eq_zero_iff.1 hi'.symm,rfl⟩
  ·dsimp only [fieldV,fldC]
   refine W.run ?_
   rw [← h4];exact .inl rfl
def IsL (pv:V) (A:List Int):Prop:=pv = slI A∨(pv = .nils∧A = [])
theorem IsL.atom {pv:V} {A:List Int} (h:IsL pv A):pv.atom = true:=by rcases h with rfl | ⟨rfl,_⟩ <;> rfl
structure Ln where
 hall:Int
 kind:Int
 other:Int
 nums:List Int
def isHallB (H h:Int):Bool:=decide (1≤h∧h≤H)
def cntB (H:Int) (x:Ln) (kind n:Int) (another:Bool):Bool :=
 decide (x.kind = kind) && isHallB H x.hall && decide ((x.nums.length:Int) = n) && (!another || (isHallB H x.other && decide (x.other≠x.hall)))
abbrev lnC (x:Ln) (nv:V):List V:=[.int .i64 x.hall,.int .i64 x.kind,.int .i64 x.other,nv]
theorem k65 (R P G H B K h:Int):PureC Tryz.prog 65 [cfgV R P G H B K,.int .i64 h] (fun r=>r = .bool (isHallB H h)):=by
 unfold isHallB
 by_cases h1:1≤h
 ·refine pureC_of_wp .x mixed ok65 rfl ?_
  unfold c65
  dsimp only [argE]
  refine W.run ?_
  simp [h1]
 ·refine pureC_of_wp .x mixed ok65 rfl ?_
  unfold c65
  dsimp only [argE]
  refine W.run ?_
  simp [h1]
set_option maxRecDepth 10000 in
set_option maxHeartbeats 1000000 in
theorem k114 (R P G H B K kind n:Int) (x:Ln) (hx:x.nums.length < 2 ^ 40) (another:Bool) (nv:V) (hnv:IsL nv x.nums):PureC Tryz.prog 114 [cfgV R P G H B K,.agg (lnC x nv),.int .i64 kind,.int .i64 n,.bool another] (fun r=>r = .bool (cntB H x kind n another)):=by
 have c1:=k65 R P G H B K x.hall
 have c2:=k65 R P G H B K x.other
 unfold cntB
 obtain ⟨b1,hb1⟩:∃ b,b = isHallB H x.hall:=⟨_,rfl⟩
 obtain ⟨b2,hb2⟩:∃ b,b = isHallB H x.other:=⟨_,rfl⟩
 rw [← hb1] at c1 ⊢
 rw [← hb2] at c2 ⊢
 clear hb1 hb2
 have hat:=hnv.atom
 have hlen:∀ (c:IOp),True:=fun _=>trivial
 rcases hnv with rfl | ⟨rfl,hn0⟩
 ·refine pureC_of_wp .x mixed ok114 rfl ?_
  unfold c114
  dsimp only [argE,lnC]
  by_cases h1:x.kind = kind
  ·cases b1
   ·refine W.run ?_;simp
   ·by_cases h2:(x.nums.length:Int) = n
    ·cases another
     ·refine W.run ?_;simp [h1,h2]
     ·cases b2
      ·refine W.run ?_;simp
      ·refine W.run ?_;simp [h1,h2]
    ·refine W.run ?_;simp [h2]
  ·refine W.run ?_;simp [h1]
 ·rw [hn0]
  refine pureC_of_wp .x mixed ok114 rfl ?_
  unfold c114
  dsimp only [argE,lnC]
  by_cases h1:x.kind = kind
  ·cases b1
   ·refine W.run ?_;simp
   ·by_cases h2:(0:Int) = n
    ·cases another
     ·refine W.run ?_;simp [h1,← h2]
     ·cases b2
      ·refine W.run ?_;simp
      ·refine W.run ?_;simp [h1,← h2]
    ·refine W.run ?_;simp [h2]
  ·refine W.run ?_;simp [h1]
def lnsC:List (Ln × V)→List V
 | []=>[]
 | p::l=>lnC p.1 p.2++lnsC l
theorem lnsC_len:∀ l,(lnsC l).length = 4 * l.length
 | []=>rfl
 | p::l=>by simp [lnsC,lnsC_len l];omega
theorem lnsC_get:∀ {l:List (Ln × V)} {i:Nat} (h:i < l.length),((lnsC l).drop (i * 4)).take 4 = lnC l[i].1 l[i].2
 | p::l,0,h=>by simp [lnsC]
 | p::l,i+1,h=>by
  have:=lnsC_get (l:=l) (i:=i) (by simpa using h)
  rw [show (i+1) * 4 = 4+i * 4 by omega,← List.drop_drop]
  simpa [lnsC] using this
abbrev lnsV (l:List (Ln × V)):V:=.sl (lnsC l) l.length
theorem k108 (x:Ln) (hx:x.nums.length < 2 ^ 40) (nv:V) (hnv:IsL nv x.nums):PureC Tryz.prog 108 [.agg (lnC x nv)] (fun r=>r = .bool (decide (64 < x.nums.length))):=by
 rcases hnv with rfl | ⟨rfl,hn0⟩
 ·refine pureC_of_wp .x mixed ok108 rfl ?_
  unfold c108
  dsimp only [argE,lnC]
  refine W.run ?_
  simp;omega
 ·rw [hn0]
  refine pureC_of_wp .x mixed ok108 rfl ?_
  unfold c108
  dsimp only [argE,lnC]
  refine W.run ?_
  simp
def idxL (q:Ln→Bool):List (Ln × V)→Int→Int
 | [],_=>-1
 | p::l,i=>if q p.1 then i else idxL q l (i+1)
set_option maxRecDepth 10000 in
set_option maxHeartbeats 1000000 in
theorem k161 (L:List (Ln × V)) (hlen:L.length < 2 ^ 40) (hv:∀ p∈L,IsL p.2 p.1.nums) (g:FuncId) (q:Ln→Bool) (hg:∀ p∈L,PureC Tryz.prog g [.agg (lnC p.1 p.2)] (fun r=>r = .bool (q p.1))) :
  PureC Tryz.prog 161 [lnsV L,.clo (.func g) [] []] (fun r=>r = .int .i64 (idxL q L 0)):=by
 refine pureC_of_wp .x mixed ok161 rfl ?_
 unfold c161
 dsimp only [argE]
 refine W.run ?_
 refine W.lp (fun i:Nat=>[(0,lnsV L),(1,.clo (.func g) [] []),(7,.int .i64 (L.length:Int)),(8,.int .i64 (i:Int))]) (fun _ _=>none)
  (fun i=>i≤L.length∧idxL q L 0 = idxL q (L.drop i) i) (fun i=>L.length - i) 0 rfl (HS.refl _) ⟨by omega,rfl⟩ ?_
 rintro i nx ⟨h1,h2⟩ hnx
 have hll:=lnsC_len L
 by_cases hi:i < L.length
 ·have hgi:=lnsC_get hi
  have hgc:=hg L[i] (List.getElem_mem hi)
  have hvi:=hv L[i] (List.getElem_mem hi)
  rw [List.drop_eq_getElem_cons hi] at h2
  have h3:idxL q (L[i]::L.drop (i+1)) i = if q L[i].1 then (i:Int) else idxL q (L.drop (i+1)) (i+1):=rfl
  rw [h3] at h2
  clear hg hv h3
  generalize L[i] = p at *
  obtain ⟨x,nv⟩:=p
  dsimp only at hgi hgc hvi h2
  rcases hvi with rfl | ⟨rfl,_⟩
  all_goals
   cases hq:q x
   ·rw [hq] at h2 hgc
    refine W.run ?_
    rw [hgi]
    refine W.run ?_
    exact W.kl (i+1) rfl (HS.refl _) (by omega) ⟨by omega,by simpa using h2⟩ (by omega)
   ·rw [hq] at h2 hgc
    refine W.run ?_
    rw [hgi]
    refine W.run ?_
    rw [h2];rfl
 ·have : i = L.length := by omega
  subst this
  refine W.run ?_
  rw [h2,List.drop_length];rfl
theorem idxL_any {q:Ln→Bool}:∀ (l:List (Ln × V)) (i:Int),0≤i→(0≤idxL q l i↔(l.any fun p=>q p.1) = true)
 | [],i,_=>by simp [idxL]
 | p::l,i,hi=>by
  have ih:=idxL_any (q:=q) l (i+1) (by omega)
  cases h:q p.1
  ·simp only [idxL,h,List.any_cons,Bool.false_or];simpa using ih
  ·simp [idxL,h,hi]
theorem k107 (L:List (Ln × V)) (hlen:L.length < 2 ^ 40) (hv:∀ p∈L,IsL p.2 p.1.nums) (g:FuncId) (q:Ln→Bool) (hg:∀ p∈L,PureC Tryz.prog g [.agg (lnC p.1 p.2)] (fun r=>r = .bool (q p.1))) :
  PureC Tryz.prog 107 [lnsV L,.clo (.func g) [] []] (fun r=>r = .bool (L.any fun p=>q p.1)):=by
 have c1:=k161 L hlen hv g q hg
 have hi:=idxL_any (q:=q) L 0 (by omega)
 clear hg
 refine pureC_of_wp .x mixed ok107 rfl ?_
 unfold c107
 dsimp only [argE]
 cases hq:L.any fun p=>q p.1
 ·have : ¬ 0 ≤ idxL q L 0 := fun h => by have := hi.1 h; rw [hq] at this; cases this
  clear hi
  refine W.run ?_
  rfl
 ·have:0≤idxL q L 0:=hi.2 hq
  clear hi
  refine W.run ?_
  rfl
abbrev brdV (l1 l2 l3 l4:List (Ln × V)):V:=.agg [lnsV l1,lnsV l2,lnsV l3,lnsV l4]
theorem k56 (l1 l2 l3 l4:List (Ln × V)):PureC Tryz.prog 56 [brdV l1 l2 l3 l4] (fun r=>r = brdV l1 l2 l3 l4):=by
 refine pureC_of_wp .x mixed ok56 rfl ?_
 unfold c56
 dsimp only [argE]
 refine W.run ?_
 rfl
def fitsL (most:Int) (l:List (Ln × V)):Bool:=decide ((l.length:Int)≤most) && !(l.any fun p=>decide (64 < p.1.nums.length))
abbrev LnsI (l:List (Ln × V)):Prop:=l.length < 2 ^ 40∧∀ p∈l,IsL p.2 p.1.nums∧p.1.nums.length < 2 ^ 40
theorem k107n {l:List (Ln × V)} (h:LnsI l):PureC Tryz.prog 107 [lnsV l,.clo (.func 108) [] []] (fun r=>r = .bool (l.any fun p=>decide (64 < p.1.nums.length))) :=
 k107 l h.1 (fun p hp=>(h.2 p hp).1) 108 (fun x=>decide (64 < x.nums.length)) fun p hp=>k108 p.1 (h.2 p hp).2 p.2 (h.2 p hp).1
def brdL (l1 l2 l3 l4:List (Ln × V)):Nat→List (Ln × V)
 | 0=>l1
 | 1=>l2
 | 2=>l3
 | _=>l4
set_option maxRecDepth 10000 in
set_option maxHeartbeats 2000000 in
theorem k51 {R P G H B K:Int} (hg:GroupI R P G) (hc:CfgI P H B K) (most:Int) (hm:0≤most∧most < 2 ^ 40) (l1 l2 l3 l4:List (Ln × V)) (h1:LnsI l1) (h2:LnsI l2) (h3:LnsI l3) (h4:LnsI l4) :
  PureC Tryz.prog 51 [cfgV R P G H B K,brdV l1 l2 l3 l4,.int .i64 most] (fun r=>r = .int .i64 (if fitsL most l1 && fitsL most l2 && fitsL most l3 && fitsL most l4 then 0 else 2)):=by
 have c1:=k36 hg hc
 have c2:=k56 l1 l2 l3 l4
 clear hg hc
 refine pureC_of_wp .x mixed ok51 rfl ?_
 unfold c51
 dsimp only [argE,cfgV]
 refine W.run ?_
 clear c1 c2
 obtain ⟨E,hE⟩:∃ E:Int,E = if fitsL most l1 && fitsL most l2 && fitsL most l3 && fitsL most l4 then 0 else 2:=⟨_,rfl⟩
 rw [← hE]
 refine W.lp (fun i:Nat=>[(2,.int .i64 most),(16,brdV l1 l2 l3 l4),(17,.int .i64 (i:Int))]) (fun _ _=>none) (fun i=>i≤4∧∀ j,j < i→fitsL most (brdL l1 l2 l3 l4 j) = true) (fun i=>4 - i) 0 rfl (HS.emp _) ⟨by omega,fun j hj=>by omega⟩ ?_
 rintro i nx ⟨hi,hf⟩ hnx
 obtain rfl | rfl | rfl | rfl | rfl:i = 0∨i = 1∨i = 2∨i = 3∨i = 4:=by omega
 ·have hk:=k107n h1
  have hlt:=h1.1
  have no:fitsL most l1 = false→E = 2:=fun h=>by rw [hE,h];simp
  have next:fitsL most l1 = true→∀ j,j < 1→fitsL most (brdL l1 l2 l3 l4 j) = true:=fun h j hj=>by
   by_cases hj':j = 0
   ·subst hj';exact h
   ·exact hf j (by omega)
  clear hf hE h1 h2 h3 h4
  by_cases hle:most < l1.length
  ·obtain rfl := no (by unfold fitsL; rw [decide_eq_false (by omega)]; rfl)
   clear no next
   refine W.run ?_
   rfl
  ·cases hany:l1.any fun p=>decide (64 < p.1.nums.length)
   ·have hn := next (by unfold fitsL; rw [hany, decide_eq_true (by omega)]; rfl)
    rw [hany] at hk
    clear no next
    refine W.run ?_
    exact W.kl 1 rfl (HS.refl _) (by omega) ⟨by omega,hn⟩ (by omega)
   ·obtain rfl := no (by unfold fitsL; rw [hany]; simp)
    rw [hany] at hk
    clear no next
    refine W.run ?_
    rfl
 ·have hk:=k107n h2
  have hlt:=h2.1
  have no:fitsL most l2 = false→E = 2:=fun h=>by rw [hE,h];simp
  have next:fitsL most l2 = true→∀ j,j < 2→fitsL most (brdL l1 l2 l3 l4 j) = true:=fun h j hj=>by
   by_cases hj':j = 1
   ·subst hj';exact h
   ·exact hf j (by omega)
  clear hf hE h1 h2 h3 h4
  by_cases hle:most < l2.length
  ·obtain rfl := no (by unfold fitsL; rw [decide_eq_false (by omega)]; rfl)
   clear no next
   refine W.run ?_
   rfl
  ·cases hany:l2.any fun p=>decide (64 < p.1.nums.length)
   ·have hn := next (by unfold fitsL; rw [hany, decide_eq_true (by omega)]; rfl)
    rw [hany] at hk
    clear no next
    refine W.run ?_
    exact W.kl 2 rfl (HS.refl _) (by omega) ⟨by omega,hn⟩ (by omega)
   ·obtain rfl := no (by unfold fitsL; rw [hany]; simp)
    rw [hany] at hk
    clear no next
    refine W.run ?_
    rfl
 ·have hk:=k107n h3
  have hlt:=h3.1
  have no:fitsL most l3 = false→E = 2:=fun h=>by rw [hE,h];simp
  have next:fitsL most l3 = true→∀ j,j < 3→fitsL most (brdL l1 l2 l3 l4 j) = true:=fun h j hj=>by
   by_cases hj':j = 2
   ·subst hj';exact h
   ·exact hf j (by omega)
  clear hf hE h1 h2 h3 h4
  by_cases hle:most < l3.length
  ·obtain rfl := no (by unfold fitsL; rw [decide_eq_false (by omega)]; rfl)
   clear no next
   refine W.run ?_
   rfl
  ·cases hany:l3.any fun p=>decide (64 < p.1.nums.length)
   ·have hn := next (by unfold fitsL; rw [hany, decide_eq_true (by omega)]; rfl)
    rw [hany] at hk
    clear no next
    refine W.run ?_
    exact W.kl 3 rfl (HS.refl _) (by omega) ⟨by omega,hn⟩ (by omega)
   ·obtain rfl := no (by unfold fitsL; rw [hany]; simp)
    rw [hany] at hk
    clear no next
    refine W.run ?_
    rfl
 ·have hk:=k107n h4
  have hlt:=h4.1
  have no:fitsL most l4 = false→E = 2:=fun h=>by rw [hE,h];simp
  have next:fitsL most l4 = true→∀ j,j < 4→fitsL most (brdL l1 l2 l3 l4 j) = true:=fun h j hj=>by
   by_cases hj':j = 3
   ·subst hj';exact h
   ·exact hf j (by omega)
  clear hf hE h1 h2 h3 h4
  by_cases hle:most < l4.length
  ·obtain rfl := no (by unfold fitsL; rw [decide_eq_false (by omega)]; rfl)
   clear no next
   refine W.run ?_
   rfl
  ·cases hany:l4.any fun p=>decide (64 < p.1.nums.length)
   ·have hn := next (by unfold fitsL; rw [hany, decide_eq_true (by omega)]; rfl)
    rw [hany] at hk
    clear no next
    refine W.run ?_
    exact W.kl 4 rfl (HS.refl _) (by omega) ⟨by omega,hn⟩ (by omega)
   ·obtain rfl := no (by unfold fitsL; rw [hany]; simp)
    rw [hany] at hk
    clear no next
    refine W.run ?_
    rfl
 ·have e:E = 0:=by
   have f1:=hf 0 (by omega)
   have f2:=hf 1 (by omega)
   have f3:=hf 2 (by omega)
   have f4:=hf 3 (by omega)
   simp only [brdL] at f1 f2 f3 f4
   rw [hE,f1,f2,f3,f4];rfl
  subst e
  clear hf hE
  refine W.run ?_
  rfl
end Go.Dp
