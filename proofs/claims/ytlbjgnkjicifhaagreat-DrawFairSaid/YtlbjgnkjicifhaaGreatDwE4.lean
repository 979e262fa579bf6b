import Derived.Test.YtlbjgnkjicifhaaGreatDwD1
import Derived.Test.YtlbjgnkjicifhaaGreatDpIt
import Derived.Test.YtlbjgnkjicifhaaGreatDsM10
namespace Go.Dp
open Go.RowKit Go.Proofs
attribute [local irreducible] wp wpOps wpOp1 CallW CallT kSeq kBlk kLoop kReg retP retR kAsg kRound kRf
set_option linter.unusedVariables false
set_option linter.unusedSimpArgs false
set_option maxRecDepth 10000 in
theorem k49 {R P G:Int} (h:GroupI R P G):PureC Tryz.prog 49 [grp R P G] (fun r=>r = .int .i64 0):=by
 obtain ⟨hR,hP,hd,hG,pR,pP,one⟩:=h
 have c1:=k63 R (by omega) (by omega)
 have c2:=k63 P (by omega) (by omega)
 rw [primeB_of pR] at c1
 rw [primeB_of pP] at c2
 have c3:=k64 G P R (by omega) (by omega) (by omega) (by omega) (by omega)
 rw [one] at c3
 refine pureC_of_wp .x mixed ok49 rfl ?_
 unfold c49
 dsimp only [argE]
 refine W.run ?_
 rfl
def fitB (R P G:Int) (cs:List Int) (x s:Int):Bool :=
 decide (1≤cs.length∧cs.length≤16) && decide (1≤x∧x≤64∧x < P) && decide (0≤s∧s < P) && cs.all (hasB R P) && decide (hornR R x.toNat cs = G ^ s.toNat % R)
set_option maxRecDepth 10000 in
set_option maxHeartbeats 1000000 in
theorem k128 {R P G:Int} (h:GroupI R P G) (cs:List Int) (len:Nat) (hl:len = cs.length) (hlen:cs.length < 2 ^ 40) (hc:∀ c∈cs,B64 c) (x s:Int):PureC Tryz.prog 128 [grp R P G,.sl (cs.map (V.int .i64)) len,.int .i64 x,.int .i64 s] (fun r=>r = .bool (fitB R P G cs x s)):=by
 have hP:=h.hP
 have hR:=h.hR
 have c1:=k88 h
 have c2:=k165 h cs len hl hlen
 have c3:=k134s 1 (if P - 1 < 64 then P - 1 else 64) x
 have c4:=k140s (R:=R) (G:=G) hP s
 have c5:=k169 R P G
 subst hl
 refine pureC_of_wp .x mixed ok128 rfl ?_
 unfold c128 fitB
 dsimp only [argE]
 by_cases h1:cs.length < 1
 ·rw [decide_eq_false (by omega : ¬ (1 ≤ cs.length ∧ cs.length ≤ 16))]
  clear h
  refine W.run ?_
  rfl
 by_cases h2:16 < cs.length
 ·rw [decide_eq_false (by omega : ¬ (1 ≤ cs.length ∧ cs.length ≤ 16))]
  clear h
  refine W.run ?_
  rfl
 rw [decide_eq_true (by omega:(1≤cs.length∧cs.length≤16))]
 cases hb:cs.all (hasB R P)
 ·rw [hb] at c2
  clear h
  refine W.run ?_
  simp
 rw [hb] at c2
 have hall:∀ c∈cs,1≤c∧c < R:=fun c hc=>(hasB_iff.1 (List.all_eq_true.1 hb c hc)).1
 by_cases hx:1≤x∧x≤64∧x < P
 case neg =>
  rw [decide_eq_false hx]
  have:¬ (1≤x∧x≤if P - 1 < 64 then P - 1 else 64):=fun hh=>by
   apply hx;split at hh <;> omega
  rw [decide_eq_false this] at c3
  clear h this
  refine W.run ?_
  rfl
 rw [decide_eq_true hx]
 have h3:1≤x∧x≤if P - 1 < 64 then P - 1 else 64:=by split <;> omega
 rw [decide_eq_true h3] at c3
 clear h3
 by_cases hs:0≤s∧s < P
 case neg =>
  rw [decide_eq_false hs]
  rw [decide_eq_false hs] at c4
  clear h
  refine W.run ?_
  rfl
 rw [decide_eq_true hs]
 rw [decide_eq_true hs] at c4
 have c6:=k166 h s hs.1 (by omega)
 clear h
 refine W.run ?_
 refine W.lp (fun y:Int × Int=>[(1,.sl (cs.map (V.int .i64)) cs.length),(2,.int .i64 x),(3,.int .i64 s),(4,.ptr 0 0 0),(9,.int .i64 y.2),(10,.int .i64 y.1)]) (fun _=>Hp.put (fun _=>none) 0 { cells:=[.int .i64 R,.int .i64 P,.int .i64 G],sz:=3 })
  (fun y=>(-1≤y.1∧y.1 < cs.length)∧(0≤y.2∧y.2 < R)∧y.2 = hornR R x.toNat (cs.drop (y.1+1).toNat)) (fun y=>(y.1+1).toNat) ((cs.length:Int) - 1,1) rfl ?_ ?_ ?_
 ·exact HS.skip (HS.skip (HS.refl _) rfl _) rfl _
 ·refine ⟨by dsimp only; omega, by dsimp only; omega, ?_⟩
  dsimp only
  rw [show ((cs.length:Int) - 1+1).toNat = cs.length by omega,List.drop_length];rfl
 rintro ⟨i,out⟩ nx ⟨⟨i1,i2⟩,i3,i4⟩ hnx
 dsimp only at *
 by_cases hi:0≤i
 ·have hlt : i.toNat < cs.length := by omega
  have ha:=hall cs[i.toNat] (List.getElem_mem hlt)
  have e1:0≤out ^ x.toNat % R∧out ^ x.toNat % R < R:=⟨Int.emod_nonneg _ (by omega),Int.emod_lt_of_pos _ (by omega)⟩
  have p1:=mul_small e1.1 (by omega:0≤cs[i.toNat]) e1.2 ha.2 (by omega)
  have cMISSING7:=k136 out x R i3.1 (by omega) (by omega) (by omega) (by omega)
  have cMISSING8:=k93 R (out ^ x.toNat % R) cs[i.toNat] (by omega) p1.1 p1.2
  refine W.run ?_
  refine W.kl (i - 1,_) rfl (HS.refl _) (by omega) ⟨by dsimp only;omega,⟨Int.emod_nonneg _ (by omega),Int.emod_lt_of_pos _ (by omega)⟩,?_⟩ (by dsimp only;omega)
  dsimp only
  rw [show (i - 1+1).toNat = i.toNat by omega,List.drop_eq_getElem_cons hlt,i4,show (i+1).toNat = i.toNat+1 by omega]
  rfl
 ·rw [show (i + 1).toNat = 0 by omega] at i4
  refine W.run ?_
  rw [i4];rfl
abbrev Bd (R P G:Int):Prop:=(-2^63≤R∧R < 2^63)∧(-2^63≤P∧P < 2^63)∧(-2^63≤G∧G < 2^63)
set_option maxRecDepth 10000 in
theorem k49f {R P G:Int} (b:Bd R P G) (h:¬ GroupI R P G):PureC Tryz.prog 49 [grp R P G] (fun r=>r = .int .i64 80):=by
 refine pureC_of_wp .x mixed ok49 rfl ?_
 unfold c49
 dsimp only [argE]
 by_cases h1:R < 3
 ·refine W.go ?_;rfl
 by_cases h2:2147483647 < R
 ·refine W.go ?_;rfl
 by_cases h3:P < 3
 ·refine W.go ?_;rfl
 by_cases h4:65521 < P
 ·refine W.go ?_;rfl
 by_cases h5:G < 2
 ·refine W.go ?_;rfl
 by_cases h6:R≤G
 ·refine W.go ?_;rfl
 have c1:=k63 R (by omega) (by omega)
 have c2:=k63 P (by omega) (by omega)
 have c3:=k64 G P R (by omega) (by omega) (by omega) (by omega) (by omega)
 by_cases pR:PrimeI R
 case neg =>
  rw [primeB_not pR] at c1
  refine W.go ?_
  refine W.cl c1 ?_
  refine W.go ?_
  rfl
 rw [primeB_of pR] at c1
 by_cases pP:PrimeI P
 case neg =>
  rw [primeB_not pP] at c2
  refine W.go ?_
  refine W.cl c1 ?_
  refine W.go ?_
  refine W.cl c2 ?_
  refine W.go ?_
  rfl
 rw [primeB_of pP] at c2
 by_cases hd:(R - 1) % P = 0
 case neg =>
  refine W.go ?_
  refine W.cl c1 ?_
  refine W.go ?_
  refine W.cl c2 ?_
  refine W.go ?_
  rfl
 have one:¬ G ^ P.toNat % R = 1:=fun one=>h ⟨by omega,by omega,hd,by omega,pR,pP,one⟩
 clear h
 refine W.go ?_
 refine W.cl c1 ?_
 refine W.go ?_
 refine W.cl c2 ?_
 refine W.go ?_
 refine W.cl c3 ?_
 refine W.go ?_
 rfl
end Go.Dp
namespace Go.Dp
open Go.RowKit Go.Proofs
attribute [local irreducible] wp wpOps wpOp1 CallW CallT kSeq kBlk kLoop kReg retP retR kAsg kRound kRf kCut kItr
set_option linter.unusedVariables false
set_option linter.unusedSimpArgs false
abbrev cfgV (R P G H B K:Int):V:=.agg [.int .i64 R,.int .i64 P,.int .i64 G,.int .i64 H,.int .i64 B,.int .i64 K]
def CfgI (P H B K:Int):Prop:=(2≤H∧H≤16∧H < P)∧(0≤B∧B < H)∧(1≤K∧K≤90)
set_option maxRecDepth 10000 in
theorem k36 {R P G H B K:Int} (h:GroupI R P G) (hc:CfgI P H B K):PureC Tryz.prog 36 [cfgV R P G H B K] (fun r=>r = .int .i64 0):=by
 have c1:=k88 h
 have hP:=h.hP
 obtain ⟨h1,h2,h3⟩:=hc
 clear h
 refine pureC_of_wp .x mixed ok36 rfl ?_
 unfold c36
 dsimp only [argE]
 refine W.run ?_
 rfl
end Go.Dp
namespace Go.Dp
open Go.RowKit Go.Proofs
attribute [local irreducible] wp wpOps wpOp1 CallW CallT kSeq kBlk kLoop kReg retP retR kAsg kRound kRf kCut
set_option linter.unusedVariables false
end Go.Dp
namespace Go.Dp
open Go.RowKit Go.Proofs
attribute [local irreducible] wp wpOps wpOp1 CallW CallT kSeq kBlk kLoop kReg retP retR kAsg kRound kRf kCut kItr
set_option linter.unusedVariables false
set_option linter.unusedSimpArgs false
abbrev tM:TypeId:=213
abbrev modV (P:Int):V:=.ifc tM (.agg [.int .i64 P])
theorem mt1 : MethP Tryz.prog tM "dauber/field.product" 271 := fun v w => by kernel_rfl
theorem mt2 : MethP Tryz.prog tM "dauber/field.sum" 272 := fun v w => by kernel_rfl
theorem mt3 : MethP Tryz.prog tM "dauber/field.difference" 269 := fun v w => by kernel_rfl
theorem mt4 : MethP Tryz.prog tM "dauber/field.inverse" 270 := fun v w => by kernel_rfl
theorem k271 (P a b:Int) (hP:0 < P∧P < 2 ^ 31) (ha:0≤a∧a < P) (hb:0≤b∧b < P):PureC Tryz.prog 271 [.agg [.int .i64 P],.int .i64 a,.int .i64 b] (fun r=>r = .int .i64 (a * b % P)):=by
 have:=mul_small ha.1 hb.1 ha.2 hb.2 hP.2
 refine pureC_of_wp .x mixed ok271 rfl ?_
 unfold c271
 dsimp only [argE]
 refine W.run ?_
 rfl
theorem k272 (P a b:Int) (hP:0 < P∧P < 2 ^ 31) (ha:0≤a∧a < P) (hb:0≤b∧b < P):PureC Tryz.prog 272 [.agg [.int .i64 P],.int .i64 a,.int .i64 b] (fun r=>r = .int .i64 ((a+b) % P)):=by
 refine pureC_of_wp .x mixed ok272 rfl ?_
 unfold c272
 dsimp only [argE]
 refine W.run ?_
 rfl
theorem k269 (P a b:Int) (hP:0 < P∧P < 2 ^ 31) (ha:0≤a∧a < P) (hb:0≤b∧b < P):PureC Tryz.prog 269 [.agg [.int .i64 P],.int .i64 a,.int .i64 b] (fun r=>r = .int .i64 ((a - b+P) % P)):=by
 refine pureC_of_wp .x mixed ok269 rfl ?_
 unfold c269
 dsimp only [argE]
 refine W.run ?_
 rfl
set_option maxRecDepth 10000 in
theorem k182 (P a n:Int) (hP:1 < P∧P < 2 ^ 31) (ha:0≤a∧a < P) (hn:0≤n∧n < 2 ^ 63):PureC Tryz.prog 182 [modV P,.int .i64 a,.int .i64 n] (fun r=>r = .int .i64 (a ^ n.toNat % P)):=by
 have m1:=mt1
 refine pureC_of_wp .x mixed ok182 rfl ?_
 unfold c182
 dsimp only [argE]
 refine W.run ?_
 refine W.lp (fun x:Int × Int × Int=>[(0,modV P),(1,.int .i64 x.1),(2,.int .i64 x.2.1),(7,.int .i64 x.2.2)]) (fun _ _=>none)
  (fun x=>(0≤x.1∧x.1 < P)∧(0≤x.2.2∧x.2.2 < P)∧(0≤x.2.1∧x.2.1 < 2^63)∧(x.2.2 * x.1 ^ x.2.1.toNat) % P = a ^ n.toNat % P) (fun x=>x.2.1.toNat) (a,n,1) rfl (HS.refl _) ⟨ha,⟨by dsimp only;omega,by dsimp only;omega⟩,hn,by dsimp only;rw [Int.one_mul]⟩ ?_
 rintro ⟨b',e',r⟩ nx ⟨h1,h2,⟨h3,h3'⟩,h4⟩ hnx
 dsimp only at h1 h2 h3 h3' h4 ⊢
 have c1:=k271 P r b' (by omega) h2 h1
 have c2:=k271 P b' b' (by omega) h1 h1
 by_cases hz:0 < e'
 ·by_cases ho:e' % 2 = 1
  ·refine W.run ?_
   refine W.kl (b' * b' % P,e' / 2,r * b' % P) rfl (HS.refl _) (by omega) ⟨emod_rng (by omega),emod_rng (by omega),⟨by dsimp only;omega,by dsimp only;omega⟩,?_⟩ (by dsimp only;omega)
   dsimp only
   rw [sq_step _ _ _ _ hz ho];exact h4
  ·refine W.run ?_
   refine W.kl (b' * b' % P,e' / 2,r) rfl (HS.refl _) (by omega) ⟨emod_rng (by omega),h2,⟨by dsimp only;omega,by dsimp only;omega⟩,?_⟩ (by dsimp only;omega)
   dsimp only
   rw [sq_step0 _ _ _ _ hz ho];exact h4
 ·refine W.run ?_
  have:e' = 0:=by omega
  subst this
  simp only [Int.toNat_zero,Int.pow_zero,Int.mul_one] at h4
  rw [← h4,Int.emod_eq_of_lt h2.1 h2.2]
theorem k270 (P a:Int) (hP:2≤P∧P < 2 ^ 31) (ha:0≤a∧a < P):PureC Tryz.prog 270 [.agg [.int .i64 P],.int .i64 a] (fun r=>r = .int .i64 (invF P a)):=by
 have c1:=k182 P a (P - 2) (by omega) ha (by omega)
 refine pureC_of_wp .x mixed ok270 rfl ?_
 unfold c270 invF
 dsimp only [argE]
 refine W.run ?_
 rfl
def natV (l:List Nat):List V:=(l.map fun p:Nat=>(p:Int)).map (V.int .i64)
theorem stripN_step {f n p:Nat} (h:n % p = 0):stripN (f+1) n p = stripN f (n / p) p:=by rw [stripN,if_pos h]
theorem stripN_end {f n p:Nat} (h:¬ n % p = 0):stripN f n p = n:=by
 cases f with
 | zero=>rfl
 | succ f=>rw [stripN,if_neg h]
theorem primesF_a {f p n:Nat} (h:p * p≤n) (hz:n % p = 0):primesF (f+1) p n = p::primesF f (p+1) (stripN n n p):=by rw [primesF,if_pos h,if_pos hz]
theorem primesF_b {f p n:Nat} (h:p * p≤n) (hz:¬ n % p = 0):primesF (f+1) p n = primesF f (p+1) n:=by rw [primesF,if_pos h,if_neg hz]
theorem primesF_c {f p n:Nat} (h:¬ p * p≤n):primesF f p n = if 1 < n then [n] else []:=by
 cases f with
 | zero=>rfl
 | succ f=>rw [primesF,if_neg h]
theorem mapS_natV {n:Nat} {H:Hp} {l:List Nat}:mapS (frz n) (natV l) H = some (natV l,H):=mapS_atoms fun v hv=>by
 unfold natV at hv
 obtain ⟨a,_,rfl⟩:=List.mem_map.1 hv
 rfl
attribute [local go_sem] mapS_natV
theorem natV_snoc (l:List Nat) (p:Nat):natV (l++[p]) = natV l++[V.int .i64 (p:Int)]:=by simp [natV]
set_option maxRecDepth 10000 in
set_option maxHeartbeats 1000000 in
theorem k142 (n:Nat) (hn:0 < n∧n < 2 ^ 31):PureC Tryz.prog 142 [.int .i64 (n:Int)] (fun r=>r = .own (natV (primesL n)) (primesL n).length 1):=by
 refine pureC_of_wp (.s 1) mixed ok142 rfl ?_
 unfold c142
 dsimp only [argE]
 refine W.run ?_
 refine W.lp (fun z:Nat × Nat × List Nat=>[(0,.int .i64 (z.2.1:Int)),(3,.ref 8 z.2.2.length 0 z.2.2.length),(4,.int .i64 (z.1:Int))]) (fun z=>Hp.put (fun _=>none) 8 { cells:=natV z.2.2,sz:=1,ver:=z.2.2.length,nl:=if z.2.2.length = 0 then 1 else 0 })
  (fun z=>(2≤z.1∧z.1≤65536)∧(0 < z.2.1∧z.2.1≤n)∧z.2.2.length < z.1∧∃ f,n+2≤f+z.1∧primesL n = z.2.2++primesF f z.1 z.2.1) (fun z=>n+65540 - z.1) (2,n,[]) rfl (HS.refl _) ⟨by dsimp only;omega,by dsimp only;omega,by simp,n,by dsimp only;omega,rfl⟩ ?_
 rintro ⟨p,m,l⟩ nx ⟨hp,hm,hl,f,hf,hpr⟩ hnx
 dsimp only at hp hm hl hf hpr ⊢
 have hpp:((p * p:Nat):Int) = (p:Int) * p:=Int.natCast_mul _ _
 have hmp:((m % p:Nat):Int) = (m:Int) % p:=Int.natCast_emod _ _
 have hlen:(natV l).length = l.length:=by simp [natV]
 have hpb:0≤(p:Int) * p∧(p:Int) * p≤65536 * 65536:=by
  have:p * p≤65536 * 65536:=Nat.mul_le_mul hp.2 hp.2
  omega
 by_cases hs:p * p≤m
 ·have hp3:p < 65536:=by
   refine Nat.lt_of_not_le fun h=>?_
   have:65536 * 65536≤p * p:=Nat.mul_le_mul h h
   omega
  obtain ⟨f,rfl⟩:∃ g,f = g+1:=⟨f - 1,by
   have:p * 1≤p * p:=Nat.mul_le_mul_left p (by omega)
   omega⟩
  by_cases hz:m % p = 0
  ·rw [primesF_a hs hz] at hpr
   refine W.run ?_
   refine W.lp (fun z:Nat × Nat=>[(0,.int .i64 (z.2:Int)),(3,.ref 8 (l.length+1) 0 (l.length+1)),(4,.int .i64 (p:Int))]) (fun z=>Hp.put (fun _=>none) 8 { cells:=natV (l++[p]),sz:=1,ver:=l.length+1 })
    (fun z=>z.2≤z.1∧0 < z.2∧z.2≤n∧stripN m m p = stripN z.1 z.2 p) (fun z=>z.1) (m,m) rfl ?_ ⟨by dsimp only;omega,by dsimp only;omega,by dsimp only;omega,rfl⟩ ?_
   ·refine HS.skip (HS.put ?_ (HS.emp _)) (by simp only [Hp.put]; repeat (rw [if_neg (by omega)])) _
    rw [natV_snoc]
   rintro ⟨g,k⟩ n2 ⟨hk1,hk2,hk3,hst⟩ hn2
   dsimp only at hk1 hk2 hk3 hst ⊢
   have hkp:((k % p:Nat):Int) = (k:Int) % p:=Int.natCast_emod _ _
   by_cases hkz:k % p = 0
   ·obtain ⟨g, rfl⟩ : ∃ j, g = j + 1 := ⟨g - 1, by omega⟩
    rw [stripN_step hkz] at hst
    have h1:=div_lt_self2 hk2 hp.1
    have h2:0 < k / p:=Nat.div_pos (Nat.le_of_dvd hk2 (Nat.dvd_of_mod_eq_zero hkz)) (by omega)
    refine W.run ?_
    exact W.kl (g,k / p) (by rw [← Int.natCast_ediv];rfl) (HS.refl _) (by omega) ⟨by dsimp only;omega,h2,by dsimp only;omega,hst⟩ (by dsimp only;omega)
   ·rw [stripN_end hkz] at hst
    refine W.run ?_
    refine W.kl (p+1,k,l++[p]) (by dsimp only;rw [List.length_append,List.length_singleton];rfl) ?_ (by omega) ⟨by dsimp only;omega,by dsimp only;omega,by simp;omega,f,by dsimp only;omega,?_⟩ (by dsimp only;omega)
    ·refine HS.put ?_ (HS.refl _)
     dsimp only;rw [List.length_append,List.length_singleton,if_neg (by omega)]
    ·dsimp only;rw [hpr,hst,List.append_assoc];rfl
  ·rw [primesF_b hs hz] at hpr
   refine W.run ?_
   exact W.kl (p+1,m,l) rfl (HS.refl _) (by omega) ⟨by dsimp only;omega,hm,by dsimp only;omega,f,by dsimp only;omega,hpr⟩ (by dsimp only;omega)
 ·rw [primesF_c hs] at hpr
  by_cases h1:1 < m
  ·rw [if_pos h1] at hpr
   have e1:(primesL n).length = l.length+1:=by rw [hpr];simp
   have e2:(natV (l++[m])).length = l.length+1:=by simp [natV]
   rw [e1,hpr]
   refine W.run ?_
   rw [← natV_snoc]
   refine W.run ?_
   rfl
  ·rw [if_neg h1,List.append_nil] at hpr
   rw [hpr]
   refine W.run ?_
   rfl
end Go.Dp
namespace Go.Dp
open Go.RowKit Go.Proofs
attribute [local irreducible] wp wpOps wpOp1 CallW CallT kSeq kBlk kLoop kReg retP retR kAsg kRound kRf kCut kItr
set_option linter.unusedVariables false
set_option linter.unusedSimpArgs false
set_option maxRecDepth 10000 in
theorem k205 {α:Type} (e:α→V) (A:List α) (len:Nat) (hl:len = A.length) (hlen:A.length < 2 ^ 40) (g:FuncId) (caps:List V) (q:α→Bool) (ha:∀ a,(e a).atom = true) (hc:∀ v∈caps,v.atom = true) (hg:∀ a∈A,PureC Tryz.prog g (e a::caps) (fun r=>r = .bool (q a))) :
  PureC Tryz.prog 205 [.sl (A.map e) len,.clo (.func g) [] caps] (fun r=>r = .int .i64 (idxI q A 0)):=by
 subst hl
 refine pureC_of_wp .x mixed ok205 rfl ?_
 unfold c205
 dsimp only [argE]
 refine W.go ?_
 refine W.lp (fun i:Nat=>[(0,.sl (A.map e) A.length),(1,.clo (.func g) [] caps),(7,.int .i64 (A.length:Int)),(8,.int .i64 (i:Int))]) (fun _ _=>none)
  (fun i=>i≤A.length∧idxI q A 0 = idxI q (A.drop i) i) (fun i=>A.length - i) 0 rfl (HS.refl _) ⟨by omega,rfl⟩ ?_
 rintro i nx ⟨h1,h2⟩ hnx
 by_cases hi:i < A.length
 ·refine W.go ?_
  have ha':=ha A[i]
  refine W.cl (hg A[i] (List.getElem_mem hi)) ?_
  rw [idxI_drop hi] at h2
  cases hq:q A[i]
  ·rw [hq] at h2
   refine W.go ?_
   refine W.kl (i+1) rfl (HS.refl _) (by omega) ⟨by omega,?_⟩ (by omega)
   simpa using h2
  ·rw [hq] at h2
   refine W.go ?_
   rw [h2];rfl
 ·have : i = A.length := by omega
  subst this
  refine W.go ?_
  rw [h2,List.drop_length];rfl
set_option maxRecDepth 10000 in
theorem k180 {α:Type} (e:α→V) (A:List α) (len:Nat) (hl:len = A.length) (hlen:A.length < 2 ^ 40) (g:FuncId) (caps:List V) (q:α→Bool) (ha:∀ a,(e a).atom = true) (hc:∀ v∈caps,v.atom = true) (hg:∀ a∈A,PureC Tryz.prog g (e a::caps) (fun r=>r = .bool (q a))) :
  PureC Tryz.prog 180 [.sl (A.map e) len,.clo (.func g) [] caps] (fun r=>r = .bool (A.any q)):=by
 refine pureC_of_wp .x mixed ok180 rfl ?_
 unfold c180
 dsimp only [argE]
 refine W.go ?_
 refine W.cl (k205 e A len hl hlen g caps q ha hc hg) ?_
 have h:=idxI_any (q:=q) A 0
 cases hq:A.any q
 ·have : ¬ 0 ≤ idxI q A 0 := fun h' => by rw [h.1.1 h'] at hq; cases hq
  refine W.go ?_
  rfl
 ·have:0≤idxI q A 0:=h.1.2 hq
  refine W.go ?_
  rfl
def fldC (P g:Int) (m:V):List V:=[modV P,.int .i64 P,.int .i64 P,.int .i64 1,m,.int .i64 g]
abbrev mdV:V:=.sl [.int .i64 0,.int .i64 1] 2
abbrev fieldV (P g:Int):V:=.fp (fldC P g mdV) 0
theorem k181 (P p g g0:Int) (hP:3≤P∧P < 2 ^ 31) (hg:0≤g∧g < P) (hp:2≤p∧p < P):PureC Tryz.prog 181 [.int .i64 p,.fp [modV P] 0,.fp [.int .i64 g] 0,.fp [.fp (fldC P g0 mdV) 0] 0] (fun r=>r = .bool (decide (g ^ ((P - 1) / p).toNat % P = 1))):=by
 have h1:0≤(P - 1) / p:=Int.ediv_nonneg (by omega) (by omega)
 have h2:(P - 1) / p≤P - 1:=Int.ediv_le_self _ (by omega)
 have c1:=k182 P g ((P - 1) / p) (by omega) hg (by omega)
 refine pureC_of_wp .x mixed ok181 rfl ?_
 unfold c181 fldC
 dsimp only [argE]
 refine W.run ?_
 rfl
def hpF (n:Nat) (o mx om:Nat):Hp:=((Hp.put (fun _=>none) o { cells:=[modV n,.int .i64 (n:Int),.int .i64 (n:Int),.int .i64 1,.ref om 0 0 2,.int .i64 0],sz:=6 }).put mx { cells:=[.int .i64 (n:Int)],sz:=1 }).put om { cells:=[.int .i64 0,.int .i64 1],sz:=1 }
set_option maxRecDepth 10000 in
set_option maxHeartbeats 1000000 in
theorem k143 (n:Nat) (hP:3≤n∧n≤65521) (pP:PrimeI n):∃ g:Int,(1≤g∧g < n)∧∀ (o mx om top:Nat) (ho:o < mx∧mx < om∧om < top) (Y:Ys),RefC Tryz.prog Y 143 [.ptr o 0 0,modV n] (hpF n o mx om) top (fun r H' t=>r = .int .i64 g∧H' = hpF n o mx om):=by
 obtain ⟨ps1,ps2,ps3⟩:=primesL_ok (n:=n - 1) (by omega)
 have hto:((n:Int) - 1).toNat = n - 1:=by omega
 have hex:∃ g:Nat,1≤g∧(g:Int) < n∧∀ p∈primesL (n - 1),(g:Int) ^ ((n - 1) / p) % n≠1:=by
  have:=prim_root pP (by omega) (primesL (n - 1)) ps2 (fun p hp=>by rw [hto];exact ⟨(ps1 p hp).1,(ps1 p hp).2.1⟩)
  rwa [hto] at this
 obtain ⟨g0,⟨hg1,hg2,hg3⟩,hmin⟩:=exists_min (fun g:Nat=>g) hex
 refine ⟨(g0:Int),⟨by omega,hg2⟩,fun o mx om top ho Y=>?_⟩
 have c1:=k142 (n - 1) (by omega)
 rw [show ((n - 1:Nat):Int) = (n:Int) - 1 by omega] at c1
 obtain ⟨ps,hps⟩:∃ ps,ps = primesL (n - 1):=⟨_,rfl⟩
 rw [← hps] at c1 ps1 hg3
 have hlt:ps.length < 2 ^ 40:=by
  have hsub:∀ p∈ps,p < n:=fun p hp=>by
   have:=Nat.le_of_dvd (by omega) (ps1 p hp).2.1;omega
  have hnd:ps.Nodup:=hps ▸ ps2
  have:ps.length≤n:=by
   refine Nat.le_of_not_lt fun hc=>?_
   have hp:=perm_of_sub (M:=ps.map fun p:Nat=>(p:Int)) (L:=(List.range n).map fun p:Nat=>(p:Int)) (by
    rw [List.Nodup,List.pairwise_map]
    exact hnd.imp fun h e=>h (by omega)) (fun x hx=>by
    obtain ⟨p,hp,rfl⟩:=List.mem_map.1 hx
    exact List.mem_map.2 ⟨p,List.mem_range.2 (hsub p hp),rfl⟩) (by simp;omega)
   have:=hp.length_eq
   simp at this;omega
  omega
 have hg103:∀ g:Nat,(g:Int) < n→PureC Tryz.prog 180 [.sl (natV ps) ps.length,.clo (.func 181) [] [.fp [modV n] 0,.fp [.int .i64 (g:Int)] 0,.fp [.fp (fldC n 0 mdV) 0] 0]] (fun r=>r = .bool ((ps.map fun p:Nat=>(p:Int)).any fun p=>decide ((g:Int) ^ (((n:Int) - 1) / p).toNat % n = 1))):=fun g hg =>
  k180 (V.int .i64) (ps.map fun p : Nat => (p : Int)) ps.length (by simp) (by simpa using hlt) 181 [.fp [modV n] 0, .fp [.int .i64 (g : Int)] 0, .fp [.fp (fldC n 0 mdV) 0] 0] (fun p => decide ((g : Int) ^ (((n : Int) - 1) / p).toNat % n = 1)) (fun _ => rfl) (by simp [V.atom]) (fun p hp => by
   obtain ⟨q,hq,rfl⟩:=List.mem_map.1 hp
   have h1:=ps1 q hq
   have h2:=Nat.le_of_dvd (by omega) h1.2.1
   exact k181 n q g 0 (by omega) (by omega) (by omega))
 have hval:∀ g:Nat,((ps.map fun p:Nat=>(p:Int)).any fun p=>decide ((g:Int) ^ (((n:Int) - 1) / p).toNat % n = 1)) = decide (¬ ∀ p∈ps,(g:Int) ^ ((n - 1) / p) % n≠1):=fun g=>by
  rw [Bool.eq_iff_iff,List.any_eq_true,decide_eq_true_eq]
  have e:∀ q:Nat,(((n:Int) - 1) / (q:Int)).toNat = (n - 1) / q:=fun q=>by
   rw [show (n:Int) - 1 = ((n - 1:Nat):Int) by omega,← Int.natCast_ediv,Int.toNat_natCast]
  constructor
  ·rintro ⟨p,hp,hd⟩ hall
   obtain ⟨q,hq,rfl⟩:=List.mem_map.1 hp
   rw [decide_eq_true_eq,e] at hd
   exact hall q hq hd
  ·intro hn
   refine Classical.byContradiction fun hc=>hn fun p hp hd=>hc ⟨(p:Int),List.mem_map.2 ⟨p,hp,rfl⟩,?_⟩
   rw [decide_eq_true_eq,e];exact hd
 refine refC_of_wp (c:=c143) mixed ok143 rfl ?_
 unfold c143 hpF
 dsimp only [argE]
 refine W.run ?_
 refine W.lp (fun z:Nat × Nat=>[(2,.ptr top 0 0),(3,.ptr (top+8) 0 0),(5,.sl (natV ps) ps.length),(6,.ptr z.2 0 0)]) (fun z=>((((((Hp.put (fun _=>none) o { cells:=[modV n,.int .i64 (n:Int),.int .i64 (n:Int),.int .i64 1,.ref om 0 0 2,.int .i64 0],sz:=6 }).put mx { cells:=[.int .i64 (n:Int)],sz:=1 }).put om { cells:=[.int .i64 0,.int .i64 1],sz:=1 }).put top { cells:=[.ptr o 0 0],sz:=1 }).put (top+8) { cells:=[modV n],sz:=1 }).put z.2 { cells:=[.int .i64 (z.1:Int)],sz:=1 }))
  (fun z=>(1≤z.1∧z.1≤g0)∧top+8 < z.2) (fun z=>g0 - z.1) (1,top+80) rfl (HS.refl _) ⟨by dsimp only;omega,by dsimp only;omega⟩ ?_
 rintro ⟨g,og⟩ nx ⟨hg,hog⟩ hnx
 dsimp only at hg hog ⊢
 have c2:=hg103 g (by omega)
 rw [hval g] at c2
 by_cases hgg:g = g0
 ·subst hgg
  rw [decide_eq_false (by intro h;exact h hg3)] at c2
  clear hg103 hval hmin hex
  unfold fldC at c2
  refine W.run ?_
  exact W.retR rfl (HS.skip (HS.skip (HS.skip (HS.refl _) (by simp only [Hp.put];repeat (rw [if_neg (by omega)])) _) (by simp only [Hp.put];repeat (rw [if_neg (by omega)])) _) (by simp only [Hp.put];repeat (rw [if_neg (by omega)])) _) ⟨rfl,rfl⟩
 ·have hbad:¬ ∀ p∈ps,(g:Int) ^ ((n - 1) / p) % n≠1:=fun hall=>by
   have:=hmin g ⟨hg.1,by omega,by rw [← hps];exact hall⟩
   omega
  rw [decide_eq_true hbad] at c2
  clear hg103 hval hmin hex hbad hg3
  unfold fldC at c2
  refine W.run ?_
  exact W.kl (g+1,nx+40) rfl (HS.put rfl (HS.skip (HS.refl _) (by simp only [Hp.put];repeat (rw [if_neg (by omega)])) _)) (by omega) ⟨by dsimp only;omega,by dsimp only;omega⟩ (by dsimp only;omega)
set_option maxRecDepth 10000 in
set_option maxHeartbeats 1000000 in
theorem k97 (P:Int) (hP:3≤P∧P≤65521) (pP:PrimeI P):∃ g:Int,(1≤g∧g < P)∧PureC Tryz.prog 97 [.int .i64 P] (fun r=>r = .tup [fieldV P g,.int .i64 0]):=by
 obtain ⟨n,rfl⟩:∃ n:Nat,P = (n:Int):=⟨P.toNat,by omega⟩
 have c1:=k142 n (by omega)
 rw [primesL_prime pP.n] at c1
 simp only [natV,List.map_cons,List.map_nil,List.length_cons,List.length_nil] at c1
 obtain ⟨g,hg,hfirst⟩:=k143 n (by omega) pP
 refine ⟨g,hg,?_⟩
 refine pureC_of_wp (.l [.x,.x]) mixed ok97 rfl ?_
 unfold c97
 dsimp only [argE]
 refine W.run ?_
 refine W.lp (fun i:Nat × Int=>[(0,.int .i64 (n:Int)),(5,.ptr 152 0 0),(6,.int .i64 i.2)]) (fun i=>Hp.put (fun _=>none) 152 { cells:=[.nili,.int .i64 (n:Int),.int .i64 (n:Int),.int .i64 (i.1:Int),.nils,.int .i64 0],sz:=6 })
  (fun i=>i = (0,(n:Int))∨i = (1,1)) (fun i=>1 - i.1) (0,(n:Int)) rfl (HS.refl _) (.inl rfl) ?_
 rintro ⟨d,k⟩ nx hdk hnx
 rcases hdk with h | h
 ·simp only [Prod.mk.injEq] at h
  obtain ⟨rfl,rfl⟩:=h
  have e1:(n:Int) / n = 1:=Int.ediv_self (by omega)
  refine W.run ?_
  exact W.kl (1,(n:Int) / n) rfl (HS.refl _) (by omega) (.inr (by rw [e1])) (by dsimp only;omega)
 ·simp only [Prod.mk.injEq] at h
  obtain ⟨rfl,rfl⟩:=h
  rw [show ((1:Nat):Int) = 1 from rfl]
  refine W.run ?_
  refine W.refR (hfirst 152 (nx+56) (nx+144) _ (by omega) _) ⟨_,_,_,⟨rfl,rfl⟩,Nat.le_refl _,fun _ _ h=>h⟩ ?_
  rintro r H' t ⟨rfl,rfl⟩ ht _
  unfold hpF
  refine W.run ?_
  rfl
theorem zeros_map (n:Nat):zerosV [V.int .i64 0] n = (List.replicate n (0:Int)).map (V.int .i64):=by
 induction n with
 | zero=>rfl
 | succ n ih=>rw [zerosV,ih];rfl
abbrev slI (A:List Int):V:=.sl (A.map (V.int .i64)) A.length
set_option maxRecDepth 10000 in
theorem k208 (A:List Int) (hA:A.length < 2 ^ 40):PureC Tryz.prog 208 [slI A] (fun r=>r = slI (trimI A)):=by
 refine pureC_of_wp .x mixed ok208 rfl ?_
 unfold c208
 dsimp only [argE]
 refine W.run ?_
 refine W.lp (fun n:Nat=>[(0,slI A),(3,.int .i64 (n:Int))]) (fun _ _=>none)
  (fun n=>n≤A.length∧∀ i,n≤i→(h:i < A.length)→A[i] = 0) (fun n=>n) A.length rfl (HS.refl _) ⟨by omega,fun i h1 h2=>by omega⟩ ?_
 rintro n nx ⟨hn,hz⟩ hnx
 have fin:(0 < n→(h:n - 1 < A.length)→A[n - 1]≠0)→trimI A = A.take n∧(trimI A).length = n:=fun h1=>by
  have:=trimI_take hn hz h1
  exact ⟨this,by rw [this];simp;omega⟩
 by_cases h0:0 < n
 ·have hidx : ((n : Int) - 1).toNat = n - 1 := by omega
  have hl:((n:Int) - 1).toNat < A.length:=by omega
  by_cases he:A[((n:Int) - 1).toNat] = 0
  ·refine W.run ?_
   refine W.kl (n - 1) (by rw [show ((n:Int) - 1) = ((n - 1:Nat):Int) by omega];rfl) (HS.refl _) (by omega) ⟨by omega,fun i h1 h2=>?_⟩ (by omega)
   by_cases hi:i = n - 1
   ·subst hi
    simp only [hidx] at he;exact he
   ·exact hz i (by omega) h2
  ·obtain ⟨f1, f2⟩ := fin (fun _ _ => by simp only [hidx] at he; exact he)
   refine W.run ?_
   show _ = V.sl ((trimI A).map (V.int .i64)) (trimI A).length
   rw [f2,f1]
 ·obtain ⟨f1,f2⟩:=fin (fun h=>absurd h h0)
  have:n = 0:=by omega
  subst this
  refine W.run ?_
  show _ = V.sl ((trimI A).map (V.int .i64)) (trimI A).length
  rw [f2,f1];rfl
set_option maxRecDepth 10000 in
theorem k204 (P x : Int) (hP : 3 ≤ P ∧ P < 2 ^ 31) (A : List Int) (hA : A.length < 2 ^ 40) (hr : InF P A) (hx : 0 ≤ x ∧ x < P) (pv : V) (hpv : pv = slI A ∨ (pv = .nils ∧ A = [])) : PureC Tryz.prog 204 [pv, .int .i64 x, .int .i64 0, .clo (.method "dauber/field.sum") [modV P] [], .clo (.method "dauber/field.product") [modV P] []] (fun r => r = .int .i64 (valM P x A)) := by
 have m1:=mt1
 have m2:=mt2
 rcases hpv with rfl | ⟨rfl,rfl⟩
 ·refine pureC_of_wp .x mixed ok204 rfl ?_
  unfold c204
  dsimp only [argE]
  refine W.run ?_
  refine W.lp (fun y : Int × Int => [(0, slI A), (1, .int .i64 x), (3, .clo (.method "dauber/field.sum") [modV P] []), (4, .clo (.method "dauber/field.product") [modV P] []), (11, .int .i64 y.2), (12, .int .i64 y.1)]) (fun _ _ => none)
   (fun y=>(-1≤y.1∧y.1 < A.length)∧(0≤y.2∧y.2 < P)∧y.2 = valM P x (A.drop (y.1+1).toNat)) (fun y=>(y.1+1).toNat) ((A.length:Int) - 1,0) rfl (HS.refl _) ?_ ?_
  ·refine ⟨by dsimp only; omega, by dsimp only; omega, ?_⟩
   dsimp only
   rw [show ((A.length:Int) - 1+1).toNat = A.length by omega,List.drop_length];rfl
  rintro ⟨i,out⟩ nx ⟨⟨h1,h2⟩,h3,h4⟩ hnx
  dsimp only at h1 h2 h3 h4 ⊢
  by_cases hi:0≤i
  ·have hlt : i.toNat < A.length := by omega
   have ha:=hr A[i.toNat] (List.getElem_mem hlt)
   have c1:=k271 P out x (by omega) h3 hx
   have c2:=k272 P (out * x % P) A[i.toNat] (by omega) (emod_rng (by omega)) ha
   refine W.run ?_
   refine W.kl (i - 1,_) rfl (HS.refl _) (by omega) ⟨by dsimp only;omega,emod_rng (by omega),?_⟩ (by dsimp only;omega)
   dsimp only
   rw [show (i - 1+1).toNat = i.toNat by omega,List.drop_eq_getElem_cons hlt,h4,show (i+1).toNat = i.toNat+1 by omega]
   show _ = (valM P x (A.drop (i.toNat+1)) * (x % P) % P+A[i.toNat]) % P
   rw [Int.emod_eq_of_lt hx.1 hx.2]
  ·rw [show (i + 1).toNat = 0 by omega] at h4
   refine W.run ?_
   rw [h4];rfl
 ·refine pureC_of_wp .x mixed ok204 rfl ?_
  unfold c204
  dsimp only [argE]
  refine W.run ?_
  refine W.lp (fun _ : Unit => [(0, .nils), (1, .int .i64 x), (3, .clo (.method "dauber/field.sum") [modV P] []), (4, .clo (.method "dauber/field.product") [modV P] []), (11, .int .i64 0), (12, .int .i64 (-1))]) (fun _ _ => none) (fun _ => True) (fun _ => 0) () rfl (HS.refl _) trivial ?_
  rintro _ nx _ hnx
  refine W.run ?_
  rfl
theorem k178 (P x g:Int) (hP:3≤P∧P < 2 ^ 31) (A:List Int) (hA:A.length < 2 ^ 40) (hr:InF P A) (hx:0≤x∧x < P) (pv:V) (hpv:pv = slI A∨(pv = .nils∧A = [])):PureC Tryz.prog 178 [fieldV P g,pv,.int .i64 x] (fun r=>r = .int .i64 (valM P x A)):=by
 have c1:=k204 P x hP A hA hr hx pv hpv
 have hat:pv.atom = true:=by rcases hpv with rfl | ⟨rfl,_⟩ <;> rfl
 refine pureC_of_wp .x mixed ok178 rfl ?_
 unfold c178
 dsimp only [argE,fieldV,fldC]
 refine W.run ?_
 rfl
set_option maxRecDepth 10000 in
set_option maxHeartbeats 1000000 in
theorem k190 (P c g:Int) (hP:3≤P∧P < 2 ^ 31) (A B:List Int) (hA:A.length < 2 ^ 30) (hB:B.length < 2 ^ 30) (hrA:InF P A) (hrB:InF P B) (hc:0≤c∧c < P) (pv:V) (hpv:pv = slI A∨(pv = .nils∧A = [])):PureC Tryz.prog 190 [fieldV P g,pv,.int .i64 c,slI B] (fun r=>r = slI (plusF P A c B)):=by
 have m1:=mt1
 have m2:=mt2
 obtain ⟨n,hn,hn1,hn2,hn3⟩:∃ n:Nat,(if (A.length:Int) < (B.length:Int) then (B.length:Int) else (A.length:Int)) = (n:Int)∧n = max A.length B.length∧A.length≤n∧B.length≤n:=⟨max A.length B.length,by omega,rfl,by omega,by omega⟩
 refine pureC_of_wp .x mixed ok190 rfl ?_
 unfold c190
 dsimp only [argE,fieldV,fldC]
 have hn':(if (B.length:Int) > (A.length:Int) then (B.length:Int) else (A.length:Int)).toNat = n:=by omega
 obtain ⟨pad,hpad⟩:∃ pad,pad = A++List.replicate (n - A.length) 0:=⟨_,rfl⟩
 have hpl:pad.length = n:=by rw [hpad];simp;omega
 have hpr:InF P pad:=fun a ha=>by
  rw [hpad] at ha
  rcases List.mem_append.1 ha with h1 | h1
  ·exact hrA a h1
  ·exact InF.rep (by omega) _ a h1
 have hres:plusF P A c B = trimI (addF P c pad B):=by unfold plusF;rw [← hn1,← hpad]
 rw [hres]
 have hst:∀ i,i≤B.length→(addF P c pad (B.take i)).length = n∧InF P (addF P c pad (B.take i)):=fun i hi=>⟨by rw [addF_len,hpl];simp;omega,addF_in (by omega) hpr⟩
 rcases hpv with rfl | ⟨rfl,hA0⟩
 case' inl =>
  refine W.run ?_
  rw [hn',zeros_map]
  refine W.run ?_
  have e1:List.map (V.int .i64) A++List.map (V.int .i64) (List.drop (min A.length n) (List.replicate n 0)) = pad.map (V.int .i64):=by
   rw [← List.map_append,hpad,List.drop_replicate,show min A.length n = A.length by omega]
  rw [e1]
 case' inr =>
  have hn'':(if (B.length:Int) > ((0:Nat):Int) then (B.length:Int) else ((0:Nat):Int)).toNat = n:=by subst hA0;exact hn'
  refine W.run ?_
  rw [hn'',zeros_map]
  refine W.run ?_
  have e1:List.map (V.int .i64) (List.drop (min 0 n) (List.replicate n 0)) = pad.map (V.int .i64):=by
   rw [hpad,hA0,List.drop_replicate];simp
  rw [e1]
 all_goals
  refine W.lp (fun i:Nat=>[(0,fieldV P g),(2,.int .i64 c),(9,.ref 48 0 0 n),(21,slI B),(22,.int .i64 (B.length:Int)),(23,.int .i64 (i:Int))]) (fun i=>Hp.put (fun _=>none) 48 { cells:=(addF P c pad (B.take i)).map (V.int .i64),sz:=1 })
   (fun i=>i≤B.length) (fun i=>B.length - i) 0 rfl (HS.put (by cases pad <;> rfl) (HS.refl _)) (by omega) ?_
  rintro i nx hi hnx
  obtain ⟨l1,r1⟩:=hst i hi
  dsimp only [fieldV,fldC]
  by_cases hlt:i < B.length
  ·have hb:=hrB B[i] (List.getElem_mem hlt)
   have hs:=addF_step (P:=P) (c:=c) (p:=pad) hlt (by omega)
   obtain ⟨C,hC⟩:∃ C,addF P c pad (B.take i) = C:=⟨_,rfl⟩
   rw [hC] at l1 r1 hs ⊢
   rw [List.getD_eq_getElem?_getD,List.getElem?_eq_getElem (by omega),Option.getD_some] at hs
   have hCi:=r1 (C[i]'(by omega)) (List.getElem_mem _)
   have c1:=k271 P c B[i] (by omega) hc hb
   have c2:=k272 P (C[i]'(by omega)) (c * B[i] % P) (by omega) hCi (emod_rng (by omega))
   refine W.run ?_
   refine W.kl (i+1) rfl (HS.put ?_ (HS.refl _)) (by omega) (by omega) (by omega)
   rw [hs,List.set_eq_take_append_cons_drop,if_pos (by omega)];simp
  ·have : i = B.length := by omega
   subst this
   rw [List.take_length] at l1 r1 ⊢
   have c3:=k208 (addF P c pad B) (by omega)
   have c4:PureC Tryz.prog 208 [.sl ((addF P c pad B).map (V.int .i64)) n] (fun r=>r = slI (trimI (addF P c pad B))):=by rw [← l1];exact c3
   refine W.run ?_
   rfl
end Go.Dp
