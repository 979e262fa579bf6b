import Derived.Test.YtlbjgnkjicifhaaGreatDwQ0
import Derived.Test.YtlbjgnkjicifhaaGreatDwQ1
import Derived.Test.YtlbjgnkjicifhaaGreatDpWk
import Derived.Test.YtlbjgnkjicifhaaGreatDsF4
import Derived.Test.YtlbjgnkjicifhaaGreatDwJ4
import Derived.Test.YtlbjgnkjicifhaaGreatDwJ10
import Derived.Test.YtlbjgnkjicifhaaGreatDwE8
namespace Go.Dp
open Go.RowKit Go.Proofs
attribute [local irreducible] wp wpOps wpOp1 CallW CallT kSeq kBlk kLoop kReg retP retR kAsg kRound kRf kCut kItr kItr2
set_option linter.unusedVariables false
set_option linter.unusedSimpArgs false
theorem k16 (R P G H B K:Int):PureC Tryz.prog 16 [cfgV R P G H B K] (fun r=>r = cfgV R P G H B K):=by
 refine pureC_of_wp .x mixed ok16 rfl ?_
 unfold c16
 rw [rep6]
 dsimp only [argE,cfgV]
 refine W.run ?_
 rfl
def NoD (c:Cf) (b:Brd):Prop:=∀ h,∀ x∈b.d,qDeal c h x = false
section
variable {c:Cf} {b:Brd} (hd:NoD c b)
include hd
end
end Go.Dp
namespace Go.Dp
open Go.RowKit Go.Proofs
attribute [local irreducible] wp wpOps wpOp1 CallW CallT kSeq kBlk kLoop kReg retP retR kAsg kRound kRf kCut kItr kItr2
set_option linter.unusedVariables false
set_option linter.unusedSimpArgs false
theorem k83 (A B:List Int) (hA:A.length < 2 ^ 40) (hB:B.length < 2 ^ 40):PureC Tryz.prog 83 [slI A,slI B] (fun r=>r = .bool (decide (A = B))):=by
 refine pureC_of_wp .x mixed ok83 rfl ?_
 unfold c83
 dsimp only [argE]
 by_cases hl:A.length = B.length
 case neg =>
  rw [decide_eq_false (fun e=>hl (by rw [e]))]
  refine W.run ?_
  rfl
 refine W.run ?_
 refine W.lp (fun j:Nat=>[(0,slI A),(1,slI B),(5,.int .i64 (j:Int))]) (fun _ _=>none) (fun j=>j≤A.length∧∀ k (hA:k < A.length) (hB:k < B.length),k < j→A[k] = B[k]) (fun j=>A.length - j) 0 rfl (HS.emp _) ⟨by omega,by omega⟩ ?_
 rintro j nx ⟨h1,h2⟩ hnx
 by_cases hj:j < A.length
 ·have hj2 : j < B.length := by omega
  by_cases he:A[j] = B[j]
  ·have h3:∀ k (hA:k < A.length) (hB:k < B.length),k < j+1→A[k] = B[k]:=fun k hk1 hk2 hk3=>by
    by_cases e:k = j
    ·subst e;exact he
    ·exact h2 k hk1 hk2 (by omega)
   clear h2
   refine W.run ?_
   exact W.kl (j+1) rfl (HS.refl _) (by omega) ⟨by omega,h3⟩ (by omega)
  ·rw [decide_eq_false (take_ne hj hj2 he)]
   clear h2
   refine W.run ?_
   rfl
 ·have hj2 : j = A.length := by omega
  subst hj2
  have:A = B:=take_all hl fun k hk1 hk2=>h2 k hk1 hk2 hk1
  rw [decide_eq_true this]
  clear h2 this
  refine W.run ?_
  rfl
def cutL (x:Ln):Ln:=⟨x.hall,x.kind,x.other,x.nums.take 64⟩
def cutS (m:Nat) (l:List Ln):List Ln:=(l.take m).map cutL
def cutB (m:Nat) (b:Brd):Brd:=⟨cutS m b.d,cutS m b.c,cutS m b.a,cutS m b.r⟩
set_option maxHeartbeats 2000000 in
theorem k14 (x:Ln) (hx:x.nums.length < 2 ^ 63):PureC Tryz.prog 14 [.agg (lnK x)] (fun r=>r = .agg (lnK (cutL x))):=by
 refine pureC_of_wp .x mixed ok14 rfl ?_
 unfold c14 cutL
 dsimp only [argE,lnK]
 obtain ⟨hall,kind,other,A⟩:=x
 dsimp only at hx ⊢
 generalize h64:(64:Int) = n64
 obtain ⟨m,rfl⟩:∃ m:Nat,n64 = m:=⟨n64.toNat,by omega⟩
 have hm:64 = m:=by omega
 rw [hm]
 have hmb:m < 100:=by omega
 clear hm h64
 have hl:(A.take m).length = min m A.length:=List.length_take
 by_cases h:A.length≤m
 ·have e:A.take m = A:=List.take_of_length_le h
  rw [e]
  clear hl e
  refine W.run ?_
  rfl
 ·have e : (A.take m).length = m := by omega
  clear hl
  refine W.run ?_
  show _ = V.agg [.int .i64 hall,.int .i64 kind,.int .i64 other,.sl ((A.take m).map (V.int .i64)) (A.take m).length]
  rw [e]
theorem cutS_len (m:Nat) (l:List Ln):(cutS m l).length = min m l.length:=by simp [cutS]
theorem cutS_succ {l:List Ln} {i:Nat} (hi:i < l.length):cutS (i+1) l = cutS i l++[cutL l[i]]:=by
 unfold cutS;rw [← List.take_append_getElem hi,List.map_append];rfl
theorem linC_snoc (l:List Ln) (x:Ln):linC (l++[x]) = linC l++lnK x:=by rw [linC_app];simp [linC]
theorem linC_atoms (l:List Ln):∀ v∈linC l,v.atom = true:=by
 rw [linC_lnsC]
 exact lnsC_atoms _ fun p hp=>by
  obtain ⟨x,_,rfl⟩:=List.mem_map.1 hp;rfl
set_option maxRecDepth 10000 in
set_option maxHeartbeats 2000000 in
theorem k50 (l:List Ln) (hl:l.length < 2 ^ 63) (hx:∀ x∈l,x.nums.length < 2 ^ 63) (m:Nat) (hm:m≤1000):PureC Tryz.prog 50 [linV l,.int .i64 (m:Int)] (fun r=>r = .tup [linV (cutS m l),linV (cutS m l)]):=by
 have c1:=fun i (hi:i < l.length)=>k14 l[i] (hx _ (List.getElem_mem hi))
 have hcl:=cutS_len m l
 refine pureC_of_wp (.l [.x,.x]) mixed ok50 rfl ?_
 unfold c50
 dsimp only [argE]
 refine W.run ?_
 refine W.lp (fun i:Nat=>[(0,linV l),(1,.int .i64 (m:Int)),(6,.ref 16 i 0 i),(7,.ref 24 i 0 i),(8,.int .i64 (i:Int))]) (fun i=>(Hp.put (fun _=>none) 16 { cells:=linC (cutS i l),sz:=4,ver:=i,nl:=if i = 0 then 1 else 0 }).put 24 { cells:=linC (cutS i l),sz:=4,ver:=i,nl:=if i = 0 then 1 else 0 }) (fun i=>i≤l.length∧i≤m) (fun i=>l.length - i) 0 rfl (HS.refl _) ⟨by omega,by omega⟩ ?_
 rintro i nx ⟨h1,h2⟩ hnx
 have hci:(cutS i l).length = i:=by rw [cutS_len];omega
 have hcc:=linC_len (cutS i l)
 have hca:=linC_atoms (cutS i l)
 by_cases hi:i < l.length∧i < m
 ·obtain ⟨hi1,hi2⟩:=hi
  have c2:=c1 i hi1
  have hsu:=cutS_succ hi1
  clear c1
  generalize cutS i l = L at hci hcc hca hsu ⊢
  refine W.run ?_
  refine W.kl (i+1) ?_ ?_ (by omega) ⟨by omega,by omega⟩ (by omega)
  ·rfl
  ·rw [hsu, linC_snoc, if_neg (by omega)]
   exact HS.skip (HS.skip (HS.skip (HS.refl _) (by simp only [Hp.put];repeat (rw [if_neg (by omega)])) _) (by simp only [Hp.put];repeat (rw [if_neg (by omega)])) _) (by simp only [Hp.put];repeat (rw [if_neg (by omega)])) _
 ·have hi2:cutS m l = cutS i l:=by
   unfold cutS
   by_cases h:i < m
   ·have e : i = l.length := by omega
    rw [List.take_of_length_le (by omega),List.take_of_length_le (by omega)]
   ·have e : i = m := by omega
    rw [e]
  rw [hi2]
  generalize cutS i l = L at hci hcc hca ⊢
  clear c1
  subst hci
  by_cases h:L.length < l.length
  ·refine W.run ?_
   rfl
  ·refine W.run ?_
   rfl
theorem k13 (b:Brd) (hb:∀ k,k < 4→(b.at k).length < 2 ^ 63∧∀ x∈b.at k,x.nums.length < 2 ^ 63) (m:Nat) (hm:m≤1000):PureC Tryz.prog 13 [bdV b,.int .i64 (m:Int)] (fun r=>r = .tup [bdV (cutB m b),bdV (cutB m b)]):=by
 have c1:=k50 b.d (hb 0 (by omega)).1 (hb 0 (by omega)).2 m hm
 have c2:=k50 b.c (hb 1 (by omega)).1 (hb 1 (by omega)).2 m hm
 have c3:=k50 b.a (hb 2 (by omega)).1 (hb 2 (by omega)).2 m hm
 have c4:=k50 b.r (hb 3 (by omega)).1 (hb 3 (by omega)).2 m hm
 refine pureC_of_wp (.l [.x,.x]) mixed ok13 rfl ?_
 unfold c13
 dsimp only [argE,bdV]
 refine W.run ?_
 rfl
theorem k33s (c:Cf) (hc:c.Ok) (b:Brd) (hb:b.Ok) (hf:b.fits 400 = true):PureC Tryz.prog 33 [c.v,bdV b] (fun r=>r = .tup [.sl (gC (guiltM c b)) (guiltM c b).length,.int .i64 0]):=by
 have h:=k33 c hc b hb
 rw [hf,if_pos rfl] at h
 refine h.weakR ?_
 unfold gV
 split
 ·rename_i h0
  rw [List.length_eq_zero_iff.1 h0]
  exact VO.tup (.cons .nils (.cons (.refl _) .nil)) (.cons .nils (.cons (.refl _) .nil))
 ·exact .refl _
theorem gC_get:∀ {l:List G3} {i:Nat} (h:i < l.length),((gC l).drop (i * 3)).take 3 = [.int .i64 l[i].1,.int .i64 l[i].2.1,.int .i64 l[i].2.2]
 | p::l,0,h=>by simp [gC]
 | p::l,i+1,h=>by
  have:=gC_get (l:=l) (i:=i) (by simpa using h)
  rw [show (i+1) * 3 = 3+i * 3 by omega,← List.drop_drop]
  simpa [gC] using this
@[go_sem] theorem gC_get' {l:List G3} {i:Nat} (h:i < l.length):List.take 3 (List.drop (i * 3) (gC l)) = [.int .i64 l[i].1,.int .i64 l[i].2.1,.int .i64 l[i].2.2]:=gC_get h
theorem isIn_hall {c:Cf} {b:Brd} {h:Int} (e:isInM c b h = true):isHallB c.H h = true:=by
 obtain ⟨A,hA⟩:=isIn_deal e
 unfold Brd.deal dealL at hA
 cases hf:b.d.find? (qDeal c h) with
 | none=>rw [hf] at hA;cases hA
 | some x =>
  have h1:=List.find?_some hf
  simp only [qDeal,Bool.and_eq_true,decide_eq_true_eq] at h1
  have:=cntB_hall h1.1
  simp [isHallB];omega
set_option maxRecDepth 10000 in
set_option maxHeartbeats 4000000 in
theorem k34 (c:Cf) (hc:c.Ok) (b:Brd) (hb:b.Ok) (hf:b.fits 400 = true):PureC Tryz.prog 34 [c.v,bdV b,bdV b] (fun r=>r = .bool true):=by
 have hr:=hc.rng
 have hP:=hc.1.hP
 have hal:(b.a.length:Int)≤400:=fits_len hf 2
 have hrl:(b.r.length:Int)≤400:=fits_len hf 3
 have c1:=k16 c.R c.P c.G c.H c.B c.K
 have c2:=k37 c hc b hb
 have c3:=k32 c hc b hb
 have c4:=k33s c hc b hb hf
 have c5:=k24 c hc b hb
 have c6:=k31 c hc b hb
 rw [hf,if_pos rfl] at c2 c3 c5 c6
 have c7:=k84 c hc b hb false
 have c8:=k84 c hc b hb true
 simp only [if_true,Bool.false_eq_true,if_false] at c7 c8
 have l1:=hallsL_len hc (fun h=>(b.deal c h).isSome)
 have l2:=hallsL_len hc (isInM c b)
 have c9:=k83 (hallsL c fun h=>(b.deal c h).isSome) (hallsL c fun h=>(b.deal c h).isSome) (by omega) (by omega)
 have cA:=k83 (hallsL c (isInM c b)) (hallsL c (isInM c b)) (by omega) (by omega)
 rw [decide_eq_true rfl] at c9 cA
 have cB:=k85 c hc b hb (by omega) (by omega)
 have cC:=k86 c hc b hb
 have cD:=fun h=>k38 c hc b hb h
 have cE:=fun h=>k87 c hc b hb h
 rw [hf] at cD
 have hsr:=sumM_rng hc b
 have hK:=hc.2.2.2
 have hgl:=gC_len (guiltM c b)
 have hgm:(guiltM c b).length < 2 ^ 40:=by
  have l1:=upH_len (f:=g1 c b) (m:=1) (fun k=>by unfold g1;split <;> simp) c.H.toNat
  have l2:=upH_len (f:=g2 c b) (m:=1) (fun k=>by unfold g2;split <;> simp) c.H.toNat
  have l3:=upH_len (f:=fun h=>upH (g3k c b h) c.H.toNat) (m:=16) (fun h=>by have:=upH_len (f:=g3k c b h) (m:=1) (fun k=>by unfold g3k;split <;> simp) c.H.toNat;omega) c.H.toNat
  have l4:=upH_len (f:=fun h=>idxG (f4 c b h) 0 b.a) (m:=400) (fun h=>by have:=idxG_len (f:=f4 c b h) (fun i x=>by unfold f4;split <;> simp) 0 b.a;omega) c.H.toNat
  have l5:=upH_len (f:=fun h=>idxG (f5 c b h) 0 b.r) (m:=400) (fun h=>by have:=idxG_len (f:=f5 c b h) (fun i x=>by unfold f5;split <;> simp) 0 b.r;omega) c.H.toNat
  have e1:=upH_all c (g1 c b)
  have e2:=upH_all c (g2 c b)
  have e3:=up3 c b
  have e4:=up4 c b
  have e5:upH (fun h=>idxG (f5 c b h) 0 b.r) c.H.toNat = (allH c).flatMap (g5 c b):=upH_all c _
  have hE:guiltM c b = upH (g1 c b) c.H.toNat++upH (g2 c b) c.H.toNat++upH (fun h=>upH (g3k c b h) c.H.toNat) c.H.toNat++upH (fun h=>idxG (f4 c b h) 0 b.a) c.H.toNat++upH (fun h=>idxG (f5 c b h) 0 b.r) c.H.toNat:=by
   rw [e1,e2,e3,e4,e5];rfl
  rw [hE]
  simp only [List.length_append]
  omega
 have hsec:∀ h,secR c b h = if isInM c b h = true then (match secM c b h with | some n=>(n,(0:Int)) | none=>(0,4)) else (0,4):=fun h=>by
  unfold secR
  cases hi:isInM c b h
  ·rw [Bool.and_false];rfl
  ·rw [isIn_hall hi,Bool.and_true];rfl
 clear hc hb
 generalize (hallsL c fun h=>(b.deal c h).isSome) = L1 at c2 c7 c9 l1
 change PureC Tryz.prog 84 [c.v,bdV b,.bool true] (fun r=>r = slI (hallsL c (isInM c b))) at c8
 generalize (hallsL c (isInM c b)) = L2 at c3 c8 cA l2
 generalize guiltM c b = G at c4 cB hgl hgm
 have hq:sumQ c b = if (sumM c b).2 then ((sumM c b).1,0) else (0,4):=rfl
 have hb:ballR c b = if (sumM c b).2 then (1+(sumM c b).1 % c.K,0) else (0,4):=rfl
 rw [hq] at c5
 rw [hb] at c6
 clear hq hb
 generalize (sumM c b).1 = S at c5 c6 cC hsr
 have hmd:=emod_rng (a:=S) (P:=c.K) (by omega)
 have hsec':∀ k,PureC Tryz.prog 38 [c.v,bdV b,.int .i64 k] (fun r=>r = if isInM c b k = true then (match secM c b k with | some n=>.tup [.int .i64 n,.int .i64 0] | none=>.tup [.int .i64 0,.int .i64 4]) else .tup [.int .i64 0,.int .i64 4]):=fun k=>by
  have:=cD k
  rw [if_pos rfl,hsec k] at this
  cases hi:isInM c b k
  ·rw [hi, if_neg (by simp)] at this
   rw [if_neg (by simp)];exact this
  ·rw [hi,if_pos rfl] at this
   rw [if_pos rfl]
   cases hs:secM c b k with
   | none=>rw [hs] at this;exact this
   | some n=>rw [hs] at this;exact this
 clear cD hsec
 cases hT:(sumM c b).2
 all_goals
  rw [hT] at c5 c6 cC
  simp only [if_true,Bool.false_eq_true,if_false] at c5 c6
  refine pureC_of_wp .x mixed ok34 rfl ?_
  unfold c34
  rw [rep6]
  dsimp only [argE,Cf.v,cfgV,bdV]
  refine W.run ?_
  refine W.lp (fun i:Nat=>[(3,.ptr 0 0 0),(4,.ptr 8 0 0),(5,.ptr 16 0 0),(7,.ptr 48 0 0),(12,.sl (gC G) G.length),(14,_),(15,_),(16,_),(17,_),(18,.sl (gC G) G.length),(19,.int .i64 (i:Int))]) (fun _=>(((Hp.put (fun _=>none) 0 { cells:=[.int .i64 c.R,.int .i64 c.P,.int .i64 c.G,.int .i64 c.H,.int .i64 c.B,.int .i64 c.K],sz:=6 }).put 8 { cells:=[linV b.d,linV b.c,linV b.a,linV b.r],sz:=4 }).put 16 { cells:=[linV b.d,linV b.c,linV b.a,linV b.r],sz:=4 }).put 48 { cells:=[.int .i64 c.R,.int .i64 c.P,.int .i64 c.G,.int .i64 c.H,.int .i64 c.B,.int .i64 c.K],sz:=6 }) (fun i=>i≤G.length) (fun i=>G.length - i) 0 rfl (HS.refl _) (by omega) ?_
  rintro i nx h1 hnx
  by_cases hi:i < G.length
  ·clear hsec' cE
   refine W.run ?_
   exact W.kl (i+1) rfl (HS.refl _) (by omega) (by omega) (by omega)
  ·have hi2 : i = G.length := by omega
   subst hi2
   refine W.run ?_
   refine W.lp (fun k:Nat=>[(3,.ptr 0 0 0),(4,.ptr 8 0 0),(5,.ptr 16 0 0),(7,.ptr 48 0 0),(22,.int .i64 (k:Int))]) (fun _=>(((Hp.put (fun _=>none) 0 { cells:=[.int .i64 c.R,.int .i64 c.P,.int .i64 c.G,.int .i64 c.H,.int .i64 c.B,.int .i64 c.K],sz:=6 }).put 8 { cells:=[linV b.d,linV b.c,linV b.a,linV b.r],sz:=4 }).put 16 { cells:=[linV b.d,linV b.c,linV b.a,linV b.r],sz:=4 }).put 48 { cells:=[.int .i64 c.R,.int .i64 c.P,.int .i64 c.G,.int .i64 c.H,.int .i64 c.B,.int .i64 c.K],sz:=6 }) (fun k=>k≤c.H.toNat+2) (fun k=>c.H.toNat+2 - k) 0 rfl (HS.refl _) (by omega) ?_
   rintro k nx1 h2 hnx1
   have d1:=hsec' (k:Int)
   have d2:=cE (k:Int)
   clear hsec' cE c2 c3 c4 c5 c6 c7 c8 c9 cA cB cC
   by_cases hk:k < c.H.toNat+2
   ·cases hin:isInM c b (k:Int)
    ·rw [hin, if_neg (by simp)] at d1 d2
     refine W.run ?_
     exact W.kl (k+1) rfl (HS.refl _) (by omega) (by omega) (by omega)
    ·rw [hin,if_pos rfl] at d1 d2
     cases hs:secM c b (k:Int) with
     | none =>
      rw [hs] at d1 d2
      dsimp only [Option.getD,Option.isSome] at d1 d2
      refine W.run ?_
      exact W.kl (k+1) rfl (HS.refl _) (by omega) (by omega) (by omega)
     | some n =>
      rw [hs] at d1 d2
      dsimp only [Option.getD,Option.isSome] at d1 d2
      refine W.run ?_
      exact W.kl (k+1) rfl (HS.refl _) (by omega) (by omega) (by omega)
   ·clear d1 d2
    refine W.run ?_
    rfl
theorem pr13:PrimeI 13:=prime_sm 3 (by omega) (by decide) (by decide)
theorem pr17:PrimeI 17:=prime_sm 4 (by omega) (by decide) (by decide)
theorem pr31:PrimeI 31:=prime_sm 5 (by omega) (by decide) (by decide)
theorem pr97:PrimeI 97:=prime_sm 9 (by omega) (by decide) (by decide)
theorem pr251:PrimeI 251:=prime_sm 15 (by omega) (by decide) (by decide)
theorem get_at {l:List V} {n k:Nat} (e:n = k) (h:n < l.length):l[n]'h = l[k]'(e ▸ h):=by subst e;rfl
def HTm (c:Cf) (x:Cf):Hp:=((Hp.put (fun _=>none) 0 { cells:=[.int .i64 c.R,.int .i64 c.P,.int .i64 c.G,.int .i64 c.H,.int .i64 c.B,.int .i64 c.K],sz:=6 }).put 8 { cells:=[.int .i64 0,.int .i64 0,.int .i64 0,.int .i64 0,.int .i64 0,.int .i64 0],sz:=6 }).put 48 { cells:=[.int .i64 x.R,.int .i64 x.P,.int .i64 x.G,.int .i64 x.H,.int .i64 x.B,.int .i64 x.K],sz:=6 }
set_option maxRecDepth 10000 in
set_option maxHeartbeats 2000000 in
theorem k12 (c:Cf) (hb:B64 c.R∧B64 c.P∧B64 c.G∧B64 c.H∧B64 c.B∧B64 c.K) (most:Int) (hm:2≤most∧most≤6):PureC Tryz.prog 12 [c.v,.int .i64 most] (fun r=>∃ x:Cf,x.Ok∧x.H≤most∧11≤x.P∧r = x.v):=by
 obtain ⟨w1,w2,w3,w4,w5,w6⟩:=hb
 unfold B64 at w1 w2 w3 w4 w5 w6
 refine pureC_of_wp .x mixed ok12 rfl ?_
 unfold c12
 rw [rep6]
 dsimp only [argE,Cf.v,cfgV]
 refine W.assoc (W.assoc (W.cut (fun _:Unit=>[(1,.int .i64 most),(2,.ptr 0 0 0),(4,.ptr 8 0 0),(5,.ptr 24 0 0),(6,.ptr 48 0 0)]) (fun _=>(HTm c c).put 24 { cells:=[.int .i64 11,.int .i64 13,.int .i64 17,.int .i64 31,.int .i64 97,.int .i64 251],sz:=6 }) (fun _=>True) 0 ?_ ?_))
 ·rintro _ n _ _
  -- the group
  refine W.cut (fun x:Int × Int × Int=>[(1,.int .i64 most),(2,.ptr 0 0 0),(4,.ptr 8 0 0),(6,.ptr 48 0 0)]) (fun x=>HTm c ⟨x.1,x.2.1,x.2.2,c.H,c.B,c.K⟩) (fun x=>GroupI x.1 x.2.1 x.2.2∧11≤x.2.1) n ?_ ?_
  ·rintro ⟨R,P,G⟩ n1 ⟨hg,hP⟩ hn1
   dsimp only at hg hP ⊢
   -- the halls
   refine W.cut (fun x:Int=>[(2,.ptr 0 0 0),(4,.ptr 8 0 0),(6,.ptr 48 0 0)]) (fun x=>HTm c ⟨R,P,G,x,c.B,c.K⟩) (fun x=>2≤x∧x≤most) n1 ?_ ?_
   ·rintro H n2 hH hn2
    -- the bound
    refine W.cut (fun x:Int=>[(2,.ptr 0 0 0),(4,.ptr 8 0 0),(6,.ptr 48 0 0)]) (fun x=>HTm c ⟨R,P,G,H,x,c.K⟩) (fun x=>0≤x∧x < H) n2 ?_ ?_
    ·rintro B n3 hB hn3
     -- the balls
     refine W.cut (fun x:Int=>[(4,.ptr 8 0 0),(6,.ptr 48 0 0)]) (fun x=>HTm c ⟨R,P,G,H,B,x⟩) (fun x=>1≤x∧x≤90) n3 ?_ ?_
     ·rintro K n4 hK hn4
      have hok:Cf.Ok ⟨R,P,G,H,B,K⟩:=⟨hg,by unfold CfgI;dsimp only;omega⟩
      unfold HTm
      dsimp only
      refine W.run ?_
      exact ⟨⟨R,P,G,H,B,K⟩,hok,hH.2,hP,rfl⟩
     ·intro Gk hG
      unfold HTm at hG ⊢
      dsimp only at hG ⊢
      by_cases h1:1≤c.K
      ·by_cases h2:c.K≤90
       ·refine W.run ?_
        exact W.kc hG c.K ⟨h1,h2⟩ (by omega) (HS.refl _)
       ·refine W.run ?_
        exact W.kc hG _ (by omega) (by omega) (HS.refl _)
      ·refine W.run ?_
       exact W.kc hG _ (by omega) (by omega) (HS.refl _)
    ·intro Gk hG
     unfold HTm at hG ⊢
     dsimp only at hG ⊢
     have hm1:=emod_rng (a:=c.B % 18446744073709551616) (P:=H) (by omega)
     have hm2:=emod_rng (a:=c.B) (P:=H) (by omega)
     by_cases h1:0≤c.B
     ·by_cases h2:c.B < H
      ·refine W.run ?_
       exact W.kc hG c.B ⟨h1,h2⟩ (by omega) (HS.refl _)
      ·refine W.run ?_
       exact W.kc hG _ (by omega) (by omega) (HS.refl _)
     ·refine W.run ?_
      exact W.kc hG _ (by omega) (by omega) (HS.refl _)
   ·intro Gk hG
    unfold HTm at hG ⊢
    dsimp only at hG ⊢
    have hm1:=emod_rng (a:=c.H % 18446744073709551616) (P:=most - 1) (by omega)
    have hm2:=emod_rng (a:=c.H) (P:=most - 1) (by omega)
    by_cases h1:2≤c.H
    ·by_cases h2:c.H≤most
     ·refine W.run ?_
      exact W.kc hG c.H ⟨h1,h2⟩ (by omega) (HS.refl _)
     ·refine W.run ?_
      exact W.kc hG _ (by omega) (by omega) (HS.refl _)
    ·refine W.run ?_
     exact W.kc hG _ (by omega) (by omega) (HS.refl _)
  ·intro Gk hG
   refine W.cut (fun x:Bool=>[(1,.int .i64 most),(2,.ptr 0 0 0),(4,.ptr 8 0 0),(5,.ptr 24 0 0),(6,.ptr 48 0 0),(30,.bool x)]) (fun _=>(HTm c c).put 24 { cells:=[.int .i64 11,.int .i64 13,.int .i64 17,.int .i64 31,.int .i64 97,.int .i64 251],sz:=6 }) (fun x=>x = false→GroupI c.R c.P c.G∧11≤c.P) n ?_ ?_
   ·rintro t n1 ht hn1
    unfold HTm at hG ⊢
    dsimp only at hG ⊢
    cases t
    ·obtain ⟨hg,hP⟩:=ht rfl
     refine W.run ?_
     exact W.kc hG (c.R,c.P,c.G) ⟨hg,hP⟩ (by omega) (HS.skip (HS.refl _) (by simp only [Hp.put];repeat (rw [if_neg (by omega)])) _)
    ·have hu : c.H % 18446744073709551616 % 6 = 0 ∨ c.H % 18446744073709551616 % 6 = 1 ∨ c.H % 18446744073709551616 % 6 = 2 ∨ c.H % 18446744073709551616 % 6 = 3 ∨ c.H % 18446744073709551616 % 6 = 4 ∨ c.H % 18446744073709551616 % 6 = 5 := by omega
     obtain ⟨R1,G1,_,_,f1,g1⟩:=find_ex pr11 (by omega) (by omega)
     obtain ⟨R2,G2,_,_,f2,g2⟩:=find_ex pr13 (by omega) (by omega)
     obtain ⟨R3,G3,_,_,f3,g3⟩:=find_ex pr17 (by omega) (by omega)
     obtain ⟨R4,G4,_,_,f4,g4⟩:=find_ex pr31 (by omega) (by omega)
     obtain ⟨R5,G5,_,_,f5,g5⟩:=find_ex pr97 (by omega) (by omega)
     obtain ⟨R6,G6,_,_,f6,g6⟩:=find_ex pr251 (by omega) (by omega)
     have c1:=k25 f1
     have c2:=k25 f2
     have c3:=k25 f3
     have c4:=k25 f4
     have c5:=k25 f5
     have c6:=k25 f6
     clear f1 f2 f3 f4 f5 f6
     rcases hu with hu | hu | hu | hu | hu | hu
     ·have hx : ∀ hh : (c.H % 18446744073709551616 % 6).toNat < [V.int .i64 11, V.int .i64 13, V.int .i64 17, V.int .i64 31, V.int .i64 97, V.int .i64 251].length, [V.int .i64 11, V.int .i64 13, V.int .i64 17, V.int .i64 31, V.int .i64 97, V.int .i64 251][(c.H % 18446744073709551616 % 6).toNat]'hh = V.int .i64 11 := fun hh => (get_at (k := 0) (by omega) hh).trans rfl
      refine W.run ?_
      rw [hx]
      refine W.run ?_
      exact W.kc hG (R1,11,G1) ⟨g1,by dsimp only;omega⟩ (by omega) (HS.p (HS.p (HS.p (HS.emp _))))
     ·have hx : ∀ hh : (c.H % 18446744073709551616 % 6).toNat < [V.int .i64 11, V.int .i64 13, V.int .i64 17, V.int .i64 31, V.int .i64 97, V.int .i64 251].length, [V.int .i64 11, V.int .i64 13, V.int .i64 17, V.int .i64 31, V.int .i64 97, V.int .i64 251][(c.H % 18446744073709551616 % 6).toNat]'hh = V.int .i64 13 := fun hh => (get_at (k := 1) (by omega) hh).trans rfl
      refine W.run ?_
      rw [hx]
      refine W.run ?_
      exact W.kc hG (R2,13,G2) ⟨g2,by dsimp only;omega⟩ (by omega) (HS.p (HS.p (HS.p (HS.emp _))))
     ·have hx : ∀ hh : (c.H % 18446744073709551616 % 6).toNat < [V.int .i64 11, V.int .i64 13, V.int .i64 17, V.int .i64 31, V.int .i64 97, V.int .i64 251].length, [V.int .i64 11, V.int .i64 13, V.int .i64 17, V.int .i64 31, V.int .i64 97, V.int .i64 251][(c.H % 18446744073709551616 % 6).toNat]'hh = V.int .i64 17 := fun hh => (get_at (k := 2) (by omega) hh).trans rfl
      refine W.run ?_
      rw [hx]
      refine W.run ?_
      exact W.kc hG (R3,17,G3) ⟨g3,by dsimp only;omega⟩ (by omega) (HS.p (HS.p (HS.p (HS.emp _))))
     ·have hx : ∀ hh : (c.H % 18446744073709551616 % 6).toNat < [V.int .i64 11, V.int .i64 13, V.int .i64 17, V.int .i64 31, V.int .i64 97, V.int .i64 251].length, [V.int .i64 11, V.int .i64 13, V.int .i64 17, V.int .i64 31, V.int .i64 97, V.int .i64 251][(c.H % 18446744073709551616 % 6).toNat]'hh = V.int .i64 31 := fun hh => (get_at (k := 3) (by omega) hh).trans rfl
      refine W.run ?_
      rw [hx]
      refine W.run ?_
      exact W.kc hG (R4,31,G4) ⟨g4,by dsimp only;omega⟩ (by omega) (HS.p (HS.p (HS.p (HS.emp _))))
     ·have hx : ∀ hh : (c.H % 18446744073709551616 % 6).toNat < [V.int .i64 11, V.int .i64 13, V.int .i64 17, V.int .i64 31, V.int .i64 97, V.int .i64 251].length, [V.int .i64 11, V.int .i64 13, V.int .i64 17, V.int .i64 31, V.int .i64 97, V.int .i64 251][(c.H % 18446744073709551616 % 6).toNat]'hh = V.int .i64 97 := fun hh => (get_at (k := 4) (by omega) hh).trans rfl
      refine W.run ?_
      rw [hx]
      refine W.run ?_
      exact W.kc hG (R5,97,G5) ⟨g5,by dsimp only;omega⟩ (by omega) (HS.p (HS.p (HS.p (HS.emp _))))
     ·have hx : ∀ hh : (c.H % 18446744073709551616 % 6).toNat < [V.int .i64 11, V.int .i64 13, V.int .i64 17, V.int .i64 31, V.int .i64 97, V.int .i64 251].length, [V.int .i64 11, V.int .i64 13, V.int .i64 17, V.int .i64 31, V.int .i64 97, V.int .i64 251][(c.H % 18446744073709551616 % 6).toNat]'hh = V.int .i64 251 := fun hh => (get_at (k := 5) (by omega) hh).trans rfl
      refine W.run ?_
      rw [hx]
      refine W.run ?_
      exact W.kc hG (R6,251,G6) ⟨g6,by dsimp only;omega⟩ (by omega) (HS.p (HS.p (HS.p (HS.emp _))))
   ·intro Gk2 hG2
    unfold HTm at hG2 ⊢
    by_cases hg:GroupI c.R c.P c.G
    ·have d1:=k49 hg
     by_cases h1:c.P≤300
     ·by_cases h2:c.R≤5000
      ·by_cases h3:11≤c.P
       ·refine W.run ?_
        exact W.kc hG2 false (fun _=>⟨hg,h3⟩) (by omega) (HS.p (HS.p (HS.p (HS.p (HS.emp _)))))
       ·refine W.run ?_
        exact W.kc hG2 true (fun e=>by cases e) (by omega) (HS.p (HS.p (HS.p (HS.p (HS.emp _)))))
      ·refine W.run ?_
       exact W.kc hG2 true (fun e=>by cases e) (by omega) (HS.p (HS.p (HS.p (HS.p (HS.emp _)))))
     ·refine W.run ?_
      exact W.kc hG2 true (fun e=>by cases e) (by omega) (HS.p (HS.p (HS.p (HS.p (HS.emp _)))))
    ·have d1:=k49f ⟨w1,w2,w3⟩ hg
     refine W.run ?_
     exact W.kc hG2 true (fun e=>by cases e) (by omega) (HS.p (HS.p (HS.p (HS.p (HS.emp _)))))
 ·intro Gk hG
  unfold HTm at hG
  refine W.run ?_
  exact W.kc hG () trivial (by omega) (HS.p (HS.p (HS.p (HS.p (HS.emp _)))))
end Go.Dp
