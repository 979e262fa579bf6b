import Derived.Test.YtlbjgnkjicifhaaGreatDwB3
import Derived.Test.YtlbjgnkjicifhaaGreatDwE8
import Derived.Test.YtlbjgnkjicifhaaGreatDwC9
import Derived.Test.YtlbjgnkjicifhaaGreatDwG1
namespace Go.Dp
open Go.RowKit Go.Proofs
attribute [local irreducible] wp wpOps wpOp1 CallW CallT kSeq kBlk kLoop kReg retP retR kAsg kRound kRf kCut kItr
set_option linter.unusedVariables false
set_option linter.unusedSimpArgs false
theorem lagG_drop {P x:Int} {X l:List Int} {j:Nat} (h:j < X.length):lagG P x (X.drop j) l = lagG P x (X.drop (j+1)) (if X[j] = x then l else scaleF P (invF P (subF P x X[j])) (prodR P l [negF P X[j],1])):=by
 rw [List.drop_eq_getElem_cons h];rfl
theorem lagO_drop {P:Int} {X Y xs out:List Int} {i:Nat} (h1:i < X.length) (h2:i < Y.length):lagO P xs (X.drop i) (Y.drop i) out = lagO P xs (X.drop (i+1)) (Y.drop (i+1)) (sumR P out (trimI (lagG P X[i] xs [Y[i]]))):=by
 rw [List.drop_eq_getElem_cons h1,List.drop_eq_getElem_cons h2];rfl
theorem nodup_get {X:List Int} (hn:X.Nodup) {i j:Nat} (hi:i < X.length) (hj:j < X.length) (h:X[i] = X[j]):i = j:=by
 exact (List.getElem_inj hn).1 h
def inV:Bool→Nat→List Int→V
 | false,id,_=>.ref id 0 0 1
 | true,_,l=>slI l
def inH (H:Hp):Bool→Nat→List Int→Hp
 | false,id,l=>H.put id { cells:=l.map (V.int .i64),sz:=1 }
 | true,_,_=>H
def outV:Nat→List Int→V
 | 0,_=>.nils
 | _+1,l=>slI l
set_option maxRecDepth 10000 in
set_option maxHeartbeats 2000000 in
theorem k102 (P:Int) (hP:3≤P∧P < 2 ^ 31) (X Y:List Int) (hl:Y.length = X.length) (h0:X.length≠0) (hX:X.length≤200) (hrX:InF P X) (hrY:InF P Y) (hn:X.Nodup):PureC Tryz.prog 102 [refV P,slI X,slI Y] (fun r=>r = slI (lagO P X X Y [])):=by
 refine pureC_of_wp .x mixed ok102 rfl ?_
 unfold c102
 dsimp only [argE,refV]
 refine W.run ?_
 refine W.lp (fun y:Nat × List Int=>[(1,slI X),(2,slI Y),(3,.ptr 0 0 0),(7,outV y.1 y.2),(8,.int .i64 (y.1:Int))]) (fun _=>Hp.put (fun _=>none) 0 (refO P))
  (fun y=>y.1≤X.length∧(y.1 = 0→y.2 = [])∧InF P y.2∧y.2.length≤201∧lagO P X (X.drop y.1) (Y.drop y.1) y.2 = lagO P X X Y []) (fun y=>X.length - y.1) (0,[]) rfl (HS.refl _) ⟨by dsimp only;omega,fun _=>rfl,InF.nil,by simp,by rw [List.drop_zero,List.drop_zero]⟩ ?_
 rintro ⟨i,out⟩ nx ⟨hi,h00,ho,hol,hrec⟩ hnx
 dsimp only at hi h00 ho hol hrec
 by_cases hlt:i < X.length
 case neg =>
  have hi':i = X.length:=by omega
  rw [hi',List.drop_length] at hrec
  have h4:out = lagO P X X Y []:=hrec
  rcases i with _ | i
  ·omega
  ·rw [h4]
   dsimp only [refO,outV]
   refine W.run ?_
   rfl
 have hlt2:i < Y.length:=by omega
 rw [lagO_drop hlt hlt2] at hrec
 have hx:=hrX X[i] (List.getElem_mem hlt)
 have hy:=hrY Y[i] (List.getElem_mem hlt2)
 have hout:IsL (outV i out) out:=by
  rcases i with _ | i
  ·exact .inr ⟨rfl,h00 rfl⟩
  ·exact .inl rfl
 generalize outV i out = ov at hout ⊢
 dsimp only [refO]
 refine W.run ?_
 refine W.lp (fun y:Nat × Bool × List Int=>[(1,slI X),(2,slI Y),(3,.ptr 0 0 0),(7,ov),(8,.int .i64 (i:Int)),(9,inV y.2.1 (nx+32+32) y.2.2),(10,.int .i64 (y.1:Int))]) (fun y=>inH (Hp.put (fun _=>none) 0 (refO P)) y.2.1 (nx+32+32) y.2.2)
  (fun y=>y.1≤X.length∧(y.2.1 = false→y.2.2 = [Y[i]])∧InF P y.2.2∧y.2.2.length≤y.1+1∧lagG P X[i] (X.drop y.1) y.2.2 = lagG P X[i] X [Y[i]]) (fun y=>X.length - y.1) (0,false,[Y[i]]) rfl (HS.refl _) ⟨by dsimp only;omega,fun _=>rfl,InF.cons hy InF.nil,by simp,by rw [List.drop_zero]⟩ ?_
 rintro ⟨j,b,l⟩ nx1 ⟨hj,hb,hli,hll,hG⟩ hnx1
 dsimp only at hj hb hli hll hG
 by_cases hjt:j < X.length
 ·rw [lagG_drop hjt] at hG
  have hw:=hrX X[j] (List.getElem_mem hjt)
  by_cases hji:j = i
  ·subst hji
   rw [if_pos rfl] at hG
   cases b
   ·dsimp only [refO,inV,inH]
    refine W.run ?_
    exact W.kl (j+1,false,l) rfl (HS.refl _) (by omega) ⟨by dsimp only;omega,hb,hli,by dsimp only;omega,hG⟩ (by dsimp only;omega)
   ·dsimp only [refO,inV,inH]
    refine W.run ?_
    exact W.kl (j+1,true,l) rfl (HS.refl _) (by omega) ⟨by dsimp only;omega,hb,hli,by dsimp only;omega,hG⟩ (by dsimp only;omega)
  rw [if_neg (fun h=>hji (nodup_get hn hjt hlt h))] at hG
  have hng:0≤negF P X[j]∧negF P X[j] < P:=emod_rng (by omega)
  have hsb:0≤subF P X[i] X[j]∧subF P X[i] X[j] < P:=emod_rng (by omega)
  have hiv:0≤invF P (subF P X[i] X[j])∧invF P (subF P X[i] X[j]) < P:=emod_rng (by omega)
  have c1:=k152 P X[j] hP hw
  have c2:=k154 P X[i] X[j] hP hx hw
  have c3:=k153 P (subF P X[i] X[j]) hP hsb
  have hB:InF P [negF P X[j],1]:=InF.cons hng (InF.cons (by omega) InF.nil)
  have hres:InF P (scaleF P (invF P (subF P X[i] X[j])) (prodR P l [negF P X[j],1])):=scaleF_in (by omega) _
  have hrl:(scaleF P (invF P (subF P X[i] X[j])) (prodR P l [negF P X[j],1])).length≤j+1+1:=by
   have h1:=scaleF_len (P:=P) (k:=invF P (subF P X[i] X[j])) (prodR P l [negF P X[j],1])
   have h2:=prodR_len (P:=P) l [negF P X[j],1]
   simp only [List.length_cons,List.length_nil] at h2
   omega
  by_cases hl0:l.length = 0
  ·have hl0':l = []:=List.length_eq_zero_iff.1 hl0
   subst hl0'
   have e:prodR P [] [negF P X[j],1] = []:=by unfold prodR;rw [if_pos (.inl rfl)]
   have e2:scaleF P (invF P (subF P X[i] X[j])) [] = []:=rfl
   rw [e,e2] at hG hres
   have c4:PureC Tryz.prog 151 [refV P,slI [],.sl [.int .i64 (negF P X[j]),.int .i64 1] 2] (fun r=>r = .nils):=k151n P [negF P X[j],1]
   have c5:=k150n P (invF P (subF P X[i] X[j])) .nils (.inr ⟨rfl,rfl⟩)
   cases b
   ·exact absurd (hb rfl) (by simp)
   ·dsimp only [refO,inV,inH,refV] at c1 c2 c3 c4 c5 ⊢
    refine W.run ?_
    refine W.kl (j+1,true,[]) rfl (HS.skip (HS.refl _) (by simp only [Hp.put];repeat (rw [if_neg (by omega)])) _) (by omega) ⟨by dsimp only;omega,fun h=>(by cases h),hres,by simp,hG⟩ (by dsimp only;omega)
  ·have e : prodR P l [negF P X[j], 1] = convF P l [negF P X[j], 1] := by unfold prodR; rw [if_neg]; simp; exact List.ne_nil_of_length_pos (by omega)
   rw [e] at hG hres hrl
   have c4:PureC Tryz.prog 151 [refV P,slI l,.sl [.int .i64 (negF P X[j]),.int .i64 1] 2] (fun r=>r = slI (convF P l [negF P X[j],1])):=k151 P hP l [negF P X[j],1] (by omega) (by simp) hli hB hl0 (by simp)
   have hcl:=convF_len (P:=P) (p:=l) (q:=[negF P X[j],1])
   simp only [List.length_cons,List.length_nil] at hcl
   have c5:=k150 P (invF P (subF P X[i] X[j])) hP (convF P l [negF P X[j],1]) (by omega) (convF_in (by omega)) hiv (by omega)
   cases b
   ·obtain rfl:=hb rfl
    dsimp only [refO,inV,inH,refV,slI,List.map_cons,List.map_nil,List.length_cons,List.length_nil] at c1 c2 c3 c4 c5 ⊢
    refine W.run ?_
    exact W.kl (j+1,true,scaleF P (invF P (subF P X[i] X[j])) (convF P [Y[i]] [negF P X[j],1])) rfl (HS.skip (HS.skip (HS.refl _) (by simp only [Hp.put];repeat (rw [if_neg (by omega)])) _) (by simp only [Hp.put];repeat (rw [if_neg (by omega)])) _) (by omega) ⟨by dsimp only;omega,fun h=>(by cases h),hres,hrl,hG⟩ (by dsimp only;omega)
   ·dsimp only [refO,inV,inH,refV] at c1 c2 c3 c4 c5 ⊢
    refine W.run ?_
    exact W.kl (j+1,true,scaleF P (invF P (subF P X[i] X[j])) (convF P l [negF P X[j],1])) rfl (HS.skip (HS.refl _) (by simp only [Hp.put];repeat (rw [if_neg (by omega)])) _) (by omega) ⟨by dsimp only;omega,fun h=>(by cases h),hres,hrl,hG⟩ (by dsimp only;omega)
 ·have hj' : j = X.length := by omega
  rw [hj',List.drop_length] at hG
  have hG':l = lagG P X[i] X [Y[i]]:=hG
  rw [← hG'] at hrec
  have c1:=k156 l (by omega)
  have c2:=k155 P hP out (trimI l) (by omega) (by have:=trimI_len l;omega) ho (trimI_in hli) ov hout
  have hsl:(sumR P out (trimI l)).length≤201:=by
   have h1:=sumR_len (P:=P) out (trimI l)
   have h2:=trimI_len l
   omega
  have hsi:InF P (sumR P out (trimI l)):=sumR_in (by omega) ho
  cases b
  ·obtain rfl:=hb rfl
   rcases hout with rfl | ⟨rfl,rfl⟩
   ·dsimp only [refO,inV,inH,refV,slI,List.map_cons,List.map_nil,List.length_cons,List.length_nil] at c1 c2 ⊢
    refine W.run ?_
    exact W.kl (i+1,sumR P out (trimI [Y[i]])) rfl (HS.skip (HS.refl _) (by simp only [Hp.put];repeat (rw [if_neg (by omega)])) _) (by omega) ⟨by dsimp only;omega,fun h=>(by cases h),hsi,hsl,hrec⟩ (by dsimp only;omega)
   ·dsimp only [refO,inV,inH,refV,slI,List.map_cons,List.map_nil,List.length_cons,List.length_nil] at c1 c2 ⊢
    refine W.run ?_
    exact W.kl (i+1,sumR P [] (trimI [Y[i]])) rfl (HS.skip (HS.refl _) (by simp only [Hp.put];repeat (rw [if_neg (by omega)])) _) (by omega) ⟨by dsimp only;omega,fun h=>(by cases h),hsi,hsl,hrec⟩ (by dsimp only;omega)
  ·rcases hout with rfl | ⟨rfl,rfl⟩
   ·dsimp only [refO,inV,inH,refV] at c1 c2 ⊢
    refine W.run ?_
    exact W.kl (i+1,sumR P out (trimI l)) rfl (HS.refl _) (by omega) ⟨by dsimp only;omega,fun h=>(by cases h),hsi,hsl,hrec⟩ (by dsimp only;omega)
   ·dsimp only [refO,inV,inH,refV] at c1 c2 ⊢
    refine W.run ?_
    exact W.kl (i+1,sumR P [] (trimI l)) rfl (HS.refl _) (by omega) ⟨by dsimp only;omega,fun h=>(by cases h),hsi,hsl,hrec⟩ (by dsimp only;omega)
end Go.Dp
namespace Go.Dp
open Go.RowKit Go.Proofs
attribute [local irreducible] wp wpOps wpOp1 CallW CallT kSeq kBlk kLoop kReg retP retR kAsg kRound kRf kCut
set_option linter.unusedVariables false
set_option linter.unusedSimpArgs false
end Go.Dp
namespace Go.Dp
open Go.RowKit Go.Proofs
attribute [local irreducible] wp wpOps wpOp1 CallW CallT kSeq kBlk kLoop kReg retP retR kAsg kRound kRf kCut kItr
set_option linter.unusedVariables false
set_option linter.unusedSimpArgs false
set_option maxRecDepth 10000 in
set_option maxHeartbeats 1000000 in
theorem k44 {R P G:Int} (h:GroupI R P G) (X S:List Int) (hl:S.length = X.length) (he:chkE P X S = 0):PureC Tryz.prog 44 [grp R P G,slI X,slI S] (fun r=>r = slI (padL (lagO P X X S []) X.length)):=by
 have hP:=h.hP
 obtain ⟨_,hlen,hrX,hrS,hnd⟩:=chkE_zero he
 have hInX:InF P X:=fun x hx=>by have:=hrX x hx;omega
 have c1:=k101 P h.pP hP
 have c2:=k103 X (by omega) (by omega)
 have c3:=k103 S (by omega) (by omega)
 have c4:=k102 P (by omega) X S hl (by omega) (by omega) hInX hrS hnd
 have hNl:=(lagO_all h.pP hP.1 hl.symm hInX hrS hnd).2.1
 obtain ⟨N,hN⟩:∃ N,N = lagO P X X S []:=⟨_,rfl⟩
 rw [← hN] at c4 hNl ⊢
 clear h
 refine pureC_of_wp .x mixed ok44 rfl ?_
 unfold c44
 dsimp only [argE,refV] at c1 c4 ⊢
 refine W.run ?_
 rw [zeros_map]
 refine W.lp (fun y:Nat × List Int=>[(9,slI N),(10,.ref 160 0 0 X.length),(11,.int .i64 (y.1:Int))]) (fun y=>Hp.put (fun _=>none) 160 { cells:=y.2.map (V.int .i64),sz:=1 })
  (fun y=>y.1≤N.length∧y.2 = N.take y.1++List.replicate (X.length - y.1) 0) (fun y=>N.length - y.1) (0,List.replicate X.length 0) rfl (HS.put rfl (HS.emp _)) ⟨by dsimp only;omega,by simp⟩ ?_
 rintro ⟨i,C⟩ nx ⟨hi,hC⟩ hnx
 dsimp only at hi hC ⊢
 have hCl:C.length = X.length:=by rw [hC];simp;omega
 by_cases hlt:i < N.length
 ·have hCi : i < C.length := by omega
  refine W.run ?_
  refine W.kl (i+1,C.set i N[i]) rfl (HS.put ?_ (HS.refl _)) (by omega) ⟨by dsimp only;omega,?_⟩ (by dsimp only;omega)
  ·rw [List.set_eq_take_append_cons_drop,if_pos hCi];simp
  ·dsimp only
   rw [hC,← List.take_append_getElem hlt,List.append_assoc,show X.length - i = (X.length - (i+1))+1 by omega,List.replicate_succ]
   have:i = (N.take i).length:=by simp;omega
   conv=>lhs;arg 2;rw [this]
   rw [List.set_append_right _ _ (Nat.le_refl _)]
   simp
 ·have : i = N.length := by omega
  subst this
  rw [List.take_length] at hC
  have e:padL N X.length = C:=hC.symm
  rw [e]
  refine W.run ?_
  rw [← hCl]
end Go.Dp
