/- DrawBinds: the walk. -/
import Derived.Test.YtlbjgnkjicifhaaGreatDwL15
namespace Go.Dp
open Go.RowKit Go.Proofs
attribute [local irreducible] wp wpOps wpOp1 CallW CallT kSeq kBlk kLoop kReg retP retR kAsg kRound kRf kCut kItr kItr2
set_option linter.unusedVariables false
set_option linter.unusedSimpArgs false
set_option maxRecDepth 10000 in
set_option maxHeartbeats 2000000 in
theorem k4_d (S:List Int) (hS:∀ i (h:i < S.length),S[i] = S[0]) (hl:S.length < 100) (id ver nq n:Nat) (hid:id < n) :
  wp Tryz.prog Ys.none (rtC (rtC (rtC (rtC (rtC (rtC (rtC c4))))))) (retP [.tmp 6] .x (fun r=>r = .bool true)) ⟨[(13,.ref id ver 0 S.length)],Hp.put (fun _=>none) id { cells:=S.map (V.int .i64),sz:=1,ver:=ver,nl:=nq },n⟩:=by
 have cA:=k22
 unfold c4
 dsimp only [rtC]
 refine W.run ?_
 refine W.lp (fun i:Nat=>[(13,.ref id ver 0 S.length),(27,.int .i64 ((i:Int)+1))]) (fun _=>Hp.put (fun _=>none) id { cells:=S.map (V.int .i64),sz:=1,ver:=ver,nl:=nq }) (fun i=>True) (fun i=>S.length - i) 0 rfl (HS.refl _) trivial ?_
 rintro i nx - hnx
 by_cases hi:(i:Int)+1 < S.length
 ·have h2 : S[((i : Int) + 1).toNat]'(by omega) = S[0] := hS _ (by omega)
  refine W.run ?_
  exact W.kl (i+1) rfl (HS.refl _) (by omega) trivial (by omega)
 ·refine W.run ?_
  rfl
def HB4 (B:Hp) (F:Brd) (o:Nat):List Ln→Nat × Nat→Hp
 | [],_=>B.put o { cells:=[linV F.d,linV F.c,linV F.a,.nils],sz:=4 }
 | y::l,(id,ver)=>(B.put o { cells:=[linV F.d,linV F.c,linV F.a,.ref id ver 0 (l.length+1)],sz:=4 }).put id { cells:=linC (y::l),sz:=4,ver:=ver }
abbrev B4 (x:Cf) (F P:Brd) (S:List Int):Hp:=(((Hp.put (fun _=>none) 72 { cells:=[.int .i64 x.R,.int .i64 x.P,.int .i64 x.G,.int .i64 x.H,.int .i64 x.B,.int .i64 x.K],sz:=6 }).put 136 { cells:=[linV P.d,linV P.c,linV P.a,linV P.r],sz:=4 }).put 224 { cells:=[linV F.d,linV F.c,linV F.a,linV F.r],sz:=4 }).put 256 { cells:=S.map (V.int .i64),sz:=1,ver:=S.length,nl:=if S.length = 0 then 1 else 0 }
set_option maxRecDepth 10000 in
set_option maxHeartbeats 4000000 in
theorem k4_b (x:Cf) (F P:Brd) (H:Bnd x F P) (n:Nat) (hn:256 < n) :
  wp Tryz.prog Ys.none (rtC (rtC (rtC (rtC (rtC (rtC c4)))))) (retP [.tmp 6] .x (fun r=>r = .bool true)) ⟨[(8,.ptr 72 0 0),(10,.ptr 136 0 0),(11,.ptr 224 0 0),(13,.ref 256 0 0 0)],B4 x F P [],n⟩:=by
 have hFr:=H.hF.2.2.2.1
 have hPr:=H.plen
 unfold c4
 dsimp only [rtC]
 refine W.cutN (fun S:List Int=>[(13,.ref 256 S.length 0 S.length)]) (fun S=>Hp.put (fun _=>none) 256 { cells:=S.map (V.int .i64),sz:=1,ver:=S.length,nl:=if S.length = 0 then 1 else 0 }) (fun S m=>256 < m∧S.length < 100∧∀ i (h:i < S.length),S[i] = S[0]) (fun S m hm=>k4_d S hm.2.2 hm.2.1 256 _ _ m hm.1) ?_
 intro Gk hG
 refine W.run ?_
 refine W.loop (fun z:Nat × List Int × Nat=>⟨[(8,.ptr 72 0 0),(10,.ptr 136 0 0),(11,.ptr 224 0 0),(13,.ref 256 z.2.1.length 0 z.2.1.length),(14,.int .i64 (z.1:Int))],B4 x F P z.2.1,z.2.2⟩)
  (fun z=>z.1≤6∧z.2.1.length≤z.1∧(∀ s∈z.2.1,∃ k,(sumM x (brdK F (P.r++revK F k))).2 = true∧s = (sumM x (brdK F (P.r++revK F k))).1)∧256 < z.2.2) (fun z=>6 - z.1) (0,[],_) ⟨by dsimp only;omega,by dsimp only [List.length_nil];omega,fun s hs=>(by cases hs),Nat.lt_add_right _ hn⟩ ?_ rfl (HS.refl _) rfl
 rintro ⟨k,S,m⟩ ⟨hk,hSl,hS,hm⟩
 dsimp only at hk hSl hS hm ⊢
 have hS0:=hS
 by_cases hk6:k < 6
 ·have cX:=H.k24X k
  have cM:=H.k24M k
  have hMore:=H.more k
  have hRl:=selL_len (qB k) F.r F.r.length
  have hRl0:=fun i=>selL_len (qB k) F.r i
  have hFl:=H.len
  clear hG
  change PureC Tryz.prog 24 [x.v,.agg [linV F.d,linV F.c,linV F.a,linV (revK F k)]] _ at cX
  change PureC Tryz.prog 24 [x.v,.agg [linV F.d,linV F.c,linV F.a,linV (P.r++revK F k)]] _ at cM
  unfold sumQ at cX cM
  refine W.run ?_
  refine W.lp (fun i:Nat=>[(8,.ptr 72 0 0),(10,.ptr 136 0 0),(11,.ptr 224 0 0),(13,.ref 256 S.length 0 S.length),(14,.int .i64 (k:Int)),(15,.ref (m+16) (selL (qB k) F.r i).length 0 (selL (qB k) F.r i).length),(16,.int .i64 (i:Int))])
   (fun i=>(B4 x F P S).put (m+16) { cells:=linC (selL (qB k) F.r i),sz:=4,ver:=(selL (qB k) F.r i).length,nl:=if (selL (qB k) F.r i).length = 0 then 1 else 0 }) (fun i=>i≤F.r.length) (fun i=>F.r.length - i) 0 rfl (HS.refl _) (by omega) ?_
  rintro i nx hi hnx
  have hlc:=linC_len (selL (qB k) F.r i)
  have hr0:=hRl0 i
  by_cases hil:i < F.r.length
  ·have hs:=selL_succ (q:=qB k) hil
   clear cX cM hMore hS hRl hRl0 H
   by_cases h1:k≤i % 6
   ·have hq : qB k i = true := by unfold qB; rw [decide_eq_true h1]; rfl
    rw [hq,if_pos rfl] at hs
    generalize selL (qB k) F.r i = R at hs hlc hr0 ⊢
    refine W.run ?_
    refine W.kl (i+1) (by rw [hs,List.length_append];rfl) ?_ (by omega) (by omega) (by omega)
    rw [hs,linC_snoc,List.length_append,List.length_singleton,if_neg (by omega)]
    exact HS.skip (HS.refl _) (by simp only [Hp.put];repeat (rw [if_neg (by omega)])) _
   ·by_cases h2:k = 5
    ·by_cases h3:i % 2 = 0
     ·have hq : qB k i = true := by unfold qB; rw [decide_eq_true h2, decide_eq_true h3, Bool.and_self, Bool.or_true]
      rw [hq,if_pos rfl] at hs
      generalize selL (qB k) F.r i = R at hs hlc hr0 ⊢
      refine W.run ?_
      refine W.kl (i+1) (by rw [hs,List.length_append];rfl) ?_ (by omega) (by omega) (by omega)
      rw [hs,linC_snoc,List.length_append,List.length_singleton,if_neg (by omega)]
      exact HS.skip (HS.refl _) (by simp only [Hp.put];repeat (rw [if_neg (by omega)])) _
     ·have hq : qB k i = false := by unfold qB; rw [decide_eq_false h1, decide_eq_false h3, Bool.and_false]; rfl
      rw [hq,if_neg (by simp),List.append_nil] at hs
      generalize selL (qB k) F.r i = R at hs hlc hr0 ⊢
      refine W.run ?_
      exact W.kl (i+1) (by rw [hs];rfl) (by rw [hs];exact HS.refl _) (by omega) (by omega) (by omega)
    ·have hq : qB k i = false := by unfold qB; rw [decide_eq_false h1, decide_eq_false h2, Bool.false_and]; rfl
     rw [hq,if_neg (by simp),List.append_nil] at hs
     generalize selL (qB k) F.r i = R at hs hlc hr0 ⊢
     refine W.run ?_
     exact W.kl (i+1) (by rw [hs];rfl) (by rw [hs];exact HS.refl _) (by omega) (by omega) (by omega)
  ·have hie : i = F.r.length := by omega
   subst hie
   clear hRl0
   clear hlc
   have hlc:=linC_len (revK F k)
   have hRa:=linC_atoms (revK F k)
   have hrk:selL (qB k) F.r F.r.length = revK F k:=rfl
   rw [hrk]
   have hRk:(revK F k).length≤F.r.length:=hRl
   obtain ⟨n1,e1,n2,e2,cX,cM,hcmb⟩:∃ n1 e1 n2 e2,PureC Tryz.prog 24 [x.v,.agg [linV F.d,linV F.c,linV F.a,.sl (linC (revK F k)) (revK F k).length]] (fun r=>r = .tup [.int .i64 n1,.int .i64 e1])∧PureC Tryz.prog 24 [x.v,.agg [linV F.d,linV F.c,linV F.a,linV (P.r++revK F k)]] (fun r=>r = .tup [.int .i64 n2,.int .i64 e2]) ∧
     (((e1 = 0∧n1 = n2∨e1 = 4)∧e2 = 0∧(sumM x (brdK F (P.r++revK F k))).2 = true∧n2 = (sumM x (brdK F (P.r++revK F k))).1)∨(e1 = 4∧e2 = 4)):=by
    refine ⟨_,_,_,_,cX,cM,?_⟩
    cases hx:(sumM x (brdK F (revK F k))).2
    ·cases hy:(sumM x (brdK F (P.r++revK F k))).2
     ·right;exact ⟨rfl,rfl⟩
     ·left;exact ⟨.inr rfl,rfl,rfl,rfl⟩
    ·have:=hMore hx
     rw [this,hx]
     left;exact ⟨.inl ⟨rfl,rfl⟩,rfl,rfl,rfl⟩
   clear hMore hRl hrk hr0
   generalize hRR:revK F k = R at hlc hRa cX cM hRk ⊢
   refine W.run ?_
   refine W.loop (fun z:Nat × List Ln × Nat × Nat × Nat=>⟨[(8,.ptr 72 0 0),(10,.ptr 136 0 0),(11,.ptr 224 0 0),(13,.ref 256 S.length 0 S.length),(14,.int .i64 (k:Int)),(15,.ref (m+16) R.length 0 R.length),(18,.int .i64 n1),(19,.int .i64 e1),(20,.ptr (nx+184+56) 0 0),(21,.int .i64 (z.1:Int))],HB4 ((B4 x F P S).put (m+16) { cells:=linC R,sz:=4,ver:=R.length,nl:=if R.length = 0 then 1 else 0 }) F (nx+184+56) z.2.1 (z.2.2.1,z.2.2.2.1),z.2.2.2.2⟩)
    (fun z=>z.1≤P.r.length∧z.2.1 = P.r.take z.1∧(z.2.1≠[]→nx+240 < z.2.2.1∧z.2.2.1 < z.2.2.2.2)∧nx+240 < z.2.2.2.2) (fun z=>P.r.length - z.1) (0,[],0,0,nx+264) ⟨by dsimp only;omega,rfl,fun h=>absurd rfl h,by dsimp only;omega⟩ ?_ rfl (by dsimp only [HB4];exact HS.p (HS.p (HS.p (HS.p (HS.p (HS.p (HS.emp _))))))) rfl
   rintro ⟨i,T,id,ver,q⟩ ⟨hi2,hT,hid,hq⟩
   dsimp only at hi2 hT hid hq ⊢
   have hTl:T.length≤1000:=by rw [hT,List.length_take];omega
   by_cases hil2:i < P.r.length
   ·have hs : P.r.take (i + 1) = T ++ [P.r[i]] := by rw [hT, List.take_append_getElem]
    clear cX cM hcmb hS H hRR
    cases T with
    | nil =>
     dsimp only [HB4]
     refine W.run ?_
     refine W.kl0 (HB4 ((B4 x F P S).put (m+16) { cells:=linC R,sz:=4,ver:=R.length,nl:=if R.length = 0 then 1 else 0 }) F (nx+184+56) [P.r[i]] (q+64+56,0)) ?_ ⟨(i+1,[P.r[i]],q+64+56,0,_),⟨by dsimp only;omega,hs.symm,fun _=>by dsimp only;omega,by dsimp only;omega⟩,rfl,by dsimp only;omega⟩ Nat.zero_lt_one
     dsimp only [HB4]
     rw [put_comm (show q+64+48≠q+64+56 by omega)]
     exact HS.skip (HS.refl _) (by simp only [Hp.put];repeat (rw [if_neg (by omega)])) _
    | cons y T =>
     have hi2:=hid (by simp)
     have hlcT:(linC (y::T)).length = 4 * (T.length+1):=linC_len (y::T)
     have hTl2:T.length+1≤1000:=hTl
     have hla:=linC_snoc (y::T) P.r[i]
     dsimp only [HB4]
     generalize linC (y::T) = C at hlcT hla ⊢
     refine W.run ?_
     refine W.kl0 (HB4 ((B4 x F P S).put (m+16) { cells:=linC R,sz:=4,ver:=R.length,nl:=if R.length = 0 then 1 else 0 }) F (nx+184+56) (y::(T++[P.r[i]])) (id,ver+1)) ?_ ⟨(i+1,y::(T++[P.r[i]]),id,ver+1,_),⟨by dsimp only;omega,hs.symm,fun _=>by dsimp only;omega,by dsimp only;omega⟩,rfl,by dsimp only;omega⟩ Nat.zero_lt_one
     dsimp only [HB4]
     rw [← List.cons_append,hla,List.length_append]
     exact HS.skip (HS.refl _) (by simp only [Hp.put];repeat (rw [if_neg (by omega)])) _
   ·rw [List.take_of_length_le (by omega)] at hT
    clear hil cX
    have hid':P.r≠[]→nx+240 < id∧id < q:=fun h=>hid (by rw [hT];exact h)
    have hst:∃ Z,Z = HB4 ((B4 x F P S).put (m+16) { cells:=linC R,sz:=4,ver:=R.length,nl:=if R.length = 0 then 1 else 0 }) F (nx+184+56) T (id,ver):=⟨_,rfl⟩
    obtain ⟨Z,hZ⟩:=hst
    rw [← hZ]
    have hZ2:Z = HB4 ((B4 x F P S).put (m+16) { cells:=linC R,sz:=4,ver:=R.length,nl:=if R.length = 0 then 1 else 0 }) F (nx+184+56) P.r (id,ver):=hZ.trans (congrArg (fun T=>HB4 ((B4 x F P S).put (m+16) { cells:=linC R,sz:=4,ver:=R.length,nl:=if R.length = 0 then 1 else 0 }) F (nx+184+56) T (id,ver)) hT)
    rcases T with _ | ⟨y,T⟩
    case' cons=>have hi3:=hid (by simp)
    all_goals
     dsimp only [HB4] at hZ
     rw [hZ]
     refine W.run ?_
     rw [← hZ,hZ2]
     refine W.loop (fun z:Nat × List Ln × Nat × Nat × Nat=>⟨[(8,.ptr 72 0 0),(10,.ptr 136 0 0),(11,.ptr 224 0 0),(13,.ref 256 S.length 0 S.length),(14,.int .i64 (k:Int)),(15,.ref (m+16) R.length 0 R.length),(18,.int .i64 n1),(19,.int .i64 e1),(20,.ptr (nx+184+56) 0 0),(23,.int .i64 (z.1:Int))],HB4 ((B4 x F P S).put (m+16) { cells:=linC R,sz:=4,ver:=R.length,nl:=if R.length = 0 then 1 else 0 }) F (nx+184+56) z.2.1 (z.2.2.1,z.2.2.2.1),z.2.2.2.2⟩)
      (fun z=>z.1≤R.length∧z.2.1 = P.r++R.take z.1∧(z.2.1≠[]→nx+240 < z.2.2.1∧z.2.2.1 < z.2.2.2.2)∧nx+240 < z.2.2.2.2) (fun z=>R.length - z.1) (0,P.r,id,ver,_) ⟨by dsimp only;omega,by dsimp only;rw [List.take_zero,List.append_nil],fun h=>⟨(hid' h).1,Nat.lt_add_right _ (hid' h).2⟩,Nat.lt_add_right _ hq⟩ ?_ rfl (HS.refl _) rfl
     clear hT hid hid' hTl hZ hZ2 hq hi2 hil2
     clear Z
     rintro ⟨i,T,id,ver,q⟩ ⟨hi2,hT,hid,hq⟩
     dsimp only at hi2 hT hid hq ⊢
     have hTl:T.length≤1000:=by rw [hT,List.length_append,List.length_take];omega
     by_cases hil2:i < R.length
     ·have hs : P.r ++ R.take (i + 1) = T ++ [R[i]] := by rw [hT, List.append_assoc, List.take_append_getElem]
      clear cM hcmb hS H hRR
      cases T with
      | nil =>
       dsimp only [HB4]
       refine W.run ?_
       refine W.kl0 (HB4 ((B4 x F P S).put (m+16) { cells:=linC R,sz:=4,ver:=R.length,nl:=if R.length = 0 then 1 else 0 }) F (nx+184+56) [R[i]] (q+56+48,0)) ?_ ⟨(i+1,[R[i]],q+56+48,0,_),⟨by dsimp only;omega,hs.symm,fun _=>by dsimp only;omega,by dsimp only;omega⟩,rfl,by dsimp only;omega⟩ Nat.zero_lt_one
       dsimp only [HB4]
       rw [if_neg (show ¬ R.length = 0 by omega),put_comm (show q+56+40≠q+56+48 by omega)]
       exact HS.skip (HS.refl _) (by simp only [Hp.put];repeat (rw [if_neg (by omega)])) _
      | cons y T =>
       have hi2:=hid (by simp)
       have hlcT:(linC (y::T)).length = 4 * (T.length+1):=linC_len (y::T)
       have hTl2:T.length+1≤1000:=hTl
       have hla:=linC_snoc (y::T) R[i]
       dsimp only [HB4]
       generalize linC (y::T) = C at hlcT hla ⊢
       refine W.run ?_
       refine W.kl0 (HB4 ((B4 x F P S).put (m+16) { cells:=linC R,sz:=4,ver:=R.length,nl:=if R.length = 0 then 1 else 0 }) F (nx+184+56) (y::(T++[R[i]])) (id,ver+1)) ?_ ⟨(i+1,y::(T++[R[i]]),id,ver+1,_),⟨by dsimp only;omega,hs.symm,fun _=>by dsimp only;omega,by dsimp only;omega⟩,rfl,by dsimp only;omega⟩ Nat.zero_lt_one
       dsimp only [HB4]
       rw [if_neg (show ¬ R.length = 0 by omega),← List.cons_append,hla,List.length_append]
       exact HS.skip (HS.refl _) (by simp only [Hp.put];repeat (rw [if_neg (by omega)])) _
     ·rw [List.take_of_length_le (by omega)] at hT
      have hS2:e2 = 0→∀ s∈S++[n2],∃ k,(sumM x (brdK F (P.r++revK F k))).2 = true∧s = (sumM x (brdK F (P.r++revK F k))).1:=fun he s hs=>by
       rcases List.mem_append.1 hs with hs | hs
       ·exact hS s hs
       ·rw [List.mem_singleton.1 hs]
        rcases hcmb with h | h
        ·exact ⟨k,h.2.2⟩
        ·omega
      have hcm2:(e1 = 0∧n1 = n2∨e1 = 4)∧e2 = 0∨e1 = 4∧e2 = 4:=hcmb.elim (fun h=>.inl ⟨h.1,h.2.1⟩) .inr
      cases T with
      | nil =>
       have cM2:=cM.weak (VWL.cons (.refl x.v) (VWL.cons (VW.agg (VWL.cons (.refl (linV F.d)) (VWL.cons (.refl (linV F.c)) (VWL.cons (.refl (linV F.a)) (VWL.cons (show VW .nils (linV (P.r++R)) by rw [← hT];exact .nils) .nil))))) .nil))
       dsimp only [HB4]
       clear cM hcmb hS H hT
       rcases hcm2 with ⟨⟨rfl,rfl⟩ | rfl,rfl⟩ | ⟨rfl,rfl⟩
       ·have hS2:=hS2 rfl
        refine W.run ?_
        refine W.kl0 (B4 x F P (S++[n1])) ?_ ⟨(k+1,S++[n1],_),⟨by dsimp only;omega,by dsimp only;rw [List.length_append];exact Nat.succ_le_succ hSl,hS2,by dsimp only;omega⟩,St_fr (by dsimp only;rw [List.length_append];rfl),by dsimp only;omega⟩ Nat.zero_lt_one
        dsimp only [B4]
        rw [List.map_append,List.length_append,List.length_singleton,if_neg (by omega)]
        exact HS.p (HS.p (HS.p (HS.p (HS.emp _))))
       ·have hS2:=hS2 rfl
        refine W.run ?_
        refine W.kl0 (B4 x F P (S++[n2])) ?_ ⟨(k+1,S++[n2],_),⟨by dsimp only;omega,by dsimp only;rw [List.length_append];exact Nat.succ_le_succ hSl,hS2,by dsimp only;omega⟩,St_fr (by dsimp only;rw [List.length_append];rfl),by dsimp only;omega⟩ Nat.zero_lt_one
        dsimp only [B4]
        rw [List.map_append,List.length_append,List.length_singleton,if_neg (by omega)]
        exact HS.p (HS.p (HS.p (HS.p (HS.emp _))))
       ·clear hS2
        refine W.run ?_
        refine W.kl0 (B4 x F P S) ?_ ⟨(k+1,S,_),⟨by dsimp only;omega,by dsimp only;omega,hS0,by dsimp only;omega⟩,rfl,by dsimp only;omega⟩ Nat.zero_lt_one
        exact HS.p (HS.p (HS.p (HS.p (HS.emp _))))
      | cons y T =>
       have hi3:=hid (by simp)
       have hlcT:(linC (y::T)).length = 4 * (T.length+1):=linC_len (y::T)
       have hTl2:T.length+1≤1000:=hTl
       have hTa:=linC_atoms (y::T)
       have cM2:=cM.weak (VWL.cons (.refl x.v) (VWL.cons (VW.agg (VWL.cons (.refl (linV F.d)) (VWL.cons (.refl (linV F.c)) (VWL.cons (.refl (linV F.a)) (VWL.cons (show VW (.sl (linC (y::T)) (T.length+1)) (linV (P.r++R)) by rw [← hT];exact .refl _) .nil))))) .nil))
       dsimp only [HB4]
       clear cM hcmb hS H hT
       generalize linC (y::T) = C at hlcT hTa cM2 ⊢
       rcases hcm2 with ⟨⟨rfl,rfl⟩ | rfl,rfl⟩ | ⟨rfl,rfl⟩
       ·have hS2:=hS2 rfl
        refine W.run ?_
        refine W.kl0 (B4 x F P (S++[n1])) ?_ ⟨(k+1,S++[n1],_),⟨by dsimp only;omega,by dsimp only;rw [List.length_append];exact Nat.succ_le_succ hSl,hS2,by dsimp only;omega⟩,St_fr (by dsimp only;rw [List.length_append];rfl),by dsimp only;omega⟩ Nat.zero_lt_one
        dsimp only [B4]
        rw [List.map_append,List.length_append,List.length_singleton,if_neg (by omega)]
        exact HS.p (HS.p (HS.p (HS.p (HS.emp _))))
       ·have hS2:=hS2 rfl
        refine W.run ?_
        refine W.kl0 (B4 x F P (S++[n2])) ?_ ⟨(k+1,S++[n2],_),⟨by dsimp only;omega,by dsimp only;rw [List.length_append];exact Nat.succ_le_succ hSl,hS2,by dsimp only;omega⟩,St_fr (by dsimp only;rw [List.length_append];rfl),by dsimp only;omega⟩ Nat.zero_lt_one
        dsimp only [B4]
        rw [List.map_append,List.length_append,List.length_singleton,if_neg (by omega)]
        exact HS.p (HS.p (HS.p (HS.p (HS.emp _))))
       ·clear hS2
        refine W.run ?_
        refine W.kl0 (B4 x F P S) ?_ ⟨(k+1,S,_),⟨by dsimp only;omega,by dsimp only;omega,hS0,by dsimp only;omega⟩,rfl,by dsimp only;omega⟩ Nat.zero_lt_one
        exact HS.p (HS.p (HS.p (HS.p (HS.emp _))))
 ·have hke : k = 6 := by omega
  subst hke
  have hall:∀ i (h:i < S.length),S[i] = S[0]:=fun i h=>by
   obtain ⟨j1,h1,e1⟩:=hS _ (List.getElem_mem h)
   obtain ⟨j2,h2,e2⟩:=hS _ (List.getElem_mem (show 0 < S.length by omega))
   rw [e1,e2,H.one j2 h1 h2]
  refine W.run ?_
  exact W.kcN hG S ⟨by omega,by omega,hall⟩ (HS.p (HS.emp _))
end Go.Dp
