/- DrawRuns: the rounds, the law. -/
import Derived.Test.YtlbjgnkjicifhaaGreatDwL13
namespace Go.Dp
open Go.RowKit Go.Proofs
attribute [local irreducible] wp wpOps wpOp1 CallW CallT kSeq kBlk kLoop kReg retP retR kAsg kRound kRf kCut kItr kItr2
set_option linter.unusedVariables false
set_option linter.unusedSimpArgs false
def HC3 (x:Cf) (Y:Brd) (L:List (Int × Int)) (vL zL:Nat) (Q:List (List Int)):Option (Nat × Nat × Nat × Nat)→Hp
 | some (id,ver,nq,fq)=>((((Hp.put (fun _=>none) 40 { cells:=[.int .i64 x.R,.int .i64 x.P,.int .i64 x.G,.int .i64 x.H,.int .i64 x.B,.int .i64 x.K],sz:=6 }).put 96 { cells:=[linV Y.d,linV Y.c,linV Y.a,linV Y.r],sz:=4 }).put 104 { cells:=[linV Y.d,linV Y.c,linV Y.a,linV Y.r],sz:=4 }).put 128 { cells:=losC L,sz:=2,ver:=vL,nl:=if L.length = 0 then 1 else 0,fz:=zL }).put id { cells:=Q.map slI,sz:=1,ver:=ver,nl:=nq,fz:=fq }
 | none=>((((Hp.put (fun _=>none) 40 { cells:=[.int .i64 x.R,.int .i64 x.P,.int .i64 x.G,.int .i64 x.H,.int .i64 x.B,.int .i64 x.K],sz:=6 }).put 96 { cells:=[linV Y.d,linV Y.c,linV Y.a,linV Y.r],sz:=4 }).put 104 { cells:=[linV Y.d,linV Y.c,linV Y.a,linV Y.r],sz:=4 }).put 128 { cells:=losC L,sz:=2,ver:=vL,nl:=if L.length = 0 then 1 else 0,fz:=zL })
def pv3 (Q:List (List Int)):Option (Nat × Nat × Nat × Nat)→V
 | some (id,ver,_,_)=>.ref id ver 0 Q.length
 | none=>polV Q
set_option maxRecDepth 10000 in
set_option maxHeartbeats 12000000 in
theorem k3_b (x:Cf) (hX:x.Ok) (l:List (List Int)) (hl:l.length < 2 ^ 63) (hx:∀ p∈l,p.length < 2 ^ 63∧∀ n∈p,B64 n) (Y:Brd) (hY:Y.Ok) (hf:Y.fits 100 = true) (L:List (Int × Int)) (hL:L.length < 2 ^ 30) (vL:Nat) (Q0:List (List Int)) (hQ0:∀ p∈Q0,p.length < 2 ^ 20) (hQl0:Q0.length < 2 ^ 20) (id0 ver0 nq0 n:Nat) (hid0:128 < id0∧id0 < n) (hn0:144≤n) :
  wp Tryz.prog Ys.none (rtC (rtC (rtC (rtC (rtC (rtC (rtC c3))))))) (retP [.tmp 6] .x (fun r=>r = .bool true)) ⟨[(1,.sl (l.map slI) l.length),(7,.ptr 40 0 0),(8,.ptr 96 0 0),(9,.ptr 104 0 0),(10,.ref 128 vL 0 L.length),(12,.ref id0 ver0 0 Q0.length)],HC3 x Y L vL 0 Q0 (some (id0,ver0,nq0,0)),n⟩:=by
 have hr:=hX.rng
 have c0:=fun m hm=>k3_c x hX l hl hx m hm
 have cR:=fun (Q:List (List Int)) hQ hQl=>run_all hX hY hf (Q:=Q) hQ hQl L (by omega)
 have c16:=k16 x.R x.P x.G x.H x.B x.K
 have c17:=k17 Y hY 100
 rw [hf,if_pos rfl] at c17
 have c21:=k21 x hX l hl hx
 have hPl:=polysM_len x l
 have hPt:=polysM_lt hX hx
 have c18:=fun (A:List Int) (hA:A.length < 2 ^ 40)=>k18 (R:=x.R) (P:=x.P) (G:=x.G) A A.length rfl hA
 have hLa:=losC_atoms L
 have hLl:=losC_len L
 unfold c3
 dsimp only [rtC]
 refine W.cutN (fun _:Unit=>[(1,.sl (l.map slI) l.length),(7,.ptr 40 0 0)]) (fun _=>Hp.put (fun _=>none) 40 { cells:=[.int .i64 x.R,.int .i64 x.P,.int .i64 x.G,.int .i64 x.H,.int .i64 x.B,.int .i64 x.K],sz:=6 }) (fun _ m=>144≤m) (fun _ m hm=>c0 m hm) ?_
 clear c0
 intro Gk hG
 refine W.run ?_
 refine W.loop (fun z:Nat × List (List Int) × Option (Nat × Nat × Nat × Nat) × Nat × Nat=>⟨[(1,.sl (l.map slI) l.length),(7,.ptr 40 0 0),(8,.ptr 96 0 0),(9,.ptr 104 0 0),(10,.ref 128 vL 0 L.length),(12,pv3 z.2.1 z.2.2.1),(14,.int .i64 (z.1:Int))],HC3 x Y L vL z.2.2.2.1 z.2.1 z.2.2.1,z.2.2.2.2⟩)
  (fun z=>z.1≤2∧((∀ p∈z.2.1,p.length < 2 ^ 20)∧z.2.1.length < 2 ^ 20)∧(∀ q,z.2.2.1 = some q→128 < q.1∧q.1 < z.2.2.2.2∧q.2.2.2 = 0)∧z.2.2.2.1≤L.length * 2∧144≤z.2.2.2.2) (fun z=>2 - z.1) (0,Q0,some (id0,ver0,nq0,0),0,_) ⟨by dsimp only;omega,⟨hQ0,hQl0⟩,fun q hq=>by cases hq;exact ⟨hid0.1,Nat.lt_add_right _ hid0.2,rfl⟩,by dsimp only;omega,Nat.le_trans hn0 (Nat.le_add_right _ _)⟩ ?_ rfl (HS.refl _) rfl
 clear hQ0 hQl0 hid0
 rintro ⟨k,Q,pq,zL,m⟩ ⟨hk,⟨hQ,hQl⟩,hid,hz,hm⟩
 dsimp only at hk hQ hQl hid hz hm ⊢
 by_cases hk2:k < 2
 ·obtain ⟨z0,z1,z2,z3,c15,hz0,hz1⟩:=cR Q hQ hQl
  have hQa:=slI_atoms Q
  clear cR hG
  have e0:=wantI_0 x Q
  by_cases hE:wantI x Q Q.length = 0
  ·obtain ⟨rfl,rfl,rfl,rfl,hRB,c19⟩:=hz0 hE
   have hn:(Q.length:Int) = x.H:=by
    unfold wantI at hE
    split at hE
    ·omega
    ·rename_i h;omega
   have hnb:∀ i (hi:i < Q.length),badP x.P x.B Q[i] = false:=fun i hi=>by
    unfold wantI at hE
    rw [if_neg (by omega),List.take_length] at hE
    cases hb:badP x.P x.B Q[i]
    ·rfl
    ·rw [if_pos (List.any_eq_true.2 ⟨_,List.getElem_mem hi,hb⟩)] at hE;omega
   rw [hE] at c15
   have e20:=k20 _ hRB.1
   have e21:=k20 _ hRB.2.1
   have e22:=k20 _ hRB.2.2.1
   have e23:=k20 _ hRB.2.2.2
   generalize runB x Q L Y = RB at c15 c19 e20 e21 e22 e23 hRB
   clear hz0 hz1 hE e0
   rcases pq with _ | ⟨id,ver,nq,fq⟩
   case' some=>obtain ⟨hi1,hi2,rfl⟩:=hid _ rfl;dsimp only at hi1 hi2
   all_goals clear hid;dsimp only [HC3,pv3]
   ·refine W.run ?_
    refine W.lp (fun i:Nat=>[(1,.sl (l.map slI) l.length),(7,.ptr 40 0 0),(8,.ptr 96 0 0),(9,.ptr 104 0 0),(10,.ref 128 vL 0 L.length),(12,.ref id ver 0 Q.length),(14,.int .i64 (k:Int)),(15,.ptr (m+16+72) 0 0),(16,.int .i64 0),(17,.int .i64 0),(18,.int .i64 (i:Int))])
     (fun i=>(((((Hp.put (fun _=>none) 40 { cells:=[.int .i64 x.R,.int .i64 x.P,.int .i64 x.G,.int .i64 x.H,.int .i64 x.B,.int .i64 x.K],sz:=6 }).put 96 { cells:=[linV Y.d,linV Y.c,linV Y.a,linV Y.r],sz:=4 }).put 104 { cells:=[linV Y.d,linV Y.c,linV Y.a,linV Y.r],sz:=4 }).put 128 { cells:=losC L,sz:=2,ver:=vL,nl:=if L.length = 0 then 1 else 0,fz:=max zL (L.length * 2) }).put id { cells:=Q.map slI,sz:=1,ver:=ver,nl:=nq,fz:=max 0 Q.length }).put (m+16+72) { cells:=[linV RB.d,linV RB.c,linV RB.a,linV RB.r],sz:=4 }) (fun i=>i≤Q.length) (fun i=>Q.length - i) 0 rfl (HS.refl _) (by omega) ?_
    rintro i nx hi hnx
    by_cases hil:i < Q.length
    ·have hb:=hnb i hil
     have c19':=c18 Q[i] (by have:=hQ _ (List.getElem_mem hil);omega)
     have hQi:=hQ _ (List.getElem_mem hil)
     rw [bad_eq (by omega)] at hb
     clear c15 c19 e20 e21 e22 e23 c16 c17 c21 c18 hnb hRB
     by_cases h0:Q[i].length = 0
     ·clear hb
      refine W.run ?_
      exact W.kl (i+1) rfl (HS.refl _) (by omega) (by omega) (by omega)
     ·rw [decide_eq_true h0,Bool.true_and,Bool.or_eq_false_iff,decide_eq_false_iff_not,decide_eq_false_iff_not] at hb
      have hb1:=hb.1
      have hb2:polyE x.P Q[i] = 0:=by have:=hb.2;omega
      rw [hb2] at c19'
      clear hb hb2
      refine W.run ?_
      exact W.kl (i+1) rfl (HS.refl _) (by omega) (by omega) (by omega)
    ·have hie : i = Q.length := by omega
     subst hie
     clear c18 hnb c17 c16 c15
     generalize polysM x l = Q2 at c21 hPl hPt
     rw [← hPl] at c21
     refine W.run ?_
     refine W.kl0 (HC3 x Y L vL (max (max zL (L.length * 2)) (L.length * 2)) Q2 none) ?_ ⟨(k+1,Q2,none,max (max zL (L.length * 2)) (L.length * 2),_),⟨by dsimp only;omega,⟨hPt,by dsimp only;omega⟩,fun q hq=>(by cases hq),by dsimp only;omega,by dsimp only;omega⟩,rfl,by dsimp only;omega⟩ Nat.zero_lt_one
     exact HS.p (HS.p (HS.p (HS.p (HS.emp _))))
   ·refine W.run ?_
    refine W.lp (fun i:Nat=>[(1,.sl (l.map slI) l.length),(7,.ptr 40 0 0),(8,.ptr 96 0 0),(9,.ptr 104 0 0),(10,.ref 128 vL 0 L.length),(12,polV Q),(14,.int .i64 (k:Int)),(15,.ptr (m+16+72) 0 0),(16,.int .i64 0),(17,.int .i64 0),(18,.int .i64 (i:Int))])
     (fun i=>(((((Hp.put (fun _=>none) 40 { cells:=[.int .i64 x.R,.int .i64 x.P,.int .i64 x.G,.int .i64 x.H,.int .i64 x.B,.int .i64 x.K],sz:=6 }).put 96 { cells:=[linV Y.d,linV Y.c,linV Y.a,linV Y.r],sz:=4 }).put 104 { cells:=[linV Y.d,linV Y.c,linV Y.a,linV Y.r],sz:=4 }).put 128 { cells:=losC L,sz:=2,ver:=vL,nl:=if L.length = 0 then 1 else 0,fz:=max zL (L.length * 2) })).put (m+16+72) { cells:=[linV RB.d,linV RB.c,linV RB.a,linV RB.r],sz:=4 }) (fun i=>i≤Q.length) (fun i=>Q.length - i) 0 rfl (HS.refl _) (by omega) ?_
    rintro i nx hi hnx
    by_cases hil:i < Q.length
    ·have hb:=hnb i hil
     have c19':=c18 Q[i] (by have:=hQ _ (List.getElem_mem hil);omega)
     have hQi:=hQ _ (List.getElem_mem hil)
     rw [bad_eq (by omega)] at hb
     clear c15 c19 e20 e21 e22 e23 c16 c17 c21 c18 hnb hRB
     by_cases h0:Q[i].length = 0
     ·clear hb
      refine W.run ?_
      exact W.kl (i+1) rfl (HS.refl _) (by omega) (by omega) (by omega)
     ·rw [decide_eq_true h0,Bool.true_and,Bool.or_eq_false_iff,decide_eq_false_iff_not,decide_eq_false_iff_not] at hb
      have hb1:=hb.1
      have hb2:polyE x.P Q[i] = 0:=by have:=hb.2;omega
      rw [hb2] at c19'
      clear hb hb2
      refine W.run ?_
      exact W.kl (i+1) rfl (HS.refl _) (by omega) (by omega) (by omega)
    ·have hie : i = Q.length := by omega
     subst hie
     clear c18 hnb c17 c16 c15
     generalize polysM x l = Q2 at c21 hPl hPt
     rw [← hPl] at c21
     refine W.run ?_
     refine W.kl0 (HC3 x Y L vL (max (max zL (L.length * 2)) (L.length * 2)) Q2 none) ?_ ⟨(k+1,Q2,none,max (max zL (L.length * 2)) (L.length * 2),_),⟨by dsimp only;omega,⟨hPt,by dsimp only;omega⟩,fun q hq=>(by cases hq),by dsimp only;omega,by dsimp only;omega⟩,rfl,by dsimp only;omega⟩ Nat.zero_lt_one
     exact HS.p (HS.p (HS.p (HS.p (HS.emp _))))
  ·obtain ⟨rfl,rfl,rfl,rfl⟩:=hz1 hE
   clear hz0 hz1
   rcases pq with _ | ⟨id,ver,nq,fq⟩
   case' some=>obtain ⟨hi1,hi2,rfl⟩:=hid _ rfl;dsimp only at hi1 hi2
   all_goals clear hid;dsimp only [HC3,pv3]
   ·by_cases hn:(Q.length:Int) = x.H
    ·have e1 : wantI x Q 0 = 0 := by rw [e0, if_neg (by omega)]
     clear e0
     refine W.run ?_
     refine W.lp (fun i:Nat=>[(1,.sl (l.map slI) l.length),(7,.ptr 40 0 0),(8,.ptr 96 0 0),(9,.ptr 104 0 0),(10,.ref 128 vL 0 L.length),(12,.ref id ver 0 Q.length),(14,.int .i64 (k:Int)),(15,.ptr (m+16+72) 0 0),(16,.int .i64 (wantI x Q Q.length)),(17,.int .i64 (wantI x Q i)),(18,.int .i64 (i:Int))])
      (fun i=>(((((Hp.put (fun _=>none) 40 { cells:=[.int .i64 x.R,.int .i64 x.P,.int .i64 x.G,.int .i64 x.H,.int .i64 x.B,.int .i64 x.K],sz:=6 }).put 96 { cells:=[linV Y.d,linV Y.c,linV Y.a,linV Y.r],sz:=4 }).put 104 { cells:=[linV Y.d,linV Y.c,linV Y.a,linV Y.r],sz:=4 }).put 128 { cells:=losC L,sz:=2,ver:=vL,nl:=if L.length = 0 then 1 else 0,fz:=max zL (L.length * 2) }).put id { cells:=Q.map slI,sz:=1,ver:=ver,nl:=nq,fz:=max 0 Q.length }).put (m+16+72) { cells:=[.nils,.nils,.nils,.nils],sz:=4 }) (fun i=>i≤Q.length) (fun i=>Q.length - i) 0 (by rw [e1];rfl) (HS.refl _) (by omega) ?_
     clear e1
     rintro i nx hi hnx
     by_cases hw0:wantI x Q i = 0
     ·by_cases hil:i < Q.length
      ·have hs:=wantI_succ hil hw0
       have c19':=c18 Q[i] (by have:=hQ _ (List.getElem_mem hil);omega)
       have hQi:=hQ _ (List.getElem_mem hil)
       rw [bad_eq (by omega)] at hs
       rw [hw0]
       clear c15 c16 c17 c21 c18 hw0
       by_cases h0:Q[i].length = 0
       ·rw [decide_eq_false (by omega : ¬ Q[i].length ≠ 0), Bool.false_and, if_neg (by simp)] at hs
        refine W.run ?_
        exact W.kl (i+1) (by rw [hs];rfl) (HS.refl _) (by omega) (by omega) (by omega)
       ·rw [decide_eq_true h0,Bool.true_and] at hs
        by_cases h1:(Q[i].length:Int) = x.B+1
        ·rw [decide_eq_false (by omega : ¬ (Q[i].length : Int) ≠ x.B + 1), Bool.false_or] at hs
         by_cases h2:polyE x.P Q[i] = 0
         ·rw [decide_eq_false (by omega : ¬ polyE x.P Q[i] ≠ 0), if_neg (by simp)] at hs
          rw [h2] at c19'
          clear h2
          refine W.run ?_
          exact W.kl (i+1) (by rw [hs];rfl) (HS.refl _) (by omega) (by omega) (by omega)
         ·rw [decide_eq_true h2,if_pos rfl] at hs
          refine W.run ?_
          exact W.kl (i+1) (by rw [hs];rfl) (HS.refl _) (by omega) (by omega) (by omega)
        ·rw [decide_eq_true h1,Bool.true_or,if_pos rfl] at hs
         refine W.run ?_
         exact W.kl (i+1) (by rw [hs];rfl) (HS.refl _) (by omega) (by omega) (by omega)
      ·have hie : i = Q.length := by omega
       rw [hie] at hw0
       exact absurd hw0 hE
     ·have hfin:=wantI_stop hw0
      rw [← hfin]
      clear hfin hw0 c18 c17 c16 c15
      generalize wantI x Q Q.length = w at hE
      generalize polysM x l = Q2 at c21 hPl hPt
      rw [← hPl] at c21
      by_cases hil:i < Q.length
      all_goals
       refine W.run ?_
       refine W.kl0 (HC3 x Y L vL (max zL (L.length * 2)) Q2 none) ?_ ⟨(k+1,Q2,none,max zL (L.length * 2),_),⟨by dsimp only;omega,⟨hPt,by dsimp only;omega⟩,fun q hq=>(by cases hq),by dsimp only;omega,by dsimp only;omega⟩,rfl,by dsimp only;omega⟩ Nat.zero_lt_one
       exact HS.p (HS.p (HS.p (HS.p (HS.emp _))))
    ·clear e0
     have hw7:wantI x Q Q.length = 7:=by unfold wantI;rw [if_pos hn]
     rw [hw7] at hE c15
     refine W.run ?_
     refine W.lp (fun i:Nat=>[(1,.sl (l.map slI) l.length),(7,.ptr 40 0 0),(8,.ptr 96 0 0),(9,.ptr 104 0 0),(10,.ref 128 vL 0 L.length),(12,.ref id ver 0 Q.length),(14,.int .i64 (k:Int)),(15,.ptr (m+16+72) 0 0),(16,.int .i64 7),(17,.int .i64 7),(18,.int .i64 (i:Int))])
      (fun i=>(((((Hp.put (fun _=>none) 40 { cells:=[.int .i64 x.R,.int .i64 x.P,.int .i64 x.G,.int .i64 x.H,.int .i64 x.B,.int .i64 x.K],sz:=6 }).put 96 { cells:=[linV Y.d,linV Y.c,linV Y.a,linV Y.r],sz:=4 }).put 104 { cells:=[linV Y.d,linV Y.c,linV Y.a,linV Y.r],sz:=4 }).put 128 { cells:=losC L,sz:=2,ver:=vL,nl:=if L.length = 0 then 1 else 0,fz:=max zL (L.length * 2) }).put id { cells:=Q.map slI,sz:=1,ver:=ver,nl:=nq,fz:=max 0 Q.length }).put (m+16+72) { cells:=[.nils,.nils,.nils,.nils],sz:=4 }) (fun i=>True) (fun i=>0) 0 rfl (HS.refl _) trivial ?_
     rintro i nx - hnx
     clear c18 c17 c16 c15
     generalize polysM x l = Q2 at c21 hPl hPt
     rw [← hPl] at c21
     by_cases hil:i < Q.length
     all_goals
      refine W.run ?_
      refine W.kl0 (HC3 x Y L vL (max zL (L.length * 2)) Q2 none) ?_ ⟨(k+1,Q2,none,max zL (L.length * 2),_),⟨by dsimp only;omega,⟨hPt,by dsimp only;omega⟩,fun q hq=>(by cases hq),by dsimp only;omega,by dsimp only;omega⟩,rfl,by dsimp only;omega⟩ Nat.zero_lt_one
      exact HS.p (HS.p (HS.p (HS.p (HS.emp _))))
   ·by_cases hn:(Q.length:Int) = x.H
    ·have e1 : wantI x Q 0 = 0 := by rw [e0, if_neg (by omega)]
     clear e0
     refine W.run ?_
     refine W.lp (fun i:Nat=>[(1,.sl (l.map slI) l.length),(7,.ptr 40 0 0),(8,.ptr 96 0 0),(9,.ptr 104 0 0),(10,.ref 128 vL 0 L.length),(12,polV Q),(14,.int .i64 (k:Int)),(15,.ptr (m+16+72) 0 0),(16,.int .i64 (wantI x Q Q.length)),(17,.int .i64 (wantI x Q i)),(18,.int .i64 (i:Int))])
      (fun i=>(((((Hp.put (fun _=>none) 40 { cells:=[.int .i64 x.R,.int .i64 x.P,.int .i64 x.G,.int .i64 x.H,.int .i64 x.B,.int .i64 x.K],sz:=6 }).put 96 { cells:=[linV Y.d,linV Y.c,linV Y.a,linV Y.r],sz:=4 }).put 104 { cells:=[linV Y.d,linV Y.c,linV Y.a,linV Y.r],sz:=4 }).put 128 { cells:=losC L,sz:=2,ver:=vL,nl:=if L.length = 0 then 1 else 0,fz:=max zL (L.length * 2) })).put (m+16+72) { cells:=[.nils,.nils,.nils,.nils],sz:=4 }) (fun i=>i≤Q.length) (fun i=>Q.length - i) 0 (by rw [e1];rfl) (HS.refl _) (by omega) ?_
     clear e1
     rintro i nx hi hnx
     by_cases hw0:wantI x Q i = 0
     ·by_cases hil:i < Q.length
      ·have hs:=wantI_succ hil hw0
       have c19':=c18 Q[i] (by have:=hQ _ (List.getElem_mem hil);omega)
       have hQi:=hQ _ (List.getElem_mem hil)
       rw [bad_eq (by omega)] at hs
       rw [hw0]
       clear c15 c16 c17 c21 c18 hw0
       by_cases h0:Q[i].length = 0
       ·rw [decide_eq_false (by omega : ¬ Q[i].length ≠ 0), Bool.false_and, if_neg (by simp)] at hs
        refine W.run ?_
        exact W.kl (i+1) (by rw [hs];rfl) (HS.refl _) (by omega) (by omega) (by omega)
       ·rw [decide_eq_true h0,Bool.true_and] at hs
        by_cases h1:(Q[i].length:Int) = x.B+1
        ·rw [decide_eq_false (by omega : ¬ (Q[i].length : Int) ≠ x.B + 1), Bool.false_or] at hs
         by_cases h2:polyE x.P Q[i] = 0
         ·rw [decide_eq_false (by omega : ¬ polyE x.P Q[i] ≠ 0), if_neg (by simp)] at hs
          rw [h2] at c19'
          clear h2
          refine W.run ?_
          exact W.kl (i+1) (by rw [hs];rfl) (HS.refl _) (by omega) (by omega) (by omega)
         ·rw [decide_eq_true h2,if_pos rfl] at hs
          refine W.run ?_
          exact W.kl (i+1) (by rw [hs];rfl) (HS.refl _) (by omega) (by omega) (by omega)
        ·rw [decide_eq_true h1,Bool.true_or,if_pos rfl] at hs
         refine W.run ?_
         exact W.kl (i+1) (by rw [hs];rfl) (HS.refl _) (by omega) (by omega) (by omega)
      ·have hie : i = Q.length := by omega
       rw [hie] at hw0
       exact absurd hw0 hE
     ·have hfin:=wantI_stop hw0
      rw [← hfin]
      clear hfin hw0 c18 c17 c16 c15
      generalize wantI x Q Q.length = w at hE
      generalize polysM x l = Q2 at c21 hPl hPt
      rw [← hPl] at c21
      by_cases hil:i < Q.length
      all_goals
       refine W.run ?_
       refine W.kl0 (HC3 x Y L vL (max zL (L.length * 2)) Q2 none) ?_ ⟨(k+1,Q2,none,max zL (L.length * 2),_),⟨by dsimp only;omega,⟨hPt,by dsimp only;omega⟩,fun q hq=>(by cases hq),by dsimp only;omega,by dsimp only;omega⟩,rfl,by dsimp only;omega⟩ Nat.zero_lt_one
       exact HS.p (HS.p (HS.p (HS.p (HS.emp _))))
    ·clear e0
     have hw7:wantI x Q Q.length = 7:=by unfold wantI;rw [if_pos hn]
     rw [hw7] at hE c15
     refine W.run ?_
     refine W.lp (fun i:Nat=>[(1,.sl (l.map slI) l.length),(7,.ptr 40 0 0),(8,.ptr 96 0 0),(9,.ptr 104 0 0),(10,.ref 128 vL 0 L.length),(12,polV Q),(14,.int .i64 (k:Int)),(15,.ptr (m+16+72) 0 0),(16,.int .i64 7),(17,.int .i64 7),(18,.int .i64 (i:Int))])
      (fun i=>(((((Hp.put (fun _=>none) 40 { cells:=[.int .i64 x.R,.int .i64 x.P,.int .i64 x.G,.int .i64 x.H,.int .i64 x.B,.int .i64 x.K],sz:=6 }).put 96 { cells:=[linV Y.d,linV Y.c,linV Y.a,linV Y.r],sz:=4 }).put 104 { cells:=[linV Y.d,linV Y.c,linV Y.a,linV Y.r],sz:=4 }).put 128 { cells:=losC L,sz:=2,ver:=vL,nl:=if L.length = 0 then 1 else 0,fz:=max zL (L.length * 2) })).put (m+16+72) { cells:=[.nils,.nils,.nils,.nils],sz:=4 }) (fun i=>True) (fun i=>0) 0 rfl (HS.refl _) trivial ?_
     rintro i nx - hnx
     clear c18 c17 c16 c15
     generalize polysM x l = Q2 at c21 hPl hPt
     rw [← hPl] at c21
     by_cases hil:i < Q.length
     all_goals
      refine W.run ?_
      refine W.kl0 (HC3 x Y L vL (max zL (L.length * 2)) Q2 none) ?_ ⟨(k+1,Q2,none,max zL (L.length * 2),_),⟨by dsimp only;omega,⟨hPt,by dsimp only;omega⟩,fun q hq=>(by cases hq),by dsimp only;omega,by dsimp only;omega⟩,rfl,by dsimp only;omega⟩ Nat.zero_lt_one
      exact HS.p (HS.p (HS.p (HS.p (HS.emp _))))
 ·have hke : k = 2 := by omega
  subst hke
  rcases pq with _ | ⟨id,ver,nq,fq⟩
  case' some=>obtain ⟨hi1,hi2,rfl⟩:=hid _ rfl;dsimp only at hi1 hi2
  all_goals
   dsimp only [HC3,pv3]
   refine W.run ?_
   exact W.kcN hG () (by omega) (HS.p (HS.emp _))
end Go.Dp
