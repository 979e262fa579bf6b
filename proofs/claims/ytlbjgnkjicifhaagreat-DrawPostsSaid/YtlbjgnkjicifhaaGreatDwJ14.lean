/- The reference's Post, phase 2. -/
import Derived.Test.YtlbjgnkjicifhaaGreatDwJ12
namespace Go.Dp
open Go.RowKit Go.Proofs
attribute [local irreducible] wp wpOps wpOp1 CallW CallT kSeq kBlk kLoop kReg retP retR kAsg kRound kRf kCut kItr kItr2
set_option linter.unusedVariables false
set_option linter.unusedSimpArgs false
set_option maxRecDepth 10000 in
set_option maxHeartbeats 2000000 in
theorem k28_2 (c:Cf) (hc:c.Ok) (b:Brd) (hb:b.Ok) (hall:Int) (hh:1≤hall∧hall≤c.H) (poly got:List Int) (hgl:(got.length:Int) = c.H) (hp:polyE c.P poly = 0):PureC Tryz.prog 28 [c.v,.int .i64 hall,slI poly,slI got,bdV b,.int .i64 2] (fun r=>r = .own (linN (postM c b hall poly got 2)) (postM c b hall poly got 2).length 4):=by
 have hr:=hc.rng
 have c1:=fun j=>k68 c hc b hb j
 have hdo:=fun k A (e:b.deal c k = some A)=>deal_ok hb e
 have c2:=fun (A:List Int) (h1:A.length < 2 ^ 40) (h2:∀ x∈A,B64 x) (n:Int)=>k69 hc.1 A A.length rfl h1 h2 hall n
 have c5:=fun (x:Int) (hx:0≤x∧x < 2 ^ 40)=>k29 (R:=c.R) (G:=c.G) hc.1.hP poly poly.length rfl (by have:=polyE_len hp;omega) (polyE_rng hp) x hx
 have c6:=fun j=>k70 c hc b hb j hall
 clear hc hb
 show PureC _ _ _ (fun r=>r = .own (linN ((oth c hall).flatMap (post2 c b hall poly))) ((oth c hall).flatMap (post2 c b hall poly)).length 4)
 rw [← upO_all]
 have hl1:∀ k,(post2 c b hall poly k).length≤1:=fun k=>by unfold post2;split <;> simp
 have hlen:=fun j=>upO_len (hall:=hall) hl1 j
 refine pureC_of_wp (.s 4) mixed ok28 rfl ?_
 unfold c28
 dsimp only [argE,Cf.v,cfgV,bdV]
 refine W.run ?_
 refine W.loop (fun y:Nat × List (Ln × V) × List (Nat × Ob) × Nat=>⟨[(1,.int .i64 hall),(2,slI poly),(3,slI got),(5,.int .i64 2),(6,.ptr 0 0 0),(10,.ptr 8 0 0),(13,.ref 24 y.2.1.length 0 y.2.1.length),(15,.int .i64 ((y.1:Int)+1))],HpY c b y.2.1 y.2.2.1 y.2.2.2,y.2.2.2⟩)
  (fun y=>y.1≤c.H.toNat∧y.2.1.map Prod.fst = upO hall (post2 c b hall poly) y.1∧InvY y.2.1 y.2.2.1 y.2.2.2) (fun y=>c.H.toNat - y.1) (0,[],[],120) ⟨by dsimp only;omega,rfl,InvY.nil (by dsimp only;omega)⟩ ?_ rfl (HS.refl _) rfl
 rintro ⟨j,X,os,n⟩ ⟨h1,h2,h3⟩
 dsimp only at h1 h2 h3 ⊢
 have hXl:=hlen j
 rw [← h2,List.length_map] at hXl
 have hX4:=lnsC_len X
 unfold HpY
 have hb3:=h3.1
 have hn3:=h3.2.1
 by_cases hj:j < c.H.toNat
 ·by_cases he:(j:Int)+1 = hall
  ·have hs:=upO_skip (f:=post2 c b hall poly) he
   clear hdo c2 c1 c5 c6
   refine W.run ?_
   refine W.kl0 _ ?_ ⟨(j+1,X,os,_),⟨by dsimp only;omega,by rw [hs];exact h2,h3.mono (by dsimp only;omega)⟩,rfl,by dsimp only;omega⟩ Nat.zero_lt_one <;> exact HS.refl _
  ·have hs:=upO_succ (f:=post2 c b hall poly) he
   have c3:=c1 ((j:Int)+1)
   have hno:post2 c b hall poly ((j:Int)+1) = []→X.map Prod.fst = upO hall (post2 c b hall poly) (j+1):=fun e=>by rw [hs,e,List.append_nil];exact h2
   have hgi:((j:Int)+1 - 1).toNat < got.length:=by omega
   have c7:=c6 ((j:Int)+1)
   have c8:=c5 ((j:Int)+1) (by omega)
   cases hd:b.deal c ((j:Int)+1) with
   | none =>
    rw [hd] at c3
    dsimp only [dealV] at c3
    clear hdo c2 c1 c5 c6
    cases hcm:b.compl c ((j:Int)+1) hall
    ·rw [hcm] at c7
     have hs2:=hno (by rw [post2,hcm];rfl)
     clear hno hs
     refine W.run ?_
     refine W.kl0 _ ?_ ⟨(j+1,X,os,_),⟨by dsimp only;omega,hs2,h3.mono (by dsimp only;omega)⟩,rfl,by dsimp only;omega⟩ Nat.zero_lt_one <;> exact HS.refl _
    ·rw [hcm] at c7
     have hs2:upO hall (post2 c b hall poly) (j+1) = upO hall (post2 c b hall poly) j++[⟨hall,3,(j:Int)+1,[valM c.P ((j:Int)+1) poly]⟩]:=by rw [hs,post2,hcm];rfl
     clear hno hs
     refine W.run ?_
     refine W.kl0 (HpY c b (X++[(⟨hall,3,(j:Int)+1,[valM c.P ((j:Int)+1) poly]⟩,.ref (n+320+64) 0 0 1)]) (os++[(n+320+64,{ cells:=[.int .i64 (valM c.P ((j:Int)+1) poly)],sz:=1,ver:=0 })]) (n+448)) (HpY_num hb3 (by omega) (by omega) (by omega)) ⟨(j+1,X++[(⟨hall,3,(j:Int)+1,[valM c.P ((j:Int)+1) poly]⟩,.ref (n+320+64) 0 0 1)],os++[(n+320+64,{ cells:=[.int .i64 (valM c.P ((j:Int)+1) poly)],sz:=1,ver:=0 })],n+448),⟨by dsimp only;omega,?_,h3.num (x:=⟨hall,3,(j:Int)+1,[valM c.P ((j:Int)+1) poly]⟩) (by dsimp only;omega) (by dsimp only;decide)⟩,St_fr (by dsimp only;rw [List.length_append];rfl),by dsimp only;omega⟩ Nat.zero_lt_one
     dsimp only
     rw [List.map_append,h2,hs2];rfl
   | some A =>
    rw [hd] at c3
    dsimp only [dealV] at c3
    have hA:=hdo _ A hd
    have c4:=c2 A (by omega) hA.2.1 got[((j:Int)+1 - 1).toNat]
    clear hdo c2 c1 c5 c6
    cases hcm:b.compl c ((j:Int)+1) hall
    ·rw [hcm] at c7
     have hs2:=hno (by rw [post2,hcm];rfl)
     clear hno hs
     refine W.run ?_
     refine W.kl0 _ ?_ ⟨(j+1,X,os,_),⟨by dsimp only;omega,hs2,h3.mono (by dsimp only;omega)⟩,rfl,by dsimp only;omega⟩ Nat.zero_lt_one <;> exact HS.refl _
    ·rw [hcm] at c7
     have hs2:upO hall (post2 c b hall poly) (j+1) = upO hall (post2 c b hall poly) j++[⟨hall,3,(j:Int)+1,[valM c.P ((j:Int)+1) poly]⟩]:=by rw [hs,post2,hcm];rfl
     clear hno hs
     refine W.run ?_
     refine W.kl0 (HpY c b (X++[(⟨hall,3,(j:Int)+1,[valM c.P ((j:Int)+1) poly]⟩,.ref (n+320+64) 0 0 1)]) (os++[(n+320+64,{ cells:=[.int .i64 (valM c.P ((j:Int)+1) poly)],sz:=1,ver:=0 })]) (n+448)) (HpY_num hb3 (by omega) (by omega) (by omega)) ⟨(j+1,X++[(⟨hall,3,(j:Int)+1,[valM c.P ((j:Int)+1) poly]⟩,.ref (n+320+64) 0 0 1)],os++[(n+320+64,{ cells:=[.int .i64 (valM c.P ((j:Int)+1) poly)],sz:=1,ver:=0 })],n+448),⟨by dsimp only;omega,?_,h3.num (x:=⟨hall,3,(j:Int)+1,[valM c.P ((j:Int)+1) poly]⟩) (by dsimp only;omega) (by dsimp only;decide)⟩,St_fr (by dsimp only;rw [List.length_append];rfl),by dsimp only;omega⟩ Nat.zero_lt_one
     dsimp only
     rw [List.map_append,h2,hs2];rfl
 ·have hj2 : j = c.H.toNat := by omega
  subst hj2
  obtain ⟨H',hf⟩:=InvY.fin (c:=c) (b:=b) h3
  unfold HpY at hf
  clear c1 c2 hdo c5 c6
  refine W.run ?_
  rw [h2] at hf
  exact W.retP rfl hf rfl
end Go.Dp
