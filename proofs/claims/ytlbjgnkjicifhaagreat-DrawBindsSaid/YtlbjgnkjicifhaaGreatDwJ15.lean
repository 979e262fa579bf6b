/- The reference's Post, phase 3. -/
import Derived.Test.YtlbjgnkjicifhaaGreatDwJ12
import Derived.Test.YtlbjgnkjicifhaaGreatDwQ0
namespace Go.Dp
open Go.RowKit Go.Proofs
attribute [local irreducible] wp wpOps wpOp1 CallW CallT kSeq kBlk kLoop kReg retP retR kAsg kRound kRf kCut kItr kItr2
set_option linter.unusedVariables false
set_option linter.unusedSimpArgs false
theorem ansB_neg {c:Cf} {b:Brd} {h k:Int} (hf:b.ans c h k < 0):ansB c b h k = false:=by
 unfold ansB ansL
 rw [(fstI_find _ _).1 hf]
theorem isIn_none {c:Cf} {b:Brd} {k:Int} (hd:b.deal c k = none):isInM c b k = false:=by
 unfold isInM;rw [hd];rfl
theorem upO_0 (hall:Int) (f:Int→List Ln):upO hall f 0 = []:=rfl
set_option maxRecDepth 10000 in
set_option maxHeartbeats 4000000 in
theorem k28_3l (c:Cf) (hc:c.Ok) (b:Brd) (hb:b.Ok) (hall:Int) (hh:1≤hall∧hall≤c.H) (poly got:List Int) (hgl:(got.length:Int) = c.H) (R:V→Prop) (X0:List (Ln × V)) (os0:List (Nat × Ob)) (n0:Nat) (h0:X0.map Prod.fst = pre3 c b hall poly) (hI:InvY X0 os0 n0)
  (hR:R (.own (linN (postM c b hall poly got 3)) (postM c b hall poly got 3).length 4)) :
  wp Tryz.prog Ys.none (rtC (rtC (rtC (rtC c28)))) (retP [.tmp 12] (.s 4) R) ⟨[(1,.int .i64 hall),(2,slI poly),(3,slI got),(5,.int .i64 3),(6,.ptr 0 0 0),(10,.ptr 8 0 0),(13,.ref 24 X0.length 0 X0.length)],HpY c b X0 os0 n0,n0⟩:=by
 have hr:=hc.rng
 have c1:=fun j=>k68 c hc b hb j
 have hdo:=fun k A (e:b.deal c k = some A)=>deal_ok hb e
 have c2:=fun (A:List Int) (h1:A.length < 2 ^ 40) (h2:∀ x∈A,B64 x) (n:Int)=>k69 hc.1 A A.length rfl h1 h2 hall n
 have c5:=fun j=>k67 c hc b hb j
 have c6:=fun j=>k71 c hc b hb j hall
 have c7:=fun i hi hn=>k72 c hc b hb i hi hn
 have hal:=hb.2.2.1.1
 clear hc hb
 change R (.own (linN (pre3 c b hall poly++(oth c hall).flatMap (post3 c b hall got))) (pre3 c b hall poly++(oth c hall).flatMap (post3 c b hall got)).length 4) at hR
 rw [← upO_all] at hR
 have hl1:∀ k,(post3 c b hall got k).length≤1:=fun k=>by unfold post3;split;split;simp;split <;> simp;simp
 have hlen:=fun j=>upO_len (hall:=hall) hl1 j
 have hpl:(pre3 c b hall poly).length≤1:=by unfold pre3;split <;> simp
 have hX0:X0.length≤1:=by rw [← h0,List.length_map] at hpl;exact hpl
 unfold c28
 dsimp only [rtC]
 refine W.run ?_
 refine W.loop (fun y:Nat × List (Ln × V) × List (Nat × Ob) × Nat=>⟨[(1,.int .i64 hall),(2,slI poly),(3,slI got),(5,.int .i64 3),(6,.ptr 0 0 0),(10,.ptr 8 0 0),(13,.ref 24 y.2.1.length 0 y.2.1.length),(15,.int .i64 ((y.1:Int)+1))],HpY c b y.2.1 y.2.2.1 y.2.2.2,y.2.2.2⟩)
  (fun y=>y.1≤c.H.toNat∧y.2.1.map Prod.fst = pre3 c b hall poly++upO hall (post3 c b hall got) y.1∧InvY y.2.1 y.2.2.1 y.2.2.2) (fun y=>c.H.toNat - y.1) (0,X0,os0,n0+8) ⟨by dsimp only;omega,by dsimp only;rw [upO_0,List.append_nil];exact h0,hI.mono (by dsimp only;omega)⟩ ?_ rfl (HS.refl _) rfl
 clear hI
 rintro ⟨j,X,os,n⟩ ⟨h1,h2,h3⟩
 dsimp only at h1 h2 h3 ⊢
 have hXl:=hlen j
 have hX4:=lnsC_len X
 have hXl2:X.length≤j+1:=by
  have:=congrArg List.length h2
  rw [List.length_map,List.length_append] at this;omega
 clear hXl
 unfold HpY
 have hb3:=h3.1
 have hn3:=h3.2.1
 by_cases hj:j < c.H.toNat
 ·by_cases he:(j:Int)+1 = hall
  ·have hs:=upO_skip (f:=post3 c b hall got) he
   clear hdo c2 c1 c5 c6 c7
   refine W.run ?_
   refine W.kl0 _ ?_ ⟨(j+1,X,os,_),⟨by dsimp only;omega,by rw [hs];exact h2,h3.mono (by dsimp only;omega)⟩,rfl,by dsimp only;omega⟩ Nat.zero_lt_one <;> exact HS.refl _
  ·have hs:=upO_succ (f:=post3 c b hall got) he
   have c3:=c1 ((j:Int)+1)
   have hno:post3 c b hall got ((j:Int)+1) = []→X.map Prod.fst = pre3 c b hall poly++upO hall (post3 c b hall got) (j+1):=fun e=>by rw [hs,e,List.append_nil];exact h2
   have hadd:∀ v w,post3 c b hall got ((j:Int)+1) = [⟨hall,5,(j:Int)+1,[v]⟩]→(X++[((⟨hall,5,(j:Int)+1,[v]⟩:Ln),w)]).map Prod.fst = pre3 c b hall poly++upO hall (post3 c b hall got) (j+1):=fun v w e=>by rw [hs,e,List.map_append,h2,List.append_assoc];rfl
   have hgi:((j:Int)+1 - 1).toNat < got.length:=by omega
   have hgj:=(gotM_get hgi).symm
   have c8:=c5 ((j:Int)+1)
   have c9:=c6 ((j:Int)+1)
   clear hs
   cases hd:b.deal c ((j:Int)+1) with
   | none =>
    rw [hd] at c3
    dsimp only [dealV] at c3
    have hin:=isIn_none hd
    rw [hin] at c8
    have hs2:=hno (by rw [post3,hin];rfl)
    clear hdo c2 c1 c5 c6 c7 hno hadd
    refine W.run ?_
    refine W.kl0 _ ?_ ⟨(j+1,X,os,_),⟨by dsimp only;omega,hs2,h3.mono (by dsimp only;omega)⟩,rfl,by dsimp only;omega⟩ Nat.zero_lt_one <;> exact HS.refl _
   | some A =>
    rw [hd] at c3
    dsimp only [dealV] at c3
    have hA:=hdo _ A hd
    have c4:=c2 A (by omega) hA.2.1 got[((j:Int)+1 - 1).toNat]
    have hft:fitsM c b ((j:Int)+1) hall (gotM got ((j:Int)+1)) = fitB c.R c.P c.G A hall got[((j:Int)+1 - 1).toNat]:=by unfold fitsM;rw [hd,hgj]
    clear hdo c2 c1 c5 c6
    cases hin:isInM c b ((j:Int)+1)
    ·rw [hin] at c8
     have hs2:=hno (by rw [post3,hin];rfl)
     clear c7 hno hadd hft
     refine W.run ?_
     refine W.kl0 _ ?_ ⟨(j+1,X,os,_),⟨by dsimp only;omega,hs2,h3.mono (by dsimp only;omega)⟩,rfl,by dsimp only;omega⟩ Nat.zero_lt_one <;> exact HS.refl _
    ·rw [hin] at c8
     cases hf:fitB c.R c.P c.G A hall got[((j:Int)+1 - 1).toNat]
     ·rw [hf] at c4 hft
      by_cases ha:b.ans c ((j:Int)+1) hall < 0
      ·have hs2 := hno (by rw [post3, hin, hft, ansB_neg ha]; rfl)
       clear c7 hno hadd hft
       refine W.run ?_
       refine W.kl0 _ ?_ ⟨(j+1,X,os,_),⟨by dsimp only;omega,hs2,h3.mono (by dsimp only;omega)⟩,rfl,by dsimp only;omega⟩ Nat.zero_lt_one <;> exact HS.refl _
      ·obtain ⟨i, hi⟩ : ∃ i : Nat, b.ans c ((j : Int) + 1) hall = i := ⟨_, (Int.toNat_of_nonneg (by omega)).symm⟩
       obtain ⟨hil,hq,hl⟩:=ans_at hi
       have hnl:=ans_len hq
       have c10:=c7 i hil hnl
       simp only [qAns,Bool.and_eq_true,decide_eq_true_eq] at hq
       rw [hq.1.2,hq.2] at c10
       have hab:ansB c b ((j:Int)+1) hall = fitsM c b ((j:Int)+1) hall (b.a[i].nums.headD 0):=by unfold ansB;rw [hl]
       have han:ansN c b ((j:Int)+1) hall = b.a[i].nums.headD 0:=by unfold ansN;rw [hl]
       have hhd:=headD_get (l:=b.a[i].nums) (by omega)
       rw [hi] at c9
       clear hq
       cases hfa:fitsM c b ((j:Int)+1) hall (b.a[i].nums.headD 0)
       ·rw [hfa] at c10 hab
        have hs2:=hno (by rw [post3,hin,hft,hab];rfl)
        clear c7 hno hadd hft hab han hhd
        refine W.run ?_
        refine W.kl0 _ ?_ ⟨(j+1,X,os,_),⟨by dsimp only;omega,hs2,h3.mono (by dsimp only;omega)⟩,rfl,by dsimp only;omega⟩ Nat.zero_lt_one <;> exact HS.refl _
       ·rw [hfa] at c10 hab
        have hs2:=fun w=>hadd b.a[i].nums[0] w (by rw [post3,hin,hft,hab,han,hhd];rfl)
        clear c7 hno hadd hft hab han hhd
        refine W.run ?_
        refine W.kl0 (HpY c b (X++[((⟨hall,5,(j:Int)+1,[b.a[i].nums[0]]⟩:Ln),.ref (n+440+88) 0 0 1)]) (os++[(n+440+88,{ cells:=[.int .i64 b.a[i].nums[0]],sz:=1,ver:=0 })]) (n+592)) (HpY_num hb3 (by omega) (by omega) (by omega)) ⟨(j+1,X++[((⟨hall,5,(j:Int)+1,[b.a[i].nums[0]]⟩:Ln),.ref (n+440+88) 0 0 1)],os++[(n+440+88,{ cells:=[.int .i64 b.a[i].nums[0]],sz:=1,ver:=0 })],n+592),⟨by dsimp only;omega,hs2 _,h3.num (x:=(⟨hall,5,(j:Int)+1,[b.a[i].nums[0]]⟩:Ln)) (by dsimp only;omega) (by dsimp only;decide)⟩,St_fr (by dsimp only;rw [List.length_append];rfl),by dsimp only;omega⟩ Nat.zero_lt_one
     ·rw [hf] at c4 hft
      have hs2:=fun w=>hadd got[((j:Int)+1 - 1).toNat] w (by rw [post3,hin,hft,hgj];rfl)
      clear c7 hno hadd hft hgj
      refine W.run ?_
      refine W.kl0 (HpY c b (X++[((⟨hall,5,(j:Int)+1,[got[((j:Int)+1 - 1).toNat]]⟩:Ln),.ref (n+328+64) 0 0 1)]) (os++[(n+328+64,{ cells:=[.int .i64 got[((j:Int)+1 - 1).toNat]],sz:=1,ver:=0 })]) (n+456)) (HpY_num hb3 (by omega) (by omega) (by omega)) ⟨(j+1,X++[((⟨hall,5,(j:Int)+1,[got[((j:Int)+1 - 1).toNat]]⟩:Ln),.ref (n+328+64) 0 0 1)],os++[(n+328+64,{ cells:=[.int .i64 got[((j:Int)+1 - 1).toNat]],sz:=1,ver:=0 })],n+456),⟨by dsimp only;omega,hs2 _,h3.num (x:=(⟨hall,5,(j:Int)+1,[got[((j:Int)+1 - 1).toNat]]⟩:Ln)) (by dsimp only;omega) (by dsimp only;decide)⟩,St_fr (by dsimp only;rw [List.length_append];rfl),by dsimp only;omega⟩ Nat.zero_lt_one
 ·have hj2 : j = c.H.toNat := by omega
  subst hj2
  obtain ⟨H',hf⟩:=InvY.fin (c:=c) (b:=b) h3
  unfold HpY at hf
  clear c1 c2 hdo c5 c6 c7
  refine W.run ?_
  rw [h2] at hf
  exact W.retP rfl hf hR
set_option maxRecDepth 10000 in
set_option maxHeartbeats 2000000 in
theorem k28_3 (c:Cf) (hc:c.Ok) (b:Brd) (hb:b.Ok) (hall:Int) (hh:1≤hall∧hall≤c.H) (poly got:List Int) (hgl:(got.length:Int) = c.H) (hp:polyE c.P poly = 0):PureC Tryz.prog 28 [c.v,.int .i64 hall,slI poly,slI got,bdV b,.int .i64 3] (fun r=>r = .own (linN (postM c b hall poly got 3)) (postM c b hall poly got 3).length 4):=by
 have hpl:=polyE_len hp
 have c5:=k67 c hc b hb hall
 refine pureC_of_wp (.s 4) mixed ok28 rfl ?_
 unfold c28
 dsimp only [argE,Cf.v,cfgV,bdV]
 cases hin:isInM c b hall
 ·rw [hin] at c5
  have hpre:pre3 c b hall poly = []:=by rw [pre3,hin];rfl
  refine W.assoc (W.assoc (W.assoc (W.cut (fun _:Unit=>[(1,.int .i64 hall),(2,slI poly),(3,slI got),(5,.int .i64 3),(6,.ptr 0 0 0),(10,.ptr 8 0 0),(13,.ref 24 0 0 0)]) (fun _=>HpY c b [] [] 32) (fun _=>True) 32 ?_ ?_)))
  ·rintro _ n _ hn
   exact k28_3l c hc b hb hall hh poly got hgl _ [] [] n (by rw [hpre];rfl) (InvY.nil (by omega)) rfl
  ·intro Gk hG
   clear hc hb hpre
   refine W.run ?_
   exact W.kc hG () trivial (by omega) (HS.refl _)
 ·rw [hin] at c5
  have hpre:pre3 c b hall poly = [⟨hall,4,0,poly⟩]:=by rw [pre3,hin];rfl
  refine W.assoc (W.assoc (W.assoc (W.cut (fun _:Unit=>[(1,.int .i64 hall),(2,slI poly),(3,slI got),(5,.int .i64 3),(6,.ptr 0 0 0),(10,.ptr 8 0 0),(13,.ref 24 1 0 1)]) (fun _=>HpY c b [(⟨hall,4,0,poly⟩,.ref 112 1 0 poly.length)] [(112,{ cells:=poly.map (V.int .i64),sz:=1,ver:=1 })] 200) (fun _=>True) 200 ?_ ?_)))
  ·rintro _ n _ hn
   exact k28_3l c hc b hb hall hh poly got hgl _ [(⟨hall,4,0,poly⟩,.ref 112 1 0 poly.length)] [(112,{ cells:=poly.map (V.int .i64),sz:=1,ver:=1 })] n (by rw [hpre];rfl) ((InvY.nil (n:=32) (by omega)).num (x:=⟨hall,4,0,poly⟩) (by omega) (by dsimp only;decide)) rfl
  ·intro Gk hG
   clear hc hb hpre
   refine W.run ?_
   refine W.kc hG () trivial (by omega) ?_
   unfold HpY
   exact HS.skip (HS.refl _) (by unfold HpV;rw [List.foldl_cons,List.foldl_nil,put_ne (by dsimp only;omega),put_ne (by omega),HB_none (by omega)]) _
end Go.Dp
