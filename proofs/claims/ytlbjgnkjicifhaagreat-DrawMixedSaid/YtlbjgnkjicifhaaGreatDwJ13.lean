import Derived.Test.YtlbjgnkjicifhaaGreatDwJ14
import Derived.Test.YtlbjgnkjicifhaaGreatDwQ0
import Derived.Test.YtlbjgnkjicifhaaGreatDwM3
namespace Go.Dp
open Go.RowKit Go.Proofs
attribute [local irreducible] wp wpOps wpOp1 CallW CallT kSeq kBlk kLoop kReg retP retR kAsg kRound kRf kCut kItr kItr2
set_option linter.unusedVariables false
set_option linter.unusedSimpArgs false
theorem ansB_neg {c:Cf} {b:Brd} {h k:Int} (hf:b.ans c h k < 0):ansB c b h k = false:=by
 unfold ansB ansL
 rw [(fstI_find _ _).1 hf]
theorem isIn_none {c:Cf} {b:Brd} {k:Int} (hd:b.deal c k = none):isInM c b k = false:=by
 unfold isInM;rw [hd];rfl
theorem upO_0 (hall:Int) (f:Int→List Ln):upO hall f 0 = []:=rfl
set_option maxRecDepth 10000 in
set_option maxHeartbeats 4000000 in
theorem k28_3l (c:Cf) (hc:c.Ok) (b:Brd) (hb:b.Ok) (hall:Int) (hh:1≤hall∧hall≤c.H) (poly got:List Int) (hgl:(got.length:Int) = c.H) (R:V→Prop) (X0:List (Ln × V)) (os0:List (Nat × Ob)) (n0:Nat) (h0:X0.map Prod.fst = pre3 c b hall poly) (hI:InvY X0 os0 n0)
  (hR:R (.own (linN (postM c b hall poly got 3)) (postM c b hall poly got 3).length 4)) :
  wp Tryz.prog Ys.none (rtC (rtC (rtC (rtC c28)))) (retP [.tmp 12] (.s 4) R) ⟨[(1,.int .i64 hall),(2,slI poly),(3,slI got),(5,.int .i64 3),(6,.ptr 0 0 0),(10,.ptr 8 0 0),(13,.ref 24 X0.length 0 X0.length)],HpY c b X0 os0 n0,n0⟩:=by
 have hr:=hc.rng
 have c1:=fun j=>k68 c hc b hb j
 have hdo:=fun k A (e:b.deal c k = some A)=>deal_ok hb e
 have c2:=fun (A:List Int) (h1:A.length < 2 ^ 40) (h2:∀ x∈A,B64 x) (n:Int)=>k69 hc.1 A A.length rfl h1 h2 hall n
 have c5:=fun j=>k67 c hc b hb j
 have c6:=fun j=>k71 c hc b hb j hall
 have c7:=fun i hi hn=>k72 c hc b hb i hi hn
 have hal:=hb.2.2.1.1
 clear hc hb
 change R (.own (linN (pre3 c b hall poly++(oth c hall).flatMap (post3 c b hall got))) (pre3 c b hall poly++(oth c hall).flatMap (post3 c b hall got)).length 4) at hR
 rw [← upO_all] at hR
 have hl1:∀ k,(post3 c b hall got k).length≤1:=fun k=>by unfold post3;split;split;simp;split <;> simp;simp
 have hlen:=fun j=>upO_len (hall:=hall) hl1 j
 have hpl:(pre3 c b hall poly).length≤1:=by unfold pre3;split <;> simp
 have hX0:X0.length≤1:=by rw [← h0,List.length_map] at hpl;exact hpl
 unfold c28
 dsimp only [rtC]
 refine W.run ?_
 refine W.loop (fun y:Nat × List (Ln × V) × List (Nat × Ob) × Nat=>⟨[(1,.int .i64 hall),(2,slI poly),(3,slI got),(5,.int .i64 3),(6,.ptr 0 0 0),(10,.ptr 8 0 0),(13,.ref 24 y.2.1.length 0 y.2.1.length),(15,.int .i64 ((y.1:Int)+1))],HpY c b y.2.1 y.2.2.1 y.2.2.2,y.2.2.2⟩)
  (fun y=>y.1≤c.H.toNat∧y.2.1.map Prod.fst = pre3 c b hall poly++upO hall (post3 c b hall got) y.1∧InvY y.2.1 y.2.2.1 y.2.2.2) (fun y=>c.H.toNat - y.1) (0,X0,os0,n0+8) ⟨by dsimp only;omega,by dsimp only;rw [upO_0,List.append_nil];exact h0,hI.mono (by dsimp only;omega)⟩ ?_ rfl (HS.refl _) rfl
 clear hI
 rintro ⟨j,X,os,n⟩ ⟨h1,h2,h3⟩
 dsimp only at h1 h2 h3 ⊢
 have hXl:=hlen j
 have hX4:=lnsC_len X
 have hXl2:X.length≤j+1:=by
  have:=congrArg List.length h2
  rw [List.length_map,List.length_append] at this;omega
 clear hXl
 unfold HpY
 have hb3:=h3.1
 have hn3:=h3.2.1
 by_cases hj:j < c.H.toNat
 ·by_cases he:(j:Int)+1 = hall
  ·have hs:=upO_skip (f:=post3 c b hall got) he
   clear hdo c2 c1 c5 c6 c7
   refine W.run ?_
   refine W.kl0 _ ?_ ⟨(j+1,X,os,_),⟨by dsimp only;omega,by rw [hs];exact h2,h3.mono (by dsimp only;omega)⟩,rfl,by dsimp only;omega⟩ Nat.zero_lt_one <;> exact HS.refl _
  ·have hs:=upO_succ (f:=post3 c b hall got) he
   have c3:=c1 ((j:Int)+1)
   have hno:post3 c b hall got ((j:Int)+1) = []→X.map Prod.fst = pre3 c b hall poly++upO hall (post3 c b hall got) (j+1):=fun e=>by rw [hs,e,List.append_nil];exact h2
   have hadd:∀ v w,post3 c b hall got ((j:Int)+1) = [⟨hall,5,(j:Int)+1,[v]⟩]→(X++[((⟨hall,5,(j:Int)+1,[v]⟩:Ln),w)]).map Prod.fst = pre3 c b hall poly++upO hall (post3 c b hall got) (j+1):=fun v w e=>by rw [hs,e,List.map_append,h2,List.append_assoc];rfl
   have hgi:((j:Int)+1 - 1).toNat < got.length:=by omega
   have hgj:=(gotM_get hgi).symm
   have c8:=c5 ((j:Int)+1)
   have c9:=c6 ((j:Int)+1)
   clear hs
   cases hd:b.deal c ((j:Int)+1) with
   | none =>
    rw [hd] at c3
    dsimp only [dealV] at c3
    have hin:=isIn_none hd
    rw [hin] at c8
    have hs2:=hno (by rw [post3,hin];rfl)
    clear hdo c2 c1 c5 c6 c7 hno hadd
    refine W.run ?_
    refine W.kl0 _ ?_ ⟨(j+1,X,os,_),⟨by dsimp only;omega,hs2,h3.mono (by dsimp only;omega)⟩,rfl,by dsimp only;omega⟩ Nat.zero_lt_one <;> exact HS.refl _
   | some A =>
    rw [hd] at c3
    dsimp only [dealV] at c3
    have hA:=hdo _ A hd
    have c4:=c2 A (by omega) hA.2.1 got[((j:Int)+1 - 1).toNat]
    have hft:fitsM c b ((j:Int)+1) hall (gotM got ((j:Int)+1)) = fitB c.R c.P c.G A hall got[((j:Int)+1 - 1).toNat]:=by unfold fitsM;rw [hd,hgj]
    clear hdo c2 c1 c5 c6
    cases hin:isInM c b ((j:Int)+1)
    ·rw [hin] at c8
     have hs2:=hno (by rw [post3,hin];rfl)
     clear c7 hno hadd hft
     refine W.run ?_
     refine W.kl0 _ ?_ ⟨(j+1,X,os,_),⟨by dsimp only;omega,hs2,h3.mono (by dsimp only;omega)⟩,rfl,by dsimp only;omega⟩ Nat.zero_lt_one <;> exact HS.refl _
    ·rw [hin] at c8
     cases hf:fitB c.R c.P c.G A hall got[((j:Int)+1 - 1).toNat]
     ·rw [hf] at c4 hft
      by_cases ha:b.ans c ((j:Int)+1) hall < 0
      ·have hs2 := hno (by rw [post3, hin, hft, ansB_neg ha]; rfl)
       clear c7 hno hadd hft
       refine W.run ?_
       refine W.kl0 _ ?_ ⟨(j+1,X,os,_),⟨by dsimp only;omega,hs2,h3.mono (by dsimp only;omega)⟩,rfl,by dsimp only;omega⟩ Nat.zero_lt_one <;> exact HS.refl _
      ·obtain ⟨i, hi⟩ : ∃ i : Nat, b.ans c ((j : Int) + 1) hall = i := ⟨_, (Int.toNat_of_nonneg (by omega)).symm⟩
       obtain ⟨hil,hq,hl⟩:=ans_at hi
       have hnl:=ans_len hq
       have c10:=c7 i hil hnl
       simp only [qAns,Bool.and_eq_true,decide_eq_true_eq] at hq
       rw [hq.1.2,hq.2] at c10
       have hab:ansB c b ((j:Int)+1) hall = fitsM c b ((j:Int)+1) hall (b.a[i].nums.headD 0):=by unfold ansB;rw [hl]
       have han:ansN c b ((j:Int)+1) hall = b.a[i].nums.headD 0:=by unfold ansN;rw [hl]
       have hhd:=headD_get (l:=b.a[i].nums) (by omega)
       rw [hi] at c9
       clear hq
       cases hfa:fitsM c b ((j:Int)+1) hall (b.a[i].nums.headD 0)
       ·rw [hfa] at c10 hab
        have hs2:=hno (by rw [post3,hin,hft,hab];rfl)
        clear c7 hno hadd hft hab han hhd
        refine W.run ?_
        refine W.kl0 _ ?_ ⟨(j+1,X,os,_),⟨by dsimp only;omega,hs2,h3.mono (by dsimp only;omega)⟩,rfl,by dsimp only;omega⟩ Nat.zero_lt_one <;> exact HS.refl _
       ·rw [hfa] at c10 hab
        have hs2:=fun w=>hadd b.a[i].nums[0] w (by rw [post3,hin,hft,hab,han,hhd];rfl)
        clear c7 hno hadd hft hab han hhd
        refine W.run ?_
        refine W.kl0 (HpY c b (X++[((⟨hall,5,(j:Int)+1,[b.a[i].nums[0]]⟩:Ln),.ref (n+440+88) 0 0 1)]) (os++[(n+440+88,{ cells:=[.int .i64 b.a[i].nums[0]],sz:=1,ver:=0 })]) (n+592)) (HpY_num hb3 (by omega) (by omega) (by omega)) ⟨(j+1,X++[((⟨hall,5,(j:Int)+1,[b.a[i].nums[0]]⟩:Ln),.ref (n+440+88) 0 0 1)],os++[(n+440+88,{ cells:=[.int .i64 b.a[i].nums[0]],sz:=1,ver:=0 })],n+592),⟨by dsimp only;omega,hs2 _,h3.num (x:=(⟨hall,5,(j:Int)+1,[b.a[i].nums[0]]⟩:Ln)) (by dsimp only;omega) (by dsimp only;decide)⟩,St_fr (by dsimp only;rw [List.length_append];rfl),by dsimp only;omega⟩ Nat.zero_lt_one
     ·rw [hf] at c4 hft
      have hs2:=fun w=>hadd got[((j:Int)+1 - 1).toNat] w (by rw [post3,hin,hft,hgj];rfl)
      clear c7 hno hadd hft hgj
      refine W.run ?_
      refine W.kl0 (HpY c b (X++[((⟨hall,5,(j:Int)+1,[got[((j:Int)+1 - 1).toNat]]⟩:Ln),.ref (n+328+64) 0 0 1)]) (os++[(n+328+64,{ cells:=[.int .i64 got[((j:Int)+1 - 1).toNat]],sz:=1,ver:=0 })]) (n+456)) (HpY_num hb3 (by omega) (by omega) (by omega)) ⟨(j+1,X++[((⟨hall,5,(j:Int)+1,[got[((j:Int)+1 - 1).toNat]]⟩:Ln),.ref (n+328+64) 0 0 1)],os++[(n+328+64,{ cells:=[.int .i64 got[((j:Int)+1 - 1).toNat]],sz:=1,ver:=0 })],n+456),⟨by dsimp only;omega,hs2 _,h3.num (x:=(⟨hall,5,(j:Int)+1,[got[((j:Int)+1 - 1).toNat]]⟩:Ln)) (by dsimp only;omega) (by dsimp only;decide)⟩,St_fr (by dsimp only;rw [List.length_append];rfl),by dsimp only;omega⟩ Nat.zero_lt_one
 ·have hj2 : j = c.H.toNat := by omega
  subst hj2
  obtain ⟨H',hf⟩:=InvY.fin (c:=c) (b:=b) h3
  unfold HpY at hf
  clear c1 c2 hdo c5 c6 c7
  refine W.run ?_
  rw [h2] at hf
  exact W.retP rfl hf hR
set_option maxRecDepth 10000 in
set_option maxHeartbeats 2000000 in
theorem k28_3 (c:Cf) (hc:c.Ok) (b:Brd) (hb:b.Ok) (hall:Int) (hh:1≤hall∧hall≤c.H) (poly got:List Int) (hgl:(got.length:Int) = c.H) (hp:polyE c.P poly = 0):PureC Tryz.prog 28 [c.v,.int .i64 hall,slI poly,slI got,bdV b,.int .i64 3] (fun r=>r = .own (linN (postM c b hall poly got 3)) (postM c b hall poly got 3).length 4):=by
 have hpl:=polyE_len hp
 have c5:=k67 c hc b hb hall
 refine pureC_of_wp (.s 4) mixed ok28 rfl ?_
 unfold c28
 dsimp only [argE,Cf.v,cfgV,bdV]
 cases hin:isInM c b hall
 ·rw [hin] at c5
  have hpre:pre3 c b hall poly = []:=by rw [pre3,hin];rfl
  refine W.assoc (W.assoc (W.assoc (W.cut (fun _:Unit=>[(1,.int .i64 hall),(2,slI poly),(3,slI got),(5,.int .i64 3),(6,.ptr 0 0 0),(10,.ptr 8 0 0),(13,.ref 24 0 0 0)]) (fun _=>HpY c b [] [] 32) (fun _=>True) 32 ?_ ?_)))
  ·rintro _ n _ hn
   exact k28_3l c hc b hb hall hh poly got hgl _ [] [] n (by rw [hpre];rfl) (InvY.nil (by omega)) rfl
  ·intro Gk hG
   clear hc hb hpre
   refine W.run ?_
   exact W.kc hG () trivial (by omega) (HS.refl _)
 ·rw [hin] at c5
  have hpre:pre3 c b hall poly = [⟨hall,4,0,poly⟩]:=by rw [pre3,hin];rfl
  refine W.assoc (W.assoc (W.assoc (W.cut (fun _:Unit=>[(1,.int .i64 hall),(2,slI poly),(3,slI got),(5,.int .i64 3),(6,.ptr 0 0 0),(10,.ptr 8 0 0),(13,.ref 24 1 0 1)]) (fun _=>HpY c b [(⟨hall,4,0,poly⟩,.ref 112 1 0 poly.length)] [(112,{ cells:=poly.map (V.int .i64),sz:=1,ver:=1 })] 200) (fun _=>True) 200 ?_ ?_)))
  ·rintro _ n _ hn
   exact k28_3l c hc b hb hall hh poly got hgl _ [(⟨hall,4,0,poly⟩,.ref 112 1 0 poly.length)] [(112,{ cells:=poly.map (V.int .i64),sz:=1,ver:=1 })] n (by rw [hpre];rfl) ((InvY.nil (n:=32) (by omega)).num (x:=⟨hall,4,0,poly⟩) (by omega) (by dsimp only;decide)) rfl
  ·intro Gk hG
   clear hc hb hpre
   refine W.run ?_
   refine W.kc hG () trivial (by omega) ?_
   unfold HpY
   exact HS.skip (HS.refl _) (by unfold HpV;rw [List.foldl_cons,List.foldl_nil,put_ne (by dsimp only;omega),put_ne (by omega),HB_none (by omega)]) _
theorem k28 (c:Cf) (hc:c.Ok) (b:Brd) (hb:b.Ok) (hall:Int) (hh:1≤hall∧hall≤c.H) (poly got:List Int) (hp:polyE c.P poly = 0) (hgl:(got.length:Int) = c.H) (p:Nat) (hp4:p < 4) :
  PureC Tryz.prog 28 [c.v,.int .i64 hall,slI poly,slI got,bdV b,.int .i64 (p:Int)] (fun r=>r = .own (linN (postM c b hall poly got p)) (postM c b hall poly got p).length 4):=by
 obtain rfl | rfl | rfl | rfl:p = 0∨p = 1∨p = 2∨p = 3:=by omega
 ·exact k28_0 c hc b hb hall poly got hp hgl
 ·exact k28_1 c hc b hb hall hh poly got hgl
 ·exact k28_2 c hc b hb hall hh poly got hgl hp
 ·exact k28_3 c hc b hb hall hh poly got hgl hp
theorem rfB_ok {c:Cf} (hc:c.Ok) {polys:List (List Int)} (hp:∀ q∈polys,q.length≠0→polyE c.P q = 0) (hn:polys.length≤16) (lost:List (Int × Int)) {b:Brd} (hb:b.Ok) (hf:b.fits 100 = true) {p:Nat} (hp4:p≤4):(rfB c polys lost b p).Ok:=by
 refine Brd.ok_at fun k hk=>?_
 rw [rfB_at c polys lost b hp4 hk]
 split
 ·exact runX_ok hc hp hn lost hb hf k
 ·exact ⟨by simp,by simp⟩
theorem rfB_vw {c:Cf} (hc:c.Ok) {polys:List (List Int)} (hp:∀ q∈polys,q.length≠0→polyE c.P q = 0) {lost:List (Int × Int)} {b:Brd} {p n lo:Nat} {xs:List Ent} (hp4:p≤4) (h:InvE c polys lost b p [] xs n lo):VW (.agg (xs.map Ent.fv)) (bdV (rfB c polys lost b p)):=by
 have hl:=h.len
 have hk:∀ k (hk:k < xs.length),WkL xs[k].X∧xs[k].X.map Prod.fst = (rfB c polys lost b p).at k:=by
  intro k hk
  rw [rfB_at c polys lost b hp4 (by omega),h.X k hk]
  split
  ·exact ⟨runX_wk hc hp lost b k,rfl⟩
  ·split
   ·exact ⟨fun p hp=>by simp at hp,rfl⟩
   ·exact ⟨fun p hp=>by simp at hp,rfl⟩
 refine VW.agg (VWL.of (by simp [hl]) fun i h1 h2=>?_)
 rw [List.length_map] at h1
 obtain ⟨w,e⟩:=hk i h1
 have:=Ent.fv_vw w (fun h0=>h.nil _ (List.getElem_mem h1) h0)
 rw [e] at this
 rw [List.getElem_map]
 rw [lists_at]
 exact this
theorem runB_voA {c:Cf} (hc:c.Ok) {polys:List (List Int)} (hp:∀ q∈polys,q.length≠0→polyE c.P q = 0) {lost:List (Int × Int)} {b:Brd} {n lo:Nat} {xs:List Ent} (h:InvE c polys lost b 4 [] xs n lo):VO (.agg (xs.map Ent.fv)) (bdV (runB c polys lost b)):=by
 have hl:=h.len
 have hX:=h.X
 have hn:=h.nil
 have hb:∀ k,k < 4→(runB c polys lost b).at k = (runX c polys lost b k).map Prod.fst:=fun k hk=>by
  rw [runB,brdOf_at (by rw [runL_len];omega) k hk,List.getD_eq_getElem?_getD,runL_get c polys lost b 4 k hk];rfl
 match xs,hl with
 | [e0,e1,e2,e3],_ =>
  have x0:=hX 0 (by simp)
  have x1:=hX 1 (by simp)
  have x2:=hX 2 (by simp)
  have x3:=hX 3 (by simp)
  simp only [List.getElem_cons_zero,List.getElem_cons_succ,Nat.reduceLT,if_true,Nat.zero_lt_succ] at x0 x1 x2 x3
  have b0:(runB c polys lost b).d = e0.X.map Prod.fst:=by rw [x0];exact hb 0 (by omega)
  have b1:(runB c polys lost b).c = e1.X.map Prod.fst:=by rw [x1];exact hb 1 (by omega)
  have b2:(runB c polys lost b).a = e2.X.map Prod.fst:=by rw [x2];exact hb 2 (by omega)
  have b3:(runB c polys lost b).r = e3.X.map Prod.fst:=by rw [x3];exact hb 3 (by omega)
  have w0:WkL e0.X:=by rw [x0];exact runX_wk hc hp lost b 0
  have w1:WkL e1.X:=by rw [x1];exact runX_wk hc hp lost b 1
  have w2:WkL e2.X:=by rw [x2];exact runX_wk hc hp lost b 2
  have w3:WkL e3.X:=by rw [x3];exact runX_wk hc hp lost b 3
  have n0:=hn e0 (by simp)
  have n1:=hn e1 (by simp)
  have n2:=hn e2 (by simp)
  have n3:=hn e3 (by simp)
  have hw:VWL [e0.fv,e1.fv,e2.fv,e3.fv] [linV (runB c polys lost b).d,linV (runB c polys lost b).c,linV (runB c polys lost b).a,linV (runB c polys lost b).r]:=by
   rw [b0,b1,b2,b3]
   exact .cons (Ent.fv_vw w0 n0) (.cons (Ent.fv_vw w1 n1) (.cons (Ent.fv_vw w2 n2) (.cons (Ent.fv_vw w3 n3) .nil)))
  have ho:VOL [e0.fv,e1.fv,e2.fv,e3.fv] [linV (runB c polys lost b).d,linV (runB c polys lost b).c,linV (runB c polys lost b).a,linV (runB c polys lost b).r]:=by
   rw [b0,b1,b2,b3]
   exact .cons (Ent.fv_vo w0 n0) (.cons (Ent.fv_vo w1 n1) (.cons (Ent.fv_vo w2 n2) (.cons (Ent.fv_vo w3 n3) .nil)))
  exact VO.agg ho hw
theorem shF_in {c:Cf} {polys:List (List Int)} {lost:List (Int × Int)} {h d:Nat} (h1:d≠h) (h2:0 < (polyAt polys d).length) (h3:lost.any (lstQ ((d:Int)+1) ((h:Int)+1)) = false):shF c polys lost h d = valM c.P ((h:Int)+1) (polyAt polys d):=by
 unfold shF;rw [if_pos ⟨by omega,by omega,h3⟩]
theorem shF_out {c:Cf} {polys:List (List Int)} {lost:List (Int × Int)} {h d:Nat} (hq:d = h∨(polyAt polys d).length = 0∨lost.any (lstQ ((d:Int)+1) ((h:Int)+1)) = true):shF c polys lost h d = -1:=by
 unfold shF;rw [if_neg]
 rintro ⟨h1,h2,h3⟩
 rcases hq with e | e | e
 ·exact h2 e.symm
 ·exact h1 e
 ·rw [h3] at e;cases e
abbrev BJ (c:Cf) (b:Brd) (cs:List V):Hp:=(((Hp.put (fun _=>none) 0 { cells:=[.int .i64 c.R,.int .i64 c.P,.int .i64 c.G,.int .i64 c.H,.int .i64 c.B,.int .i64 c.K],sz:=6 }).put 8 { cells:=[linV b.d,linV b.c,linV b.a,linV b.r],sz:=4 }).put 16 { cells:=[.nils,.nils,.nils,.nils],sz:=4 }).put 24 { cells:=cs,sz:=4 }
def xO (X:List (Ln × V)) (ver:Nat):Ob:={ cells:=lnsC X,sz:=4,ver:=ver,nl:=if X.length = 0 then 1 else 0 }
def gO1 (L:List Int):Ob:={ cells:=L.map (V.int .i64),sz:=1,ver:=L.length,nl:=if L.length = 0 then 1 else 0 }
@[go_sem] theorem HpL_mark {B:Hp} {i a:Nat} {l:List Ent} (h:offL i l):(HpL B l).mark i a = HpL (B.mark i a) l:=by
 unfold Hp.mark
 rw [HpL_other h]
 cases B i with
 | none=>rfl
 | some ob=>exact HpL_put h
theorem xO_app {X:List (Ln × V)} {Lp:List Ln} {ver:Nat}:({ cells:=lnsC X++linN Lp,sz:=4,ver:=ver,nl:=if Lp.length = 0 then (if X.length = 0 then 1 else 0) else 0 }:Ob) = xO (X++Lp.map fun x=>(x,nvL x)) ver:=by
 unfold xO linN
 rw [lnsC_app,List.length_append,List.length_map]
 by_cases h:Lp.length = 0
 ·rw [if_pos h,h,Nat.add_zero]
 ·rw [if_neg h,if_neg (by omega)]
def NzE (p:Nat) (xs:List Ent):Prop:=∀ k (h:k < xs.length),p≤k→xs[k].id = 0
theorem NzE.frz {p:Nat} {xs:List Ent} (h:NzE p xs):NzE p (xs.map Ent.frz):=fun k hk hp=>by
 rw [List.length_map] at hk
 rw [List.getElem_map]
 exact h k hk hp
theorem NzE.set {p:Nat} {xs:List Ent} {e:Ent} (h:NzE p xs):NzE (p+1) (xs.set p e):=fun k hk hp=>by
 rw [List.length_set] at hk
 rw [List.getElem_set_ne (by omega)]
 exact h k hk (by omega)
theorem HS_got {B:Hp} {o g k:Nat} {xo ob:Ob} {L L':List Int} {w:Int} (hs:L' = L++[w]) (h1:k≠g) (h2:k≠o) (hn:B k = none):HS ((B.put o xo).put g { cells:=L'.map (V.int .i64),sz:=1,ver:=L'.length,nl:=if L'.length = 0 then 1 else 0 }) (((B.put o xo).put g { cells:=L.map (V.int .i64)++[.int .i64 w],sz:=1,ver:=L.length+1 }).put k ob):=by
 subst hs
 rw [List.map_append,List.length_append,List.length_singleton,if_neg (by omega)]
 exact HS.skip (HS.refl _) (by rw [put_ne h1,put_ne h2,hn]) _
set_option maxRecDepth 10000 in
set_option maxHeartbeats 2000000 in
theorem k19m (c:Cf) (hc:c.Ok) (b:Brd) (hb:b.Ok) (polys:List (List Int)) (hpl:∀ p∈polys,p.length < 2 ^ 20) (lost:List (Int × Int)) (hlost:lost.length < 2 ^ 40) (hf:b.fits 100 = true) (hn:(polys.length:Int) = c.H) (hpok:∀ q∈polys,q.length≠0→polyE c.P q = 0):PureC Tryz.prog 19 [c.v,polV polys,bdV b,losV lost]
  (fun r=>∃ xs n lo,InvE c polys lost b 4 [] xs n lo∧r = .agg (xs.map Ent.fv)):=by
 have hr:=hc.rng
 refine pureC_of_wp .x mixed ok19 rfl ?_
 unfold c19
 dsimp only [argE,Cf.v,cfgV,bdV]
 refine W.run ?_
 refine W.loop (fun z:Nat × List Ent × Nat=>⟨[(1,polV polys),(3,losV lost),(4,.ptr 0 0 0),(6,.ptr 8 0 0),(8,.ptr 16 0 0),(9,.ptr 24 0 0),(10,.int .i64 (z.1:Int))],HpL (BJ c b (cellsE z.2.1)) z.2.1,z.2.2⟩)
  (fun z=>z.1≤4∧InvE c polys lost b z.1 [] z.2.1 z.2.2 24∧NzE z.1 z.2.1) (fun z=>4 - z.1) (0,List.replicate 4 ⟨[],0,0,0⟩,40) ⟨by dsimp only;omega,⟨rfl,⟨fun h=>absurd rfl h,fun h=>absurd rfl h,fun h=>absurd rfl h,fun h=>absurd rfl h,trivial⟩,fun e he h=>absurd (by rw [List.eq_of_mem_replicate he]) h,fun e he _=>by rw [List.eq_of_mem_replicate he],by dsimp only;omega,fun k hk=>by dsimp only;rw [List.getElem_replicate,if_neg (by omega)];split <;> rfl⟩,fun k hk _=>by dsimp only;rw [List.getElem_replicate]⟩ ?_ rfl (HS.refl _) rfl
 rintro ⟨p,xs,n⟩ ⟨hp,hI,hN⟩
 dsimp only at hp hI hN ⊢
 have hxl:=hI.len
 have hcl:(cellsE xs).length = 4:=by rw [cellsE_len,hxl]
 have o0:offL 0 xs:=hI.off (by omega)
 have o8:offL 8 xs:=hI.off (by omega)
 have o16:offL 16 xs:=hI.off (by omega)
 have o24:offL 24 xs:=hI.off (by omega)
 have hm0:=hI.n0
 by_cases hp4:p < 4
 ·have hat:=(at_ok hb p).1
  have hatl:=linC_len (b.at p)
  refine W.run ?_
  rw [lists_at]
  refine W.run ?_
  have hX0:(HpL (BJ c b (cellsE xs)) xs).put (n+112) { cells:=linC (b.at p),sz:=4,ver:=1,nl:=if (b.at p).length = 0 then 1 else 0 } = (HpL (BJ c b (cellsE xs)) xs).put (n+112) (xO (curX c polys lost b p 0) 1):=by
   unfold xO;rw [curX_0,List.length_map,← linC_lnsC]
  have hXl0:(b.at p).length = (curX c polys lost b p 0).length:=by rw [curX_0,List.length_map]
  refine W.loop (fun z:Nat × List Ent × Nat × Nat=>⟨[(1,polV polys),(3,losV lost),(4,.ptr 0 0 0),(6,.ptr 8 0 0),(8,.ptr 16 0 0),(9,.ptr 24 0 0),(10,.int .i64 (p:Int)),(12,.ref (n+112) z.2.2.1 0 (curX c polys lost b p z.1).length),(13,.int .i64 ((z.1:Int)+1))],(HpL (BJ c b (cellsE z.2.1)) z.2.1).put (n+112) (xO (curX c polys lost b p z.1) z.2.2.1),z.2.2.2⟩)
   (fun z=>z.1≤c.H.toNat∧(InvE c polys lost b p [] z.2.1 n 24∧NzE p z.2.1)∧n+160≤z.2.2.2) (fun z=>c.H.toNat - z.1) (0,xs,1,n+160) ⟨by dsimp only;omega,⟨hI,hN⟩,by dsimp only;omega⟩ ?_ (by rw [hXl0];rfl) (by rw [hX0];exact HS.refl _) rfl
  clear hX0 hXl0 hI hN hxl hcl o0 o8 o16 o24 hat hatl
  rintro ⟨h,zs,ver,m⟩ ⟨hh,⟨hJ,hN⟩,hm⟩
  dsimp only at hh hJ hN hm ⊢
  have hxl:=hJ.len
  have hcl:(cellsE zs).length = 4:=by rw [cellsE_len,hxl]
  have o0:offL 0 zs:=hJ.off (by omega)
  have o8:offL 8 zs:=hJ.off (by omega)
  have o16:offL 16 zs:=hJ.off (by omega)
  have o24:offL 24 zs:=hJ.off (by omega)
  have on:offL (n+112) zs:=hJ.off (by omega)
  have hnone:∀ k,n+112 < k→(HpL (BJ c b (cellsE zs)) zs) k = none:=fun k hk=>by
   rw [HpL_other (hJ.off (by omega))]
   simp only [Hp.put]
   repeat (rw [if_neg (by omega)])
  have hsu:=curX_succ c polys lost b p h
  have hclen:=curX_len hc hpok lost hf p h
  have hlc:=lnsC_len (curX c polys lost b p h)
  by_cases hhl:h < c.H.toNat
  ·have hk : ((h : Int) + 1 - 1).toNat < polys.length := by omega
   have hpat:polyAt polys h = polys[((h:Int)+1 - 1).toNat]:=by unfold polyAt;rw [List.getD_eq_getElem?_getD,List.getElem?_eq_getElem (show h < polys.length by omega),Option.getD_some];congr 1;omega
   by_cases hz:polys[((h:Int)+1 - 1).toNat].length = 0
   ·have hpo : pollH c polys lost (phB c polys lost b p) p h = [] := by unfold pollH; rw [if_pos (by rw [hpat]; exact hz)]
    rw [hpo,List.map_nil,List.append_nil] at hsu
    clear hpo hpat hb
    generalize curX c polys lost b p h = X at hsu hclen hlc ⊢
    refine W.run ?_
    refine W.kl0 _ ?_ ⟨(h+1,zs,ver,_),⟨by dsimp only;omega,⟨hJ,hN⟩,by dsimp only;omega⟩,St_fr (by dsimp only;rw [hsu];rfl),by dsimp only;omega⟩ Nat.zero_lt_one
    dsimp only
    rw [hsu]
    exact HS.refl _
   ·refine W.run ?_
    have hRl:∀ d,((List.range d).map (shF c polys lost h)).length = d:=fun d=>by simp
    have hRs:∀ d,(List.range (d+1)).map (shF c polys lost h) = (List.range d).map (shF c polys lost h)++[shF c polys lost h d]:=fun d=>by rw [List.range_succ,List.map_append];rfl
    refine W.lp (fun d:Nat=>[(1,polV polys),(3,losV lost),(4,.ptr 0 0 0),(6,.ptr 8 0 0),(8,.ptr 16 0 0),(9,.ptr 24 0 0),(10,.int .i64 (p:Int)),(12,.ref (n+112) ver 0 (curX c polys lost b p h).length),(13,.int .i64 ((h:Int)+1)),(14,.ref (m+88) ((List.range d).map (shF c polys lost h)).length 0 ((List.range d).map (shF c polys lost h)).length),(15,.int .i64 ((d:Int)+1))])
     (fun d=>((HpL (BJ c b (cellsE zs)) zs).put (n+112) (xO (curX c polys lost b p h) ver)).put (m+88) (gO1 ((List.range d).map (shF c polys lost h)))) (fun d=>d≤c.H.toNat) (fun d=>c.H.toNat - d) 0 rfl (HS.refl _) (by omega) ?_
    rintro d nx hd hnx
    have hll:=hRl d
    have hsl:=hRs d
    by_cases hdl:d < c.H.toNat
    ·have hkd : ((d : Int) + 1 - 1).toNat < polys.length := by omega
     have hpad:polyAt polys d = polys[((d:Int)+1 - 1).toNat]:=by unfold polyAt;rw [List.getD_eq_getElem?_getD,List.getElem?_eq_getElem (show d < polys.length by omega),Option.getD_some];congr 1;omega
     have hpld:=hpl _ (List.getElem_mem hkd)
     have c1:=k60 lost hlost ((d:Int)+1) ((h:Int)+1)
     clear hRl hRs hsu hclen hlc hJ hcl
     generalize curX c polys lost b p h = X
     by_cases he:d = h
     ·have hv:=shF_out (c:=c) (polys:=polys) (lost:=lost) (.inl he)
      rw [hv] at hsl
      clear hpad hv c1 hb
      generalize (List.range d).map (shF c polys lost h) = L at hll hsl ⊢
      unfold gO1
      refine W.run ?_
      refine W.kl (d+1) (by rw [hsl,List.length_append];rfl) (HS_got hsl (by omega) (by omega) (hnone _ (by omega))) (by omega) (by omega) (by omega)
     by_cases hz2:polys[((d:Int)+1 - 1).toNat].length = 0
     ·have hv := shF_out (c := c) (polys := polys) (lost := lost) (h := h) (d := d) (.inr (.inl (by rw [hpad]; exact hz2)))
      rw [hv] at hsl
      clear hpad hv c1 hb
      generalize (List.range d).map (shF c polys lost h) = L at hll hsl ⊢
      unfold gO1
      refine W.run ?_
      refine W.kl (d+1) (by rw [hsl,List.length_append];rfl) (HS_got hsl (by omega) (by omega) (hnone _ (by omega))) (by omega) (by omega) (by omega)
     cases hlq:lost.any (lstQ ((d:Int)+1) ((h:Int)+1))
     ·rw [hlq] at c1
      have hv:=shF_in (c:=c) (polys:=polys) (lost:=lost) he (by rw [hpad];omega) hlq
      have c2:=k29 (R:=c.R) (G:=c.G) hc.1.hP polys[((d:Int)+1 - 1).toNat] _ rfl (by omega) (polyE_rng (hpok _ (List.getElem_mem hkd) hz2)) ((h:Int)+1) (by omega)
      rw [← hpad,← hv,hpad] at c2
      clear hpad hv hb
      generalize shF c polys lost h d = w at c2 hsl
      generalize (List.range d).map (shF c polys lost h) = L at hll hsl ⊢
      unfold gO1
      refine W.run ?_
      refine W.kl (d+1) (by rw [hsl,List.length_append];rfl) (HS_got hsl (by omega) (by omega) (hnone _ (by omega))) (by omega) (by omega) (by omega)
     ·rw [hlq] at c1
      have hv:=shF_out (c:=c) (polys:=polys) (lost:=lost) (h:=h) (d:=d) (.inr (.inr hlq))
      rw [hv] at hsl
      clear hpad hv hb
      generalize (List.range d).map (shF c polys lost h) = L at hll hsl ⊢
      unfold gO1
      refine W.run ?_
      refine W.kl (d+1) (by rw [hsl,List.length_append];rfl) (HS_got hsl (by omega) (by omega) (hnone _ (by omega))) (by omega) (by omega) (by omega)
    ·have hde : d = c.H.toNat := by omega
     clear hd hdl hsl hRs
     have hpo:pollH c polys lost (phB c polys lost b p) p h = postM c (rfB c polys lost b p) ((h:Int)+1) polys[((h:Int)+1 - 1).toNat] ((List.range d).map (shF c polys lost h)) p:=by
      rw [phB_rfB c polys lost b hp4,hde]
      unfold pollH
      rw [if_neg (by rw [hpat];exact hz),hpat];rfl
     have c2 := (k28 c hc _ (rfB_ok hc hpok (by omega) lost hb hf (show p ≤ 4 by omega)) ((h : Int) + 1) (by omega) polys[((h : Int) + 1 - 1).toNat] ((List.range d).map (shF c polys lost h)) (hpok _ (List.getElem_mem hk) hz) (by rw [hRl, hde]; omega) p hp4).weak
      (VWL.cons (.refl c.v) (VWL.cons (.refl _) (VWL.cons (.refl _) (VWL.cons (.refl _) (VWL.cons (rfB_vw hc hpok (by omega) hJ) (VWL.cons (.refl _) .nil))))))
     rw [← hpo] at c2
     have hpll:=(pollH_ok hc hpok lost (phB c polys lost b p) p h).1
     have hap:=hJ.ap
     have hat:∀ e∈zs,∀ q∈e.X,q.2.atom = true:=fun e he q hq=>by
      obtain ⟨k,hk,rfl⟩:=List.getElem_of_mem he
      rw [hJ.X k hk] at hq
      split at hq
      ·exact (runX_wk hc hpok lost b k q hq).2
      ·split at hq
       ·cases hq
       ·cases hq
     generalize pollH c polys lost (phB c polys lost b p) p h = Lp at c2 hsu hpll
     have hNl:(linN Lp).length = Lp.length * 4:=linN_len Lp
     have hpl2:=hpl _ (List.getElem_mem hk)
     clear hpo hpat hRl hb
     generalize (List.range d).map (shF c polys lost h) = L at c2 hll ⊢
     have og:offL (m+88) zs:=hJ.off (by omega)
     have onf:offL (n+112) (zs.map Ent.frz):=hJ.frz.off (by omega)
     unfold gO1 xO
     rw [HpL_put on,HpL_put og]
     refine W.run ?_
     have ogf:offL (m+88) (zs.map Ent.frz):=hJ.frz.off (by omega)
     refine W.kl0 ((HpL (BJ c b (cellsE (zs.map Ent.frz))) (zs.map Ent.frz)).put (n+112) (xO (curX c polys lost b p (h+1)) (ver+1))) ?_ ⟨(h+1,zs.map Ent.frz,ver+1,_),⟨by dsimp only;omega,⟨hJ.frz,hN.frz⟩,by dsimp only;omega⟩,St_fr (by dsimp only;rw [hsu,List.length_append,List.length_map];rfl),by dsimp only;omega⟩ Nat.zero_lt_one
     rw [← HpL_put ogf,put_comm (show m+88≠n+112 by omega),← HpL_put onf,put_put,cellsE_frz,xO_app,← hsu]
     refine HS.skip (HS.refl _) ?_ _
     rw [put_ne (by omega),HpL_other ogf]
     simp only [Hp.put]
     repeat (rw [if_neg (by omega)])
  ·have hhe : h = polys.length := by omega
   rw [hhe,curX_end] at hsu hlc hclen ⊢
   clear hsu
   have hpz:p < zs.length:=by omega
   have hce:=cellsE_set (xs:=zs) (p:=p) (v:=.ref (n+112) ver 0 (runX c polys lost b p).length) (e:=⟨runX c polys lost b p,n+112,ver,0⟩) hpz (by
    simp only [Ent.cell]
    rw [if_neg (by omega)])
   have hnx:=(hJ.more (n':=m) hpz ⟨runX c polys lost b p,n+112,ver,0⟩ (Y:=runX c polys lost b p) (by rw [List.nil_append]) (.inr ⟨by dsimp only;omega,by dsimp only;omega⟩) (by dsimp only;omega) (by omega))
   rw [List.nil_append] at hnx
   have hnx2:=hnx.next
   have hN2:=hN.set (e:=⟨runX c polys lost b p,n+112,ver,0⟩)
   have hz0:=hN p hpz (Nat.le_refl _)
   have hnew:=fun B=>HpL_new (B:=B) (ob:=xO (runX c polys lost b p) ver) (X:=runX c polys lost b p) (id:=n+112) (ver:=ver) (z:=0) (by omega) rfl hpz on hz0
   have hend:HS (HpL (BJ c b (cellsE (zs.set p ⟨runX c polys lost b p,n+112,ver,0⟩))) (zs.set p ⟨runX c polys lost b p,n+112,ver,0⟩)) (((HpL (BJ c b (cellsE zs)) zs).put 24 { cells:=List.take p (cellsE zs)++[.ref (n+112) ver 0 (runX c polys lost b p).length]++List.drop (p+1) (cellsE zs),sz:=4 }).put (n+112) (xO (runX c polys lost b p) ver)):=by
    rw [hce,HpL_put o24,hnew,put_put]
    exact HS.refl _
   clear hJ hnx hlc hclen hnone hnew hN hz0 hce
   obtain rfl | rfl | rfl | rfl:p = 0∨p = 1∨p = 2∨p = 3:=by omega
   ·refine W.run ?_
    refine W.kl0 _ ?_ ⟨(0+1,zs.set 0 ⟨runX c polys lost b 0,n+112,ver,0⟩,_),⟨?_,?_,hN2⟩,rfl,?_⟩ Nat.zero_lt_one
    ·exact hend
    ·dsimp only;omega
    ·exact hnx2.mono (by dsimp only;omega)
    ·dsimp only;omega
   ·refine W.run ?_
    refine W.kl0 _ ?_ ⟨(1+1,zs.set 1 ⟨runX c polys lost b 1,n+112,ver,0⟩,_),⟨?_,?_,hN2⟩,rfl,?_⟩ Nat.zero_lt_one
    ·exact hend
    ·dsimp only;omega
    ·exact hnx2.mono (by dsimp only;omega)
    ·dsimp only;omega
   ·refine W.run ?_
    refine W.kl0 _ ?_ ⟨(2+1,zs.set 2 ⟨runX c polys lost b 2,n+112,ver,0⟩,_),⟨?_,?_,hN2⟩,rfl,?_⟩ Nat.zero_lt_one
    ·exact hend
    ·dsimp only;omega
    ·exact hnx2.mono (by dsimp only;omega)
    ·dsimp only;omega
   ·refine W.run ?_
    refine W.kl0 _ ?_ ⟨(3+1,zs.set 3 ⟨runX c polys lost b 3,n+112,ver,0⟩,_),⟨?_,?_,hN2⟩,rfl,?_⟩ Nat.zero_lt_one
    ·exact hend
    ·dsimp only;omega
    ·exact hnx2.mono (by dsimp only;omega)
    ·dsimp only;omega
 ·have hpe : p = 4 := by omega
  subst hpe
  clear hN hb
  refine W.run ?_
  rw [HpL_put o16]
  have hat:∀ e∈xs,∀ q∈e.X,q.2.atom = true:=fun e he q hq=>by
   obtain ⟨k,hk,rfl⟩:=List.getElem_of_mem he
   rw [hI.X k hk,if_pos (by omega)] at hq
   exact (runX_wk hc hpok lost b k q hq).2
  have hfz:=frz_cells (k:=10) xs ((BJ c b (cellsE xs)).put 16 { cells:=cellsE xs,sz:=4 }) hI.ap hat
  refine W.retP (u:=.agg (cellsE xs)) (by exact Ev.out Ev.by) (r:=.agg (xs.map Ent.fv)) (H':=HpL ((BJ c b (cellsE xs)).put 16 { cells:=cellsE xs,sz:=4 }) (xs.map Ent.frz)) ?_ ⟨xs,n,24,hI,rfl⟩
  simp only [fin_x,frz_agg,hfz,Option.map_some]
theorem k19 (c:Cf) (hc:c.Ok) (b:Brd) (hb:b.Ok) (polys:List (List Int)) (hpl:∀ p∈polys,p.length < 2 ^ 20) (lost:List (Int × Int)) (hlost:lost.length < 2 ^ 40) (hf:b.fits 100 = true) (hn:(polys.length:Int) = c.H) (hpok:∀ q∈polys,q.length≠0→polyE c.P q = 0):PureC Tryz.prog 19 [c.v,polV polys,bdV b,losV lost] (fun r=>r = bdV (runB c polys lost b)):=by
 refine (k19m c hc b hb polys hpl lost hlost hf hn hpok).weakE ?_
 rintro r ⟨xs,n,lo,hI,rfl⟩
 exact runB_voA hc hpok hI
end Go.Dp
