import Derived.Test.YtlbjgnkjicifhaaGreatDwQ0
import Derived.Test.YtlbjgnkjicifhaaGreatDwJ8
namespace Go.Dp
open Go.RowKit Go.Proofs
attribute [local irreducible] wp wpOps wpOp1 CallW CallT kSeq kBlk kLoop kReg retP retR kAsg kRound kRf kCut kItr kItr2
set_option linter.unusedVariables false
set_option linter.unusedSimpArgs false
def HM (c:Cf) (b:Brd) (z a d:Nat):Hp:=((HQ c b z).put a { cells:=[.mp d],sz:=1 }).put d mpO
set_option maxRecDepth 10000 in
set_option maxHeartbeats 4000000 in
theorem k33_c (c:Cf) (hc:c.Ok) (b:Brd) (hb:b.Ok) (hf:b.fits 400 = true) (l4:List G3) (id4 ver4 z3 n4:Nat) (hn4:136 < n4) (hI4:InvG 136 l4 id4 n4) (hxl4:l4.length≤6700) (E:List G3) (hE:E = l4++(allH c).flatMap (g5 c b)) :
  wp Tryz.prog Ys.none (rtC (rtC (rtC (rtC (rtC (rtC (rtC (rtC (rtC (rtC c33)))))))))) (retP [.tmp 4,.tmp 5] (.l [.x,.x]) (fun r=>r = .tup [gV E,.int .i64 0])) ⟨[(3,.ptr 8 0 0),(7,.ptr 104 0 0),(8,.ptr 120 0 0),(9,.ptr 136 0 0),(10,.clo (.func 76) [] []),(99,.clo (.func 126) [] [.fp [stV c b] 0,.fp [.clo (.func 79) [stV c b] []] 0])],HpG (HQ c b z3) 120 l4 id4 ver4,n4⟩:=by
 have hr:=hc.rng
 have c3:=k77 c b 76 [] [] (by simp) (by simp)
 have hit:Iter Tryz.prog 126 [] [.fp [stV c b] 0,.fp [.clo (.func 76) [] []] 0] (itemsI (allH c)):=it126 c hc b 76 [] [] (by simp) (by simp) (fun _=>true) (fun h _=>k76 h)
 have hlen:(allH c).length≤16:=hallsL_len hc _
 have hid4:=hI4.1
 have hbr:(b.r.length:Int)≤400:=fits_len hf 3
 unfold c33
 dsimp only [rtC]
 unfold HQ
 refine W.run ?_
 refine W.ref (k82 _ _ _ ?_) (by omega) ?_ ?_
 ·intro j hj
  rw [HpG_at (by omega) (by omega)];simp only [Hp.put];repeat (rw [if_neg (by omega)])
 ·intro j hj hn
  rw [put_ne (by omega)];exact hn
 refine W.run ?_
 obtain ⟨N6,hN6⟩:∃ N,N = n4+96:=⟨_,rfl⟩
 rw [← hN6]
 have hrc:∀ j (hj:j < b.r.length),LnO b.r[j]:=fun j hj=>hb.2.2.2.2 _ (List.getElem_mem hj)
 have c7:=fun j (hj:j < b.r.length)=>k129 c hc b hb b.r[j] (hrc j hj)
 have c8:=fun j (hj:j < b.r.length)=>k130 c hc b hb b.r[j] (hrc j hj)
 clear hc hb hrc
 refine W.rfi2 hit YEx.none rfl (fun vs hvs=>?_) (fun x:List G3 × Nat × Nat=>HpG (HM c b z3 (n4+8) (n4+24+8)) 120 x.1 x.2.1 x.2.2)
  (fun i x n=>x.1 = l4++((allH c).take i).flatMap (g5 c b)∧x.1.length≤6700+i * 400∧InvG 136 x.1 x.2.1 n∧x.2.1≠N6∧x.2.1≠n4+8∧x.2.1≠n4+24+8) (fun i x n n' hx hn=>⟨hx.1,hx.2.1,hx.2.2.1.mono hn,hx.2.2.2⟩) (l4,id4,ver4) (HS.refl _) ⟨by simp,by dsimp only;omega,hI4.mono (by omega),by dsimp only;omega,by dsimp only;omega,by dsimp only;omega⟩ ?_ ?_ ?_
 ·obtain ⟨i,hi,rfl⟩:=List.getElem_of_mem hvs
  simp [itemsI]
 ·rintro i ⟨l,id,ver⟩ n ⟨_,_,hI,hne⟩
  dsimp only at hI hne ⊢
  rw [HpG_at (by omega) (by have:=hI.1;omega)]
  unfold HM
  rw [put_ne (by omega),put_ne (by omega),HQ_none (by omega)]
 ·rintro i vs ⟨l,id,ver⟩ n hi ⟨hx,hxl,hI,hne⟩ hn
  dsimp only at hx hxl hI hne hi ⊢
  obtain ⟨hi1,-⟩:=List.getElem?_eq_some_iff.1 hi
  rw [show (itemsI (allH c)).length = (allH c).length by simp [itemsI]] at hi1
  rw [itemsI_get hi1,Option.some.injEq] at hi
  subst hi
  dsimp only [putL]
  have hkr:=allH_mem (List.getElem_mem hi1)
  have hsn:=flat_take (f:=g5 c b) hi1
  have hsn':l4++((allH c).take (i+1)).flatMap (g5 c b) = l++g5 c b (allH c)[i]:=by rw [hsn,hx,List.append_assoc]
  clear hsn hx
  generalize (allH c)[i] = m at hsn' hkr ⊢
  have hid:=hI.1
  unfold HM HQ
  refine W.run ?_
  refine W.kasg2 (by simp (disch:=omega) only [put_same,put_ne,ne_eq,go_sem]) rfl ?_
  refine W.run ?_
  refine W.loop (fun y:Nat × List G3 × Nat × Nat × Nat=>⟨[(7,.ptr 104 0 0),(9,.ptr 136 0 0),(19,.ptr (n4+8) 0 0),(20,.int .i64 m),(169,linV b.r),(170,.int .i64 (b.r.length:Int)),(171,.int .i64 (y.1:Int))],HpG ((HM c b z3 (n4+8) (n4+24+8)).put N6 (recO 1)) 120 y.2.1 y.2.2.1 y.2.2.2.1,y.2.2.2.2⟩)
   (fun y=>(y.1≤b.r.length∧y.2.1 = l++idxG (fun i x=>if q5 c b m x then [(m,5,(i:Int))] else []) 0 (b.r.take y.1))∧y.2.1.length≤l.length+y.1∧InvG 136 y.2.1 y.2.2.1 y.2.2.2.2∧(y.2.2.1≠N6∧y.2.2.1≠n4+8∧y.2.2.1≠n4+24+8)∧N6 < y.2.2.2.2) (fun y=>b.r.length - y.1) (0,l,id,ver,n+40) ⟨⟨by dsimp only;omega,by simp [idxG]⟩,by dsimp only;omega,hI.mono (by dsimp only;omega),hne,by dsimp only;omega⟩ ?_ rfl (HS.refl _) rfl
  rintro ⟨j,l',id',ver',t⟩ ⟨⟨hj,hx'⟩,hxl',hI',hne',ht⟩
  dsimp only at hj hx' hxl' hI' hne' ht ⊢
  have hid':=hI'.1
  clear hit hid hI
  unfold HM HQ
  by_cases hjl:j < b.r.length
  ·have hsu:=idxG_succ (fun i x=>if q5 c b m x then [(m,5,(i:Int))] else []) 0 b.r j hjl
   rw [Nat.zero_add] at hsu
   have hkeep:q5 c b m b.r[j] = false→(j+1≤b.r.length∧l' = l++idxG (fun i x=>if q5 c b m x then [(m,5,(i:Int))] else []) 0 (b.r.take (j+1))):=fun h=>⟨by omega,by rw [hsu,h,hx'];simp⟩
   have hadd:q5 c b m b.r[j] = true→(j+1≤b.r.length∧l'++[(m,5,(j:Int))] = l++idxG (fun i x=>if q5 c b m x then [(m,5,(i:Int))] else []) 0 (b.r.take (j+1))):=fun h=>⟨by omega,by rw [hsu,h,hx'];simp⟩
   have c9:=c7 j hjl
   have c10:=c8 j hjl
   have hq:q5 c b m b.r[j] = (decide (b.r[j].hall = m) && ((revC c b b.r[j] && !revR c b b.r[j]) || (opnC c b b.r[j] && !opnR c b b.r[j]))):=rfl
   have hrk:b.r[j].kind≠4→revC c b b.r[j] = false:=fun h=>by rw [revC,cntB,decide_eq_false h];rfl
   have hok:b.r[j].kind≠5→opnC c b b.r[j] = false:=fun h=>by rw [opnC,cntB,decide_eq_false h];rfl
   clear hsu hx' c7 c8
   generalize revC c b b.r[j] = A1 at c9 hq hrk
   generalize revR c b b.r[j] = A2 at c9 hq
   generalize opnC c b b.r[j] = A3 at c10 hq hok
   generalize opnR c b b.r[j] = A4 at c10 hq
   by_cases h4:b.r[j].kind = 4
   ·have h3 := hok (by omega)
    subst h3
    by_cases hh:b.r[j].hall = m
    case neg =>
     have hk:=hkeep (by rw [hq,decide_eq_false hh];rfl)
     clear hkeep hadd hq
     refine W.run ?_
     refine W.kl0 _ ?_ ⟨(j+1,l',id',ver',_),⟨hk,by dsimp only;omega,hI'.mono (by dsimp only;omega),hne',by dsimp only;omega⟩,rfl,by dsimp only;omega⟩ Nat.zero_lt_one
     exact HpG_HS (HS.skip (HS.refl _) ((put_ne (by omega)).trans ((put_ne (by omega)).trans ((put_ne (by omega)).trans (HQ_none (by omega))))) _)
    cases A1
    ·have hk := hkeep (by rw [hq]; simp)
     clear hkeep hadd hq
     refine W.run ?_
     refine W.kl0 _ ?_ ⟨(j+1,l',id',ver',_),⟨hk,by dsimp only;omega,hI'.mono (by dsimp only;omega),hne',by dsimp only;omega⟩,rfl,by dsimp only;omega⟩ Nat.zero_lt_one
     exact HpG_HS (HS.skip (HS.refl _) ((put_ne (by omega)).trans ((put_ne (by omega)).trans ((put_ne (by omega)).trans (HQ_none (by omega))))) _)
    cases A2
    ·have hk := hadd (by rw [hq, decide_eq_true hh]; rfl)
     clear hkeep hadd hq
     refine W.run ?_
     refine W.ref (k75 _ _ 120 _ id' ver' l' m 5 j (by omega) hI'.2.1 (by omega) (by omega) (fun j hj=>by simp only [Hp.put];repeat (rw [if_neg (by omega)]))) (by omega) hdG ?_
     refine W.run ?_
     refine W.kl0 _ ?_ ⟨(j+1,l'++[(m,5,(j:Int))],nid id' (t+304+48),nver id' ver',_),⟨hk,by simp;omega,(hI'.mono (by omega)).add (top:=t+304) (by dsimp only;omega) (by omega),⟨nid_ne' hne'.1.symm (by omega),nid_ne' hne'.2.1.symm (by omega),nid_ne' hne'.2.2.symm (by omega)⟩,by dsimp only;omega⟩,rfl,by dsimp only;omega⟩ Nat.zero_lt_one
     exact HpG_HS (HS.skip (HS.refl _) ((put_ne (by omega)).trans ((put_ne (by omega)).trans ((put_ne (by omega)).trans (HQ_none (by omega))))) _)
    ·have hk := hkeep (by rw [hq]; simp)
     clear hkeep hadd hq
     refine W.run ?_
     refine W.kl0 _ ?_ ⟨(j+1,l',id',ver',_),⟨hk,by dsimp only;omega,hI'.mono (by dsimp only;omega),hne',by dsimp only;omega⟩,rfl,by dsimp only;omega⟩ Nat.zero_lt_one
     exact HpG_HS (HS.skip (HS.refl _) ((put_ne (by omega)).trans ((put_ne (by omega)).trans ((put_ne (by omega)).trans (HQ_none (by omega))))) _)
   by_cases h5:b.r[j].kind = 5
   ·have h3 := hrk (by omega)
    subst h3
    by_cases hh:b.r[j].hall = m
    case neg =>
     have hk:=hkeep (by rw [hq,decide_eq_false hh];rfl)
     clear hkeep hadd hq
     refine W.run ?_
     refine W.kl0 _ ?_ ⟨(j+1,l',id',ver',_),⟨hk,by dsimp only;omega,hI'.mono (by dsimp only;omega),hne',by dsimp only;omega⟩,rfl,by dsimp only;omega⟩ Nat.zero_lt_one
     exact HpG_HS (HS.skip (HS.refl _) ((put_ne (by omega)).trans ((put_ne (by omega)).trans ((put_ne (by omega)).trans (HQ_none (by omega))))) _)
    cases A3
    ·have hk := hkeep (by rw [hq]; simp)
     clear hkeep hadd hq
     refine W.run ?_
     refine W.kl0 _ ?_ ⟨(j+1,l',id',ver',_),⟨hk,by dsimp only;omega,hI'.mono (by dsimp only;omega),hne',by dsimp only;omega⟩,rfl,by dsimp only;omega⟩ Nat.zero_lt_one
     exact HpG_HS (HS.skip (HS.refl _) ((put_ne (by omega)).trans ((put_ne (by omega)).trans ((put_ne (by omega)).trans (HQ_none (by omega))))) _)
    cases A4
    ·have hk := hadd (by rw [hq, decide_eq_true hh]; rfl)
     clear hkeep hadd hq
     refine W.run ?_
     refine W.ref (k75 _ _ 120 _ id' ver' l' m 5 j (by omega) hI'.2.1 (by omega) (by omega) (fun j hj=>by simp only [Hp.put];repeat (rw [if_neg (by omega)]))) (by omega) hdG ?_
     refine W.run ?_
     refine W.kl0 _ ?_ ⟨(j+1,l'++[(m,5,(j:Int))],nid id' (t+304+48),nver id' ver',_),⟨hk,by simp;omega,(hI'.mono (by omega)).add (top:=t+304) (by dsimp only;omega) (by omega),⟨nid_ne' hne'.1.symm (by omega),nid_ne' hne'.2.1.symm (by omega),nid_ne' hne'.2.2.symm (by omega)⟩,by dsimp only;omega⟩,rfl,by dsimp only;omega⟩ Nat.zero_lt_one
     exact HpG_HS (HS.skip (HS.refl _) ((put_ne (by omega)).trans ((put_ne (by omega)).trans ((put_ne (by omega)).trans (HQ_none (by omega))))) _)
    ·have hk := hkeep (by rw [hq]; simp)
     clear hkeep hadd hq
     refine W.run ?_
     refine W.kl0 _ ?_ ⟨(j+1,l',id',ver',_),⟨hk,by dsimp only;omega,hI'.mono (by dsimp only;omega),hne',by dsimp only;omega⟩,rfl,by dsimp only;omega⟩ Nat.zero_lt_one
     exact HpG_HS (HS.skip (HS.refl _) ((put_ne (by omega)).trans ((put_ne (by omega)).trans ((put_ne (by omega)).trans (HQ_none (by omega))))) _)
   have h1:=hrk h4
   have h3:=hok h5
   subst h1;subst h3
   have hk:=hkeep (by rw [hq];simp)
   clear hkeep hadd hq
   refine W.run ?_
   refine W.kl0 _ ?_ ⟨(j+1,l',id',ver',_),⟨hk,by dsimp only;omega,hI'.mono (by dsimp only;omega),hne',by dsimp only;omega⟩,rfl,by dsimp only;omega⟩ Nat.zero_lt_one
   exact HpG_HS (HS.skip (HS.refl _) ((put_ne (by omega)).trans ((put_ne (by omega)).trans ((put_ne (by omega)).trans (HQ_none (by omega))))) _)
  ·have hj2 : j = b.r.length := by omega
   have hx2:l4++((allH c).take (i+1)).flatMap (g5 c b) = l':=by rw [hsn',hx',hj2,List.take_length];rfl
   clear c7 c8
   refine W.run ?_
   refine W.kitr2 (l',id',ver') ?_ ⟨hx2.symm,by dsimp only;omega,hI'.mono (by omega),hne'⟩ (by omega)
   dsimp only
   rw [HpG_put (by omega) (.inr hne'.1.symm)]
   exact HS.refl _
 rintro ⟨l5,id5,ver5⟩ n5 ⟨hx5,hxl5,hI5,hne5⟩ hn5
 rw [show (itemsI (allH c)).length = (allH c).length by simp [itemsI]] at hxl5
 rw [show (itemsI (allH c)).length = (allH c).length by simp [itemsI],List.take_length] at hx5
 dsimp only at hx5 hxl5 hI5 hne5 ⊢
 rw [← hx5] at hE
 rw [hE]
 have hid5:=hI5.1
 have hgl:=gC_len l5
 have hga:=gC_atoms l5
 obtain ⟨_,h05,h06⟩:=hI5
 clear hit c3 c7 c8 hx5 hE
 unfold HpG gV
 by_cases hz:id5 = 0
 ·rw [if_pos hz,h05 hz]
  simp only [List.length_nil,if_true]
  unfold HM HQ
  refine W.run ?_
  rfl
 ·rw [if_neg hz,if_neg (h06 hz)]
  unfold HM HQ
  refine W.run ?_
  rfl
set_option maxRecDepth 10000 in
set_option maxHeartbeats 4000000 in
theorem k85_5 (c:Cf) (hc:c.Ok) (b:Brd) (hb:b.Ok) (hrl:b.r.length≤400) (R:V→Prop) (G0:List G3) (hG0:G0.length≤6800) (n:Nat) (hn:24 < n)
  (hK:∀ m,n≤m→wp Tryz.prog Ys.none (rtC (rtC (rtC (rtC (rtC (rtC (rtC c85))))))) (retP [.tmp 4] .x R) ⟨[(2,.ptr 0 0 0),(3,.ptr 8 0 0),(5,gR (G0++upH (fun h=>idxG (f5 c b h) 0 b.r) c.H.toNat))],(HB c b).put 24 (gO (G0++upH (fun h=>idxG (f5 c b h) 0 b.r) c.H.toNat)),m⟩) :
  wp Tryz.prog Ys.none (rtC (rtC (rtC (rtC (rtC (rtC c85)))))) (retP [.tmp 4] .x R) ⟨[(2,.ptr 0 0 0),(3,.ptr 8 0 0),(5,gR G0)],(HB c b).put 24 (gO G0),n⟩:=by
 have hr:=hc.rng
 have c2:=fun h=>k68 c hc b hb h
 have c8:=fun i (hi:i < b.r.length) k=>k123 c hc b.r[i] (by have:=(hb.2.2.2.2 b.r[i] (List.getElem_mem hi)).1;omega) k
 have c9:=fun i (hi:i < b.r.length) (hl:cntB c.H b.r[i] 4 (c.B+1) false = true)=>k132 c hc b hb b.r[i] (hb.2.2.2.2 b.r[i] (List.getElem_mem hi)) hl
 have cX:=fun h=>k67 c hc b hb h
 have cY:=fun i (hi:i < b.r.length) (hl:b.r[i].nums.length = 1) (hdl:(b.deal c b.r[i].other).isSome = true)=>k133 c hc b hb b.r[i] (hb.2.2.2.2 b.r[i] (List.getElem_mem hi)) hl hdl
 have hlen1:=fun h l=>idxG_len (f:=f5 c b h) (fun i x=>by unfold f5;split <;> simp) 0 l
 have hlen:=fun j=>upH_len (f:=fun h=>idxG (f5 c b h) 0 b.r) (m:=400) (fun h=>by have:=hlen1 h b.r;omega) j
 obtain ⟨F,hF⟩:∃ F,F = fun h=>idxG (f5 c b h) 0 b.r:=⟨_,rfl⟩
 rw [← hF] at hK hlen
 unfold c85 at hK ⊢
 dsimp only [rtC] at hK ⊢
 refine W.cut (fun _:Unit=>[(2,.ptr 0 0 0),(3,.ptr 8 0 0),(5,gR (G0++upH F c.H.toNat))]) (fun _=>(HB c b).put 24 (gO (G0++upH F c.H.toNat))) (fun _=>True) n (fun _ m _ hm=>hK m hm) ?_
 clear hK
 intro Gk hG
 refine W.run ?_
 refine W.lp (fun j:Nat=>[(2,.ptr 0 0 0),(3,.ptr 8 0 0),(5,gR (G0++upH F j)),(16,.int .i64 ((j:Int)+1))]) (fun j=>(HB c b).put 24 (gO (G0++upH F j))) (fun j=>j≤c.H.toNat) (fun j=>c.H.toNat - j) 0 (by simp [upH,rngH,keepE,look]) (by rw [show G0++upH F 0 = G0 by simp [upH,rngH]];exact HS.refl _) (by omega) ?_
 rintro j nx h1 hnx
 by_cases hj:j < c.H.toNat
 ·have c4:=c2 ((j:Int)+1)
  have hs:G0++upH F (j+1) = G0++upH F j++idxG (f5 c b ((j:Int)+1)) 0 b.r:=by rw [upH_succ,List.append_assoc,hF]
  have hl:(G0++upH F j).length≤13300:=by have:=hlen j;rw [List.length_append];omega
  have hl1:=hlen1 ((j:Int)+1)
  clear c2 hlen hlen1 hF hb hc
  generalize G0++upH F j = G at hs hl ⊢
  refine W.run ?_
  refine W.lp (fun i:Nat=>[(2,.ptr 0 0 0),(3,.ptr 8 0 0),(5,gR (G++idxG (f5 c b ((j:Int)+1)) 0 (b.r.take i))),(16,.int .i64 ((j:Int)+1)),(17,.int .i64 (i:Int))]) (fun i=>(HB c b).put 24 (gO (G++idxG (f5 c b ((j:Int)+1)) 0 (b.r.take i)))) (fun i=>i≤b.r.length) (fun i=>b.r.length - i) 0 (by simp [idxG,keepE,look]) (by rw [show G++idxG (f5 c b ((j:Int)+1)) 0 (b.r.take 0) = G by simp [idxG]];exact HS.refl _) (by omega) ?_
  rintro i nx1 h2 hnx1
  by_cases hi:i < b.r.length
  ·have cA:=c8 i hi 4
   have cB:=c8 i hi 5
   have hcn4:cntR c b.r[i] 4 = cntB c.H b.r[i] 4 (c.B+1) false:=by rw [cntR,if_pos (by omega)]
   have hcn5:cntR c b.r[i] 5 = cntB c.H b.r[i] 5 1 true:=by rw [cntR,if_neg (by omega),if_neg (by omega)]
   rw [hcn4] at cA
   rw [hcn5] at cB
   have c5:=c9 i hi
   have c6:=cX b.r[i].other
   have c7:=cY i hi
   have hs1:G++idxG (f5 c b ((j:Int)+1)) 0 (b.r.take (i+1)) = G++idxG (f5 c b ((j:Int)+1)) 0 (b.r.take i)++f5 c b ((j:Int)+1) i b.r[i]:=by rw [idxG_succ _ _ _ _ hi,Nat.zero_add,List.append_assoc]
   have hl2:(G++idxG (f5 c b ((j:Int)+1)) 0 (b.r.take i)).length≤13800:=by have:=hl1 (b.r.take i);rw [List.length_take] at this;rw [List.length_append];omega
   clear c8 c9 cX cY hs hl1 hcn4 hcn5
   generalize G++idxG (f5 c b ((j:Int)+1)) 0 (b.r.take i) = G2 at hs1 hl2 ⊢
   have hgl:=gC_len G2
   have hqe:q5 c b ((j:Int)+1) b.r[i] = (decide (b.r[i].hall = (j:Int)+1) && (((cntB c.H b.r[i] 4 (c.B+1) false && (b.deal c b.r[i].hall).isSome) && !revR c b b.r[i]) || ((cntB c.H b.r[i] 5 1 true && isInM c b b.r[i].other) && !((cntB c.H b.r[i] 5 1 true && isInM c b b.r[i].other) && fitsM c b b.r[i].other b.r[i].hall (b.r[i].nums.headD 0))))):=rfl
   have hno:q5 c b ((j:Int)+1) b.r[i] = false→G++idxG (f5 c b ((j:Int)+1)) 0 (b.r.take (i+1)) = G2:=fun h=>by rw [hs1,f5,h];simp
   have hyes:q5 c b ((j:Int)+1) b.r[i] = true→G++idxG (f5 c b ((j:Int)+1)) 0 (b.r.take (i+1)) = G2++[((j:Int)+1,5,(i:Int))]:=fun h=>by rw [hs1,f5,h];simp
   clear hs1
   by_cases hh:b.r[i].hall = (j:Int)+1
   case neg =>
    have hs2:=hno (by rw [hqe,decide_eq_false hh];rfl)
    clear hno hyes hqe c5 c6 c7
    unfold gR gO
    refine W.run ?_
    refine W.kl (i+1) ?_ ?_ (by omega) (by omega) (by omega)
    ·rw [hs2];rfl
    ·rw [hs2];exact HS.skip (HS.refl _) (by simp only [Hp.put];repeat (rw [if_neg (by omega)])) _
   rw [decide_eq_true hh,Bool.true_and,hh] at hqe
   cases hc4:cntB c.H b.r[i] 4 (c.B+1) false
   ·rw [hc4] at cA hqe
    have hdv:∃ A,dealV (b.deal c ((j:Int)+1)) = A:=⟨_,rfl⟩
    cases hc5:cntB c.H b.r[i] 5 1 true
    ·rw [hc5] at cB hqe
     have hs2:=hno (by rw [hqe];simp)
     clear hno hyes hqe c5 c6 c7 hdv
     cases hd:b.deal c ((j:Int)+1) with
     | none =>
      rw [hd] at c4
      dsimp only [dealV] at c4
      unfold gR gO
      refine W.run ?_
      refine W.kl (i+1) ?_ ?_ (by omega) (by omega) (by omega)
      ·rw [hs2];rfl
      ·rw [hs2];exact HS.skip (HS.refl _) (by simp only [Hp.put];repeat (rw [if_neg (by omega)])) _
     | some A =>
      rw [hd] at c4
      dsimp only [dealV] at c4
      unfold gR gO
      refine W.run ?_
      refine W.kl (i+1) ?_ ?_ (by omega) (by omega) (by omega)
      ·rw [hs2];rfl
      ·rw [hs2];exact HS.skip (HS.refl _) (by simp only [Hp.put];repeat (rw [if_neg (by omega)])) _
    ·rw [hc5] at cB hqe
     have hnl:b.r[i].nums.length = 1:=by have:=(cntB_hall hc5).2.2.2;omega
     cases hin:isInM c b b.r[i].other
     ·rw [hin] at c6 hqe
      have hs2:=hno (by rw [hqe];simp)
      clear hno hyes hqe c5 c7 hdv
      cases hd:b.deal c ((j:Int)+1) with
      | none =>
       rw [hd] at c4
       dsimp only [dealV] at c4
       unfold gR gO
       refine W.run ?_
       refine W.kl (i+1) ?_ ?_ (by omega) (by omega) (by omega)
       ·rw [hs2];rfl
       ·rw [hs2];exact HS.skip (HS.refl _) (by simp only [Hp.put];repeat (rw [if_neg (by omega)])) _
      | some A =>
       rw [hd] at c4
       dsimp only [dealV] at c4
       unfold gR gO
       refine W.run ?_
       refine W.kl (i+1) ?_ ?_ (by omega) (by omega) (by omega)
       ·rw [hs2];rfl
       ·rw [hs2];exact HS.skip (HS.refl _) (by simp only [Hp.put];repeat (rw [if_neg (by omega)])) _
     ·rw [hin] at c6 hqe
      obtain ⟨A',hA'⟩:=isIn_deal hin
      have c10:=c7 hnl (by rw [hA'];rfl)
      rw [hh] at c10
      cases hft:fitsM c b b.r[i].other ((j:Int)+1) (b.r[i].nums.headD 0)
      ·rw [hft] at c10 hqe
       have hs2:=hyes (by rw [hqe];simp)
       clear hno hyes hqe c5 c7 hdv hft
       cases hd:b.deal c ((j:Int)+1) with
       | none =>
        rw [hd] at c4
        dsimp only [dealV] at c4
        unfold gR gO
        refine W.run ?_
        refine W.kl (i+1) ?_ ?_ (by omega) (by omega) (by omega)
        ·rw [hs2,List.length_append];rfl
        ·rw [hs2,gC_app,List.length_append,List.length_singleton,if_neg (by omega)];exact HS.skip (HS.skip (HS.refl _) (by simp only [Hp.put];repeat (rw [if_neg (by omega)])) _) (by simp only [Hp.put];repeat (rw [if_neg (by omega)])) _
       | some A =>
        rw [hd] at c4
        dsimp only [dealV] at c4
        unfold gR gO
        refine W.run ?_
        refine W.kl (i+1) ?_ ?_ (by omega) (by omega) (by omega)
        ·rw [hs2,List.length_append];rfl
        ·rw [hs2,gC_app,List.length_append,List.length_singleton,if_neg (by omega)];exact HS.skip (HS.skip (HS.refl _) (by simp only [Hp.put];repeat (rw [if_neg (by omega)])) _) (by simp only [Hp.put];repeat (rw [if_neg (by omega)])) _
      ·rw [hft] at c10 hqe
       have hs2:=hno (by rw [hqe];simp)
       clear hno hyes hqe c5 c7 hdv hft
       cases hd:b.deal c ((j:Int)+1) with
       | none =>
        rw [hd] at c4
        dsimp only [dealV] at c4
        unfold gR gO
        refine W.run ?_
        refine W.kl (i+1) ?_ ?_ (by omega) (by omega) (by omega)
        ·rw [hs2];rfl
        ·rw [hs2];exact HS.skip (HS.refl _) (by simp only [Hp.put];repeat (rw [if_neg (by omega)])) _
       | some A =>
        rw [hd] at c4
        dsimp only [dealV] at c4
        unfold gR gO
        refine W.run ?_
        refine W.kl (i+1) ?_ ?_ (by omega) (by omega) (by omega)
        ·rw [hs2];rfl
        ·rw [hs2];exact HS.skip (HS.refl _) (by simp only [Hp.put];repeat (rw [if_neg (by omega)])) _
   ·rw [hc4] at cA hqe
    have hk4:b.r[i].kind = 4:=(cntB_hall hc4).2.2.1
    have hc5:cntB c.H b.r[i] 5 1 true = false:=by rw [cntB,decide_eq_false (by omega)];rfl
    rw [hc5] at cB hqe
    have c10:=c5 hc4
    clear c5 c6 c7
    cases hd:b.deal c ((j:Int)+1) with
    | none =>
     rw [hd] at c4 hqe
     dsimp only [dealV] at c4
     have hs2:=hno (by rw [hqe];simp)
     clear hno hyes hqe
     unfold gR gO
     refine W.run ?_
     refine W.kl (i+1) ?_ ?_ (by omega) (by omega) (by omega)
     ·rw [hs2];rfl
     ·rw [hs2];exact HS.skip (HS.refl _) (by simp only [Hp.put];repeat (rw [if_neg (by omega)])) _
    | some A =>
     rw [hd] at c4 hqe
     dsimp only [dealV] at c4
     cases hrv:revR c b b.r[i]
     ·rw [hrv] at c10 hqe
      have hs2:=hyes (by rw [hqe];simp)
      clear hno hyes hqe
      unfold gR gO
      refine W.run ?_
      refine W.kl (i+1) ?_ ?_ (by omega) (by omega) (by omega)
      ·rw [hs2,List.length_append];rfl
      ·rw [hs2,gC_app,List.length_append,List.length_singleton,if_neg (by omega)];exact HS.skip (HS.skip (HS.refl _) (by simp only [Hp.put];repeat (rw [if_neg (by omega)])) _) (by simp only [Hp.put];repeat (rw [if_neg (by omega)])) _
     ·rw [hrv] at c10 hqe
      have hs2:=hno (by rw [hqe];simp)
      clear hno hyes hqe
      unfold gR gO
      refine W.run ?_
      refine W.kl (i+1) ?_ ?_ (by omega) (by omega) (by omega)
      ·rw [hs2];rfl
      ·rw [hs2];exact HS.skip (HS.refl _) (by simp only [Hp.put];repeat (rw [if_neg (by omega)])) _
  ·have hi2 : i = b.r.length := by omega
   subst hi2
   rw [List.take_length,← hs]
   clear c4 c8 c9 cX cY hl1
   refine W.run ?_
   exact W.kl (j+1) rfl (HS.refl _) (by omega) (by omega) (by omega)
 ·have hj2 : j = c.H.toNat := by omega
  subst hj2
  clear c2 c8 c9 cX cY hlen hlen1
  refine W.run ?_
  exact W.kc hG () trivial (by omega) (HS.refl _)
end Go.Dp
