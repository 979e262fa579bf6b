import Derived.Test.YtlbjgnkjicifhaaGreatDwJ7
namespace Go.Dp
open Go.RowKit Go.Proofs
attribute [local irreducible] wp wpOps wpOp1 CallW CallT kSeq kBlk kLoop kReg retP retR kAsg kRound kRf kCut kItr kItr2
set_option linter.unusedVariables false
set_option linter.unusedSimpArgs false
theorem idxG_len {f:Nat→Ln→List G3} (h:∀ i x,(f i x).length≤1):∀ (n:Nat) (l:List Ln),(idxG f n l).length≤l.length
 | n,[]=>by simp [idxG]
 | n,x::l=>by
  have:=idxG_len h (n+1) l
  have:=h n x
  simp only [idxG,List.length_append,List.length_cons];omega
def q4r (c:Cf) (b:Brd) (h:Int) (i:Nat) (x:Ln):Bool:=cntB c.H x 3 1 true && decide (x.hall = h) && b.compl c x.other h && decide (b.ans c h x.other = i) && !fitsM c b x.hall x.other (x.nums.headD 0)
def f4 (c:Cf) (b:Brd) (h:Int) (i:Nat) (x:Ln):List G3:=if q4r c b h i x then [(h,4,(i:Int))] else []
def f5 (c:Cf) (b:Brd) (h:Int) (i:Nat) (x:Ln):List G3:=if q5 c b h x then [(h,5,(i:Int))] else []
def HM (c:Cf) (b:Brd) (z a d:Nat):Hp:=((HQ c b z).put a { cells:=[.mp d],sz:=1 }).put d mpO
set_option maxRecDepth 10000 in
set_option maxHeartbeats 4000000 in
theorem k33_c (c:Cf) (hc:c.Ok) (b:Brd) (hb:b.Ok) (hf:b.fits 400 = true) (l4:List G3) (id4 ver4 z3 n4:Nat) (hn4:136 < n4) (hI4:InvG 136 l4 id4 n4) (hxl4:l4.length≤6700) (E:List G3) (hE:E = l4++(allH c).flatMap (g5 c b)) :
  wp Tryz.prog Ys.none (rtC (rtC (rtC (rtC (rtC (rtC (rtC (rtC (rtC (rtC c33)))))))))) (retP [.tmp 4,.tmp 5] (.l [.x,.x]) (fun r=>r = .tup [gV E,.int .i64 0])) ⟨[(3,.ptr 8 0 0),(7,.ptr 104 0 0),(8,.ptr 120 0 0),(9,.ptr 136 0 0),(10,.clo (.func 76) [] []),(99,.clo (.func 126) [] [.fp [stV c b] 0,.fp [.clo (.func 79) [stV c b] []] 0])],HpG (HQ c b z3) 120 l4 id4 ver4,n4⟩:=by
 have hr:=hc.rng
 have c3:=k77 c b 76 [] [] (by simp) (by simp)
 have hit:Iter Tryz.prog 126 [] [.fp [stV c b] 0,.fp [.clo (.func 76) [] []] 0] (itemsI (allH c)):=it126 c hc b 76 [] [] (by simp) (by simp) (fun _=>true) (fun h _=>k76 h)
 have hlen:(allH c).length≤16:=hallsL_len hc _
 have hid4:=hI4.1
 have hbr:(b.r.length:Int)≤400:=fits_len hf 3
 unfold c33
 dsimp only [rtC]
 unfold HQ
 refine W.run ?_
 refine W.ref (k82 _ _ _ ?_) (by omega) ?_ ?_
 ·intro j hj
  rw [HpG_at (by omega) (by omega)];simp only [Hp.put];repeat (rw [if_neg (by omega)])
 ·intro j hj hn
  rw [put_ne (by omega)];exact hn
 refine W.run ?_
 obtain ⟨N6,hN6⟩:∃ N,N = n4+96:=⟨_,rfl⟩
 rw [← hN6]
 have hrc:∀ j (hj:j < b.r.length),LnO b.r[j]:=fun j hj=>hb.2.2.2.2 _ (List.getElem_mem hj)
 have c7:=fun j (hj:j < b.r.length)=>k129 c hc b hb b.r[j] (hrc j hj)
 have c8:=fun j (hj:j < b.r.length)=>k130 c hc b hb b.r[j] (hrc j hj)
 clear hc hb hrc
 refine W.rfi2 hit YEx.none rfl (fun vs hvs=>?_) (fun x:List G3 × Nat × Nat=>HpG (HM c b z3 (n4+8) (n4+24+8)) 120 x.1 x.2.1 x.2.2)
  (fun i x n=>x.1 = l4++((allH c).take i).flatMap (g5 c b)∧x.1.length≤6700+i * 400∧InvG 136 x.1 x.2.1 n∧x.2.1≠N6∧x.2.1≠n4+8∧x.2.1≠n4+24+8) (fun i x n n' hx hn=>⟨hx.1,hx.2.1,hx.2.2.1.mono hn,hx.2.2.2⟩) (l4,id4,ver4) (HS.refl _) ⟨by simp,by dsimp only;omega,hI4.mono (by omega),by dsimp only;omega,by dsimp only;omega,by dsimp only;omega⟩ ?_ ?_ ?_
 ·obtain ⟨i,hi,rfl⟩:=List.getElem_of_mem hvs
  simp [itemsI]
 ·rintro i ⟨l,id,ver⟩ n ⟨_,_,hI,hne⟩
  dsimp only at hI hne ⊢
  rw [HpG_at (by omega) (by have:=hI.1;omega)]
  unfold HM
  rw [put_ne (by omega),put_ne (by omega),HQ_none (by omega)]
 ·rintro i vs ⟨l,id,ver⟩ n hi ⟨hx,hxl,hI,hne⟩ hn
  dsimp only at hx hxl hI hne hi ⊢
  obtain ⟨hi1,-⟩:=List.getElem?_eq_some_iff.1 hi
  rw [show (itemsI (allH c)).length = (allH c).length by simp [itemsI]] at hi1
  rw [itemsI_get hi1,Option.some.injEq] at hi
  subst hi
  dsimp only [putL]
  have hkr:=allH_mem (List.getElem_mem hi1)
  have hsn:=flat_take (f:=g5 c b) hi1
  have hsn':l4++((allH c).take (i+1)).flatMap (g5 c b) = l++g5 c b (allH c)[i]:=by rw [hsn,hx,List.append_assoc]
  clear hsn hx
  generalize (allH c)[i] = m at hsn' hkr ⊢
  have hid:=hI.1
  unfold HM HQ
  refine W.run ?_
  refine W.kasg2 (by simp (disch:=omega) only [put_same,put_ne,ne_eq,go_sem]) rfl ?_
  refine W.run ?_
  refine W.loop (fun y:Nat × List G3 × Nat × Nat × Nat=>⟨[(7,.ptr 104 0 0),(9,.ptr 136 0 0),(19,.ptr (n4+8) 0 0),(20,.int .i64 m),(169,linV b.r),(170,.int .i64 (b.r.length:Int)),(171,.int .i64 (y.1:Int))],HpG ((HM c b z3 (n4+8) (n4+24+8)).put N6 (recO 1)) 120 y.2.1 y.2.2.1 y.2.2.2.1,y.2.2.2.2⟩)
   (fun y=>(y.1≤b.r.length∧y.2.1 = l++idxG (fun i x=>if q5 c b m x then [(m,5,(i:Int))] else []) 0 (b.r.take y.1))∧y.2.1.length≤l.length+y.1∧InvG 136 y.2.1 y.2.2.1 y.2.2.2.2∧(y.2.2.1≠N6∧y.2.2.1≠n4+8∧y.2.2.1≠n4+24+8)∧N6 < y.2.2.2.2) (fun y=>b.r.length - y.1) (0,l,id,ver,n+40) ⟨⟨by dsimp only;omega,by simp [idxG]⟩,by dsimp only;omega,hI.mono (by dsimp only;omega),hne,by dsimp only;omega⟩ ?_ rfl (HS.refl _) rfl
  rintro ⟨j,l',id',ver',t⟩ ⟨⟨hj,hx'⟩,hxl',hI',hne',ht⟩
  dsimp only at hj hx' hxl' hI' hne' ht ⊢
  have hid':=hI'.1
  clear hit hid hI
  unfold HM HQ
  by_cases hjl:j < b.r.length
  ·have hsu:=idxG_succ (fun i x=>if q5 c b m x then [(m,5,(i:Int))] else []) 0 b.r j hjl
   rw [Nat.zero_add] at hsu
   have hkeep:q5 c b m b.r[j] = false→(j+1≤b.r.length∧l' = l++idxG (fun i x=>if q5 c b m x then [(m,5,(i:Int))] else []) 0 (b.r.take (j+1))):=fun h=>⟨by omega,by rw [hsu,h,hx'];simp⟩
   have hadd:q5 c b m b.r[j] = true→(j+1≤b.r.length∧l'++[(m,5,(j:Int))] = l++idxG (fun i x=>if q5 c b m x then [(m,5,(i:Int))] else []) 0 (b.r.take (j+1))):=fun h=>⟨by omega,by rw [hsu,h,hx'];simp⟩
   have c9:=c7 j hjl
   have c10:=c8 j hjl
   have hq:q5 c b m b.r[j] = (decide (b.r[j].hall = m) && ((revC c b b.r[j] && !revR c b b.r[j]) || (opnC c b b.r[j] && !opnR c b b.r[j]))):=rfl
   have hrk:b.r[j].kind≠4→revC c b b.r[j] = false:=fun h=>by rw [revC,cntB,decide_eq_false h];rfl
   have hok:b.r[j].kind≠5→opnC c b b.r[j] = false:=fun h=>by rw [opnC,cntB,decide_eq_false h];rfl
   clear hsu hx' c7 c8
   generalize revC c b b.r[j] = A1 at c9 hq hrk
   generalize revR c b b.r[j] = A2 at c9 hq
   generalize opnC c b b.r[j] = A3 at c10 hq hok
   generalize opnR c b b.r[j] = A4 at c10 hq
   by_cases h4:b.r[j].kind = 4
   ·have h3 := hok (by omega)
    subst h3
    by_cases hh:b.r[j].hall = m
    case neg =>
     have hk:=hkeep (by rw [hq,decide_eq_false hh];rfl)
     clear hkeep hadd hq
     refine W.run ?_
     refine W.kl0 _ ?_ ⟨(j+1,l',id',ver',_),⟨hk,by dsimp only;omega,hI'.mono (by dsimp only;omega),hne',by dsimp only;omega⟩,rfl,by dsimp only;omega⟩ Nat.zero_lt_one
     exact HpG_HS (HS.skip (HS.refl _) ((put_ne (by omega)).trans ((put_ne (by omega)).trans ((put_ne (by omega)).trans (HQ_none (by omega))))) _)
    cases A1
    ·have hk := hkeep (by rw [hq]; simp)
     clear hkeep hadd hq
     refine W.run ?_
     refine W.kl0 _ ?_ ⟨(j+1,l',id',ver',_),⟨hk,by dsimp only;omega,hI'.mono (by dsimp only;omega),hne',by dsimp only;omega⟩,rfl,by dsimp only;omega⟩ Nat.zero_lt_one
     exact HpG_HS (HS.skip (HS.refl _) ((put_ne (by omega)).trans ((put_ne (by omega)).trans ((put_ne (by omega)).trans (HQ_none (by omega))))) _)
    cases A2
    ·have hk := hadd (by rw [hq, decide_eq_true hh]; rfl)
     clear hkeep hadd hq
     refine W.run ?_
     refine W.ref (k75 _ _ 120 _ id' ver' l' m 5 j (by omega) hI'.2.1 (by omega) (by omega) (fun j hj=>by simp only [Hp.put];repeat (rw [if_neg (by omega)]))) (by omega) hdG ?_
     refine W.run ?_
     refine W.kl0 _ ?_ ⟨(j+1,l'++[(m,5,(j:Int))],nid id' (t+304+48),nver id' ver',_),⟨hk,by simp;omega,(hI'.mono (by omega)).add (top:=t+304) (by dsimp only;omega) (by omega),⟨nid_ne' hne'.1.symm (by omega),nid_ne' hne'.2.1.symm (by omega),nid_ne' hne'.2.2.symm (by omega)⟩,by dsimp only;omega⟩,rfl,by dsimp only;omega⟩ Nat.zero_lt_one
     exact HpG_HS (HS.skip (HS.refl _) ((put_ne (by omega)).trans ((put_ne (by omega)).trans ((put_ne (by omega)).trans (HQ_none (by omega))))) _)
    ·have hk := hkeep (by rw [hq]; simp)
     clear hkeep hadd hq
     refine W.run ?_
     refine W.kl0 _ ?_ ⟨(j+1,l',id',ver',_),⟨hk,by dsimp only;omega,hI'.mono (by dsimp only;omega),hne',by dsimp only;omega⟩,rfl,by dsimp only;omega⟩ Nat.zero_lt_one
     exact HpG_HS (HS.skip (HS.refl _) ((put_ne (by omega)).trans ((put_ne (by omega)).trans ((put_ne (by omega)).trans (HQ_none (by omega))))) _)
   by_cases h5:b.r[j].kind = 5
   ·have h3 := hrk (by omega)
    subst h3
    by_cases hh:b.r[j].hall = m
    case neg =>
     have hk:=hkeep (by rw [hq,decide_eq_false hh];rfl)
     clear hkeep hadd hq
     refine W.run ?_
     refine W.kl0 _ ?_ ⟨(j+1,l',id',ver',_),⟨hk,by dsimp only;omega,hI'.mono (by dsimp only;omega),hne',by dsimp only;omega⟩,rfl,by dsimp only;omega⟩ Nat.zero_lt_one
     exact HpG_HS (HS.skip (HS.refl _) ((put_ne (by omega)).trans ((put_ne (by omega)).trans ((put_ne (by omega)).trans (HQ_none (by omega))))) _)
    cases A3
    ·have hk := hkeep (by rw [hq]; simp)
     clear hkeep hadd hq
     refine W.run ?_
     refine W.kl0 _ ?_ ⟨(j+1,l',id',ver',_),⟨hk,by dsimp only;omega,hI'.mono (by dsimp only;omega),hne',by dsimp only;omega⟩,rfl,by dsimp only;omega⟩ Nat.zero_lt_one
     exact HpG_HS (HS.skip (HS.refl _) ((put_ne (by omega)).trans ((put_ne (by omega)).trans ((put_ne (by omega)).trans (HQ_none (by omega))))) _)
    cases A4
    ·have hk := hadd (by rw [hq, decide_eq_true hh]; rfl)
     clear hkeep hadd hq
     refine W.run ?_
     refine W.ref (k75 _ _ 120 _ id' ver' l' m 5 j (by omega) hI'.2.1 (by omega) (by omega) (fun j hj=>by simp only [Hp.put];repeat (rw [if_neg (by omega)]))) (by omega) hdG ?_
     refine W.run ?_
     refine W.kl0 _ ?_ ⟨(j+1,l'++[(m,5,(j:Int))],nid id' (t+304+48),nver id' ver',_),⟨hk,by simp;omega,(hI'.mono (by omega)).add (top:=t+304) (by dsimp only;omega) (by omega),⟨nid_ne' hne'.1.symm (by omega),nid_ne' hne'.2.1.symm (by omega),nid_ne' hne'.2.2.symm (by omega)⟩,by dsimp only;omega⟩,rfl,by dsimp only;omega⟩ Nat.zero_lt_one
     exact HpG_HS (HS.skip (HS.refl _) ((put_ne (by omega)).trans ((put_ne (by omega)).trans ((put_ne (by omega)).trans (HQ_none (by omega))))) _)
    ·have hk := hkeep (by rw [hq]; simp)
     clear hkeep hadd hq
     refine W.run ?_
     refine W.kl0 _ ?_ ⟨(j+1,l',id',ver',_),⟨hk,by dsimp only;omega,hI'.mono (by dsimp only;omega),hne',by dsimp only;omega⟩,rfl,by dsimp only;omega⟩ Nat.zero_lt_one
     exact HpG_HS (HS.skip (HS.refl _) ((put_ne (by omega)).trans ((put_ne (by omega)).trans ((put_ne (by omega)).trans (HQ_none (by omega))))) _)
   have h1:=hrk h4
   have h3:=hok h5
   subst h1;subst h3
   have hk:=hkeep (by rw [hq];simp)
   clear hkeep hadd hq
   refine W.run ?_
   refine W.kl0 _ ?_ ⟨(j+1,l',id',ver',_),⟨hk,by dsimp only;omega,hI'.mono (by dsimp only;omega),hne',by dsimp only;omega⟩,rfl,by dsimp only;omega⟩ Nat.zero_lt_one
   exact HpG_HS (HS.skip (HS.refl _) ((put_ne (by omega)).trans ((put_ne (by omega)).trans ((put_ne (by omega)).trans (HQ_none (by omega))))) _)
  ·have hj2 : j = b.r.length := by omega
   have hx2:l4++((allH c).take (i+1)).flatMap (g5 c b) = l':=by rw [hsn',hx',hj2,List.take_length];rfl
   clear c7 c8
   refine W.run ?_
   refine W.kitr2 (l',id',ver') ?_ ⟨hx2.symm,by dsimp only;omega,hI'.mono (by omega),hne'⟩ (by omega)
   dsimp only
   rw [HpG_put (by omega) (.inr hne'.1.symm)]
   exact HS.refl _
 rintro ⟨l5,id5,ver5⟩ n5 ⟨hx5,hxl5,hI5,hne5⟩ hn5
 rw [show (itemsI (allH c)).length = (allH c).length by simp [itemsI]] at hxl5
 rw [show (itemsI (allH c)).length = (allH c).length by simp [itemsI],List.take_length] at hx5
 dsimp only at hx5 hxl5 hI5 hne5 ⊢
 rw [← hx5] at hE
 rw [hE]
 have hid5:=hI5.1
 have hgl:=gC_len l5
 have hga:=gC_atoms l5
 obtain ⟨_,h05,h06⟩:=hI5
 clear hit c3 c7 c8 hx5 hE
 unfold HpG gV
 by_cases hz:id5 = 0
 ·rw [if_pos hz,h05 hz]
  simp only [List.length_nil,if_true]
  unfold HM HQ
  refine W.run ?_
  rfl
 ·rw [if_neg hz,if_neg (h06 hz)]
  unfold HM HQ
  refine W.run ?_
  rfl
set_option maxRecDepth 10000 in
set_option maxHeartbeats 4000000 in
theorem k33_b (c:Cf) (hc:c.Ok) (b:Brd) (hb:b.Ok) (hf:b.fits 400 = true) (l3:List G3) (id3 ver3 z3 n3:Nat) (hn3:136 < n3) (hI3:InvG 136 l3 id3 n3) (hxl3:l3.length≤300) (E:List G3) (hE:E = l3++(dltH c b).flatMap (g4 c b)++(allH c).flatMap (g5 c b)) :
  wp Tryz.prog Ys.none (rtC (rtC (rtC (rtC (rtC (rtC (rtC (rtC (rtC c33))))))))) (retP [.tmp 4,.tmp 5] (.l [.x,.x]) (fun r=>r = .tup [gV E,.int .i64 0])) ⟨[(3,.ptr 8 0 0),(7,.ptr 104 0 0),(8,.ptr 120 0 0),(9,.ptr 136 0 0),(10,.clo (.func 76) [] []),(78,.clo (.func 126) [] [.fp [stV c b] 0,.fp [.clo (.func 79) [stV c b] []] 0])],HpG (HQ c b z3) 120 l3 id3 ver3,n3⟩:=by
 have hr:=hc.rng
 have c5:=k77 c b 79 [stV c b] [] (by simp [V.atom]) (by simp)
 have hit3:Iter Tryz.prog 126 [] [.fp [stV c b] 0,.fp [.clo (.func 79) [stV c b] []] 0] (itemsI (dltH c b)):=it126 c hc b 79 [stV c b] [] (by simp [V.atom]) (by simp) (fun h=>(b.deal c h).isSome) (fun h hh=>k79 c hc b hb h (by omega))
 have hlen3:(dltH c b).length≤16:=hallsL_len hc _
 have hid3:=hI3.1
 unfold c33
 dsimp only [rtC]
 unfold HQ
 refine W.run ?_
 obtain ⟨N5,hN5⟩:∃ N,N = n3+32:=⟨_,rfl⟩
 rw [← hN5]
 have hba:(b.a.length:Int)≤400:=fits_len hf 2
 refine W.rfi2 hit3 YEx.none rfl (fun vs hvs=>?_) (fun x:List G3 × Nat × Nat=>HpG (HQ c b z3) 120 x.1 x.2.1 x.2.2)
  (fun i x n=>x.1 = l3++((dltH c b).take i).flatMap (g4 c b)∧x.1.length≤300+i * 400∧InvG 136 x.1 x.2.1 n∧x.2.1≠N5) (fun i x n n' hx hn=>⟨hx.1,hx.2.1,hx.2.2.1.mono hn,hx.2.2.2⟩) (l3,id3,ver3) (HS.refl _) ⟨by simp,by dsimp only;omega,hI3.mono (by omega),by dsimp only;omega⟩ ?_ ?_ ?_
 ·obtain ⟨i,hi,rfl⟩:=List.getElem_of_mem hvs
  simp [itemsI]
 ·rintro i ⟨l,id,ver⟩ n ⟨_,_,hI,hne⟩
  dsimp only at hI hne ⊢
  rw [HpG_at (by omega) (by have:=hI.1;omega),HQ_none (by omega)]
 ·rintro i vs ⟨l,id,ver⟩ n hi ⟨hx,hxl,hI,hne⟩ hn
  dsimp only at hx hxl hI hne hi ⊢
  obtain ⟨hi1,-⟩:=List.getElem?_eq_some_iff.1 hi
  rw [show (itemsI (dltH c b)).length = (dltH c b).length by simp [itemsI]] at hi1
  rw [itemsI_get hi1,Option.some.injEq] at hi
  subst hi
  dsimp only [putL]
  have hkr:=(dltH_mem (List.getElem_mem hi1)).1
  have hsn:=flat_take (f:=g4 c b) hi1
  have hsn':l3++((dltH c b).take (i+1)).flatMap (g4 c b) = l++g4 c b (dltH c b)[i]:=by rw [hsn,hx,List.append_assoc]
  clear hsn hx
  generalize (dltH c b)[i] = h at hsn' hkr ⊢
  obtain ⟨m,rfl⟩:∃ m:Nat,h = m:=⟨h.toNat,by omega⟩
  have hid:=hI.1
  have hac:∀ j (hj:j < b.a.length),(b.a[j].nums.length < 2 ^ 20):=fun j hj=>(hb.2.2.1.2 _ (List.getElem_mem hj)).1
  have c7:=fun j (hj:j < b.a.length)=>k65 c.R c.P c.G c.H c.B c.K b.a[j].other
  have c8:=fun o (ho:0≤o∧o≤16) n=>k81 c hc b hb m o n (by omega)
  unfold HQ
  refine W.run ?_
  refine W.kasg2 (by simp (disch:=omega) only [put_same,put_ne,ne_eq,go_sem]) rfl ?_
  refine W.run ?_
  refine W.loop (fun y:Nat × List G3 × Nat × Nat × Nat=>⟨[(7,.ptr 104 0 0),(9,.ptr 136 0 0),(16,.int .i64 (m:Int)),(102,linV b.a),(103,.int .i64 (b.a.length:Int)),(104,.int .i64 (y.1:Int))],HpG ((HQ c b z3).put N5 (recO 1)) 120 y.2.1 y.2.2.1 y.2.2.2.1,y.2.2.2.2⟩)
   (fun y=>(y.1≤b.a.length∧y.2.1 = l++idxG (fun i x=>if q4 c b m i x then [((m:Int),4,(i:Int))] else []) 0 (b.a.take y.1))∧y.2.1.length≤l.length+y.1∧InvG 136 y.2.1 y.2.2.1 y.2.2.2.2∧y.2.2.1≠N5∧N5 < y.2.2.2.2) (fun y=>b.a.length - y.1) (0,l,id,ver,n+40) ⟨⟨by dsimp only;omega,by simp [idxG]⟩,by dsimp only;omega,hI.mono (by dsimp only;omega),hne,by dsimp only;omega⟩ ?_ rfl (HS.refl _) rfl
  rintro ⟨j,l',id',ver',t⟩ ⟨⟨hj,hx'⟩,hxl',hI',hne',ht⟩
  dsimp only at hj hx' hxl' hI' hne' ht ⊢
  have hid':=hI'.1
  unfold HQ
  by_cases hjl:j < b.a.length
  ·have hsu:=idxG_succ (fun i x=>if q4 c b m i x then [((m:Int),4,(i:Int))] else []) 0 b.a j hjl
   rw [Nat.zero_add] at hsu
   have hkeep:q4 c b m j b.a[j] = false→(j+1≤b.a.length∧l' = l++idxG (fun i x=>if q4 c b m i x then [((m:Int),4,(i:Int))] else []) 0 (b.a.take (j+1))):=fun h=>⟨by omega,by rw [hsu,h,hx'];simp⟩
   have hadd:q4 c b m j b.a[j] = true→(j+1≤b.a.length∧l'++[((m:Int),4,(j:Int))] = l++idxG (fun i x=>if q4 c b m i x then [((m:Int),4,(i:Int))] else []) 0 (b.a.take (j+1))):=fun h=>⟨by omega,by rw [hsu,h,hx'];simp⟩
   have c9:=c7 j hjl
   have hq:q4 c b m j b.a[j] = (decide (b.a[j].hall = m) && isHallB c.H b.a[j].other && decide (b.ans c m b.a[j].other = j) && b.compl c b.a[j].other m && !fitsM c b m b.a[j].other (b.a[j].nums.headD 0)):=rfl
   clear hsu hx' c7
   by_cases hh:b.a[j].hall = m
   case neg =>
    have hk:=hkeep (by rw [hq,decide_eq_false hh];rfl)
    clear hkeep hadd hq
    refine W.run ?_
    refine W.kl0 _ ?_ ⟨(j+1,l',id',ver',_),⟨hk,by dsimp only;omega,hI'.mono (by dsimp only;omega),hne',by dsimp only;omega⟩,rfl,by dsimp only;omega⟩ Nat.zero_lt_one
    exact HpG_HS (HS.skip (HS.refl _) ((put_ne (by omega)).trans (HQ_none (by omega))) _)
   cases ho:isHallB c.H b.a[j].other
   ·rw [ho] at c9
    have hk:=hkeep (by rw [hq,ho,Bool.and_false];rfl)
    clear hkeep hadd hq
    refine W.run ?_
    refine W.kl0 _ ?_ ⟨(j+1,l',id',ver',_),⟨hk,by dsimp only;omega,hI'.mono (by dsimp only;omega),hne',by dsimp only;omega⟩,rfl,by dsimp only;omega⟩ Nat.zero_lt_one
    exact HpG_HS (HS.skip (HS.refl _) ((put_ne (by omega)).trans (HQ_none (by omega))) _)
   rw [ho] at c9
   have ho2:1≤b.a[j].other∧b.a[j].other≤c.H:=by simpa [isHallB] using ho
   by_cases hans:b.ans c m b.a[j].other = j
   case neg =>
    have hk:=hkeep (by rw [hq,decide_eq_false hans,Bool.and_false];rfl)
    clear hkeep hadd hq
    refine W.run ?_
    refine W.kl0 _ ?_ ⟨(j+1,l',id',ver',_),⟨hk,by dsimp only;omega,hI'.mono (by dsimp only;omega),hne',by dsimp only;omega⟩,rfl,by dsimp only;omega⟩ Nat.zero_lt_one
    exact HpG_HS (HS.skip (HS.refl _) ((put_ne (by omega)).trans (HQ_none (by omega))) _)
   obtain ⟨_,hqa,_⟩:=ans_at' hans
   have hnl:=ans_len hqa
   clear hqa
   cases hcm:b.compl c b.a[j].other m
   ·have hk := hkeep (by rw [hq, hcm, Bool.and_false]; rfl)
    clear hkeep hadd hq
    refine W.run ?_
    rw [hcm]
    refine W.run ?_
    refine W.kl0 _ ?_ ⟨(j+1,l',id',ver',_),⟨hk,by dsimp only;omega,hI'.mono (by dsimp only;omega),hne',by dsimp only;omega⟩,rfl,by dsimp only;omega⟩ Nat.zero_lt_one
    exact HpG_HS (HS.skip (HS.refl _) ((put_ne (by omega)).trans (HQ_none (by omega))) _)
   have c10:=c8 b.a[j].other (by omega) (b.a[j].nums.headD 0)
   cases hft:fitsM c b m b.a[j].other (b.a[j].nums.headD 0)
   ·rw [hft, headD_get (by omega)] at c10
    have hk:=hadd (by rw [hq,hft,hcm,ho,decide_eq_true hh,decide_eq_true hans];rfl)
    clear hkeep hadd hq c8 hft
    refine W.run ?_
    rw [hcm]
    refine W.run ?_
    refine W.ref (k75 _ _ 120 _ id' ver' l' m 4 j (by omega) hI'.2.1 (by omega) (by omega) (fun j hj=>by simp only [Hp.put];repeat (rw [if_neg (by omega)]))) (by omega) hdG ?_
    refine W.run ?_
    refine W.kl0 _ ?_ ⟨(j+1,l'++[((m:Int),4,(j:Int))],nid id' (t+480+48),nver id' ver',_),⟨hk,by simp;omega,(hI'.mono (by omega)).add (top:=t+480) (by dsimp only;omega) (by omega),nid_ne' hne'.symm (by omega),by dsimp only;omega⟩,rfl,by dsimp only;omega⟩ Nat.zero_lt_one
    exact HpG_HS (HS.skip (HS.refl _) ((put_ne (by omega)).trans (HQ_none (by omega))) _)
   ·rw [hft, headD_get (by omega)] at c10
    have hk:=hkeep (by rw [hq,hft];simp)
    clear hkeep hadd hq c8 hft
    refine W.run ?_
    rw [hcm]
    refine W.run ?_
    refine W.kl0 _ ?_ ⟨(j+1,l',id',ver',_),⟨hk,by dsimp only;omega,hI'.mono (by dsimp only;omega),hne',by dsimp only;omega⟩,rfl,by dsimp only;omega⟩ Nat.zero_lt_one
    exact HpG_HS (HS.skip (HS.refl _) ((put_ne (by omega)).trans (HQ_none (by omega))) _)
  ·have hj2 : j = b.a.length := by omega
   have hx2:l3++((dltH c b).take (i+1)).flatMap (g4 c b) = l':=by rw [hsn',hx',hj2,List.take_length];rfl
   clear c7 c8 hac
   refine W.run ?_
   refine W.kitr2 (l',id',ver') ?_ ⟨hx2.symm,by dsimp only;omega,hI'.mono (by omega),hne'⟩ (by omega)
   dsimp only
   rw [HpG_put (by omega) (.inr hne'.symm)]
   exact HS.refl _
 rintro ⟨l4,id4,ver4⟩ n4 ⟨hx4,hxl4,hI4,hne4⟩ hn4
 rw [show (itemsI (dltH c b)).length = (dltH c b).length by simp [itemsI]] at hxl4
 rw [show (itemsI (dltH c b)).length = (dltH c b).length by simp [itemsI],List.take_length] at hx4
 dsimp only at hx4 hxl4 hI4 hne4 ⊢
 refine W.kblk (W.kseq ?_)
 exact k33_c c hc b hb hf l4 id4 ver4 z3 n4 (by omega) hI4 (by omega) _ (by rw [hE,hx4])
set_option maxRecDepth 10000 in
set_option maxHeartbeats 4000000 in
theorem k33 (c:Cf) (hc:c.Ok) (b:Brd) (hb:b.Ok):PureC Tryz.prog 33 [c.v,bdV b] (fun r=>r = if b.fits 400 then .tup [gV (guiltM c b),.int .i64 0] else .tup [.nils,.int .i64 2]):=by
 have hr:=hc.rng
 have hlen:(allH c).length≤16:=hallsL_len hc _
 have c1:=k51b hc 400 (by omega) b hb
 have c2:=k58 c hc b hb
 have c3:=k77 c b 76 [] [] (by simp) (by simp)
 refine pureC_of_wp (.l [.x,.x]) mixed ok33 rfl ?_
 unfold c33
 dsimp only [argE,Cf.v,cfgV,bdV]
 cases hf:b.fits 400
 ·rw [hf] at c1
  refine W.run ?_
  rfl
 rw [hf] at c1
 rw [if_pos rfl]
 refine W.run ?_
 have hit:Iter Tryz.prog 126 [] [.fp [stV c b] 0,.fp [.clo (.func 76) [] []] 0] (itemsI (allH c)):=it126 c hc b 76 [] [] (by simp) (by simp) (fun _=>true) (fun h _=>k76 h)
 refine W.rfi2 hit YEx.none rfl (fun vs hvs=>?_) (fun x:List G3 × Nat × Nat=>HpG (HQ c b 0) 120 x.1 x.2.1 x.2.2)
  (fun i x n=>x.1 = ((allH c).take i).flatMap (g1 c b)∧x.1.length≤i∧InvG 136 x.1 x.2.1 n∧x.2.1≠184) (fun i x n n' hx hn=>⟨hx.1,hx.2.1,hx.2.2.1.mono hn,hx.2.2.2⟩) ([],0,0) ?_ ⟨rfl,by simp,⟨.inl rfl,fun _=>rfl,fun h=>absurd rfl h⟩,by decide⟩ ?_ ?_ ?_
 ·obtain ⟨i,hi,rfl⟩:=List.getElem_of_mem hvs
  simp [itemsI]
 ·unfold HpG HQ
  rw [if_pos rfl,put_comm (show 136≠120 by omega)]
  exact HS.refl _
 ·rintro i ⟨l,id,ver⟩ n ⟨_,_,hI,hne⟩
  dsimp only at hI hne ⊢
  rw [HpG_at (by omega) (by have:=hI.1;omega),HQ_none (by omega)]
 ·rintro i vs ⟨l,id,ver⟩ n hi ⟨hx,hxl,hI,hne⟩ hn
  dsimp only at hx hxl hI hne hi ⊢
  obtain ⟨hi1,-⟩:=List.getElem?_eq_some_iff.1 hi
  rw [show (itemsI (allH c)).length = (allH c).length by simp [itemsI]] at hi1
  rw [itemsI_get hi1,Option.some.injEq] at hi
  subst hi
  dsimp only [putL]
  have hkr:=allH_mem (List.getElem_mem hi1)
  have c4:=k78 c hc b hb (allH c)[i] hkr
  have hsn:=flat_take (f:=g1 c b) hi1
  rw [← hx] at hsn
  generalize (allH c)[i] = h at c4 hsn hkr ⊢
  have hid:=hI.1
  unfold HQ
  by_cases ht:0≤twiceM c b h
  ·unfold g1 at hsn
   rw [if_pos ht] at hsn
   refine W.run ?_
   refine W.kasg2 (by simp (disch:=omega) only [put_same,put_ne,ne_eq,go_sem]) rfl ?_
   refine W.run ?_
   refine W.ref (k75 _ _ 120 _ id ver l h 1 (twiceM c b h) (by omega) hI.2.1 (by omega) (by omega) (fun j hj=>by simp only [Hp.put];repeat (rw [if_neg (by omega)]))) (by omega) hdG ?_
   refine W.run ?_
   refine W.kitr2 (l++[(h,1,twiceM c b h)],nid id (n+88+48),nver id ver) ?_ ⟨hsn.symm,by simp;omega,(hI.mono (by omega)).add (top:=n+88) (by omega) (by omega),nid_ne' hne.symm (by omega)⟩ (by omega)
   dsimp only
   rw [HpG_put (by omega) (nid_ne (.inr hne.symm) (by omega))]
   exact HS.refl _
  ·have hsn2 : ((allH c).take (i + 1)).flatMap (g1 c b) = l := by rw [hsn, g1, if_neg ht, List.append_nil]
   refine W.run ?_
   refine W.kasg2 (by simp (disch:=omega) only [put_same,put_ne,ne_eq,go_sem]) rfl ?_
   refine W.run ?_
   refine W.kitr2 (l,id,ver) ?_ ⟨hsn2.symm,by dsimp only;omega,hI.mono (by omega),hne⟩ (by omega)
   dsimp only
   rw [HpG_put (by omega) (.inr hne.symm)]
   exact HS.refl _
 rintro ⟨l1,id1,ver1⟩ n1 ⟨hx1,hxl1,hI1,hne1⟩ hn1
 rw [show (itemsI (allH c)).length = (allH c).length by simp [itemsI]] at hxl1
 rw [show (itemsI (allH c)).length = (allH c).length by simp [itemsI],List.take_length] at hx1
 dsimp only at hx1 hxl1 hI1 hne1 ⊢
 have hid1:=hI1.1
 unfold HQ
 refine W.run ?_
 obtain ⟨N,hN⟩:∃ N,N = n1+24:=⟨_,rfl⟩
 rw [← hN]
 refine W.rfi2 hit YEx.none rfl (fun vs hvs=>?_) (fun x:List G3 × Nat × Nat=>HpG (HQ c b 0) 120 x.1 x.2.1 x.2.2)
  (fun i x n=>x.1 = l1++((allH c).take i).flatMap (g2 c b)∧x.1.length≤16+i∧InvG 136 x.1 x.2.1 n∧x.2.1≠N) (fun i x n n' hx hn=>⟨hx.1,hx.2.1,hx.2.2.1.mono hn,hx.2.2.2⟩) (l1,id1,ver1) (HS.refl _) ⟨by simp,by dsimp only;omega,hI1.mono (by omega),by dsimp only;omega⟩ ?_ ?_ ?_
 ·obtain ⟨i,hi,rfl⟩:=List.getElem_of_mem hvs
  simp [itemsI]
 ·rintro i ⟨l,id,ver⟩ n ⟨_,_,hI,hne⟩
  dsimp only at hI hne ⊢
  rw [HpG_at (by omega) (by have:=hI.1;omega),HQ_none (by omega)]
 ·rintro i vs ⟨l,id,ver⟩ n hi ⟨hx,hxl,hI,hne⟩ hn
  dsimp only at hx hxl hI hne hi ⊢
  obtain ⟨hi1,-⟩:=List.getElem?_eq_some_iff.1 hi
  rw [show (itemsI (allH c)).length = (allH c).length by simp [itemsI]] at hi1
  rw [itemsI_get hi1,Option.some.injEq] at hi
  subst hi
  dsimp only [putL]
  have hkr:=allH_mem (List.getElem_mem hi1)
  have c4:=k79 c hc b hb (allH c)[i] (by omega)
  have hsn:=flat_take (f:=g2 c b) hi1
  have hsn':l1++((allH c).take (i+1)).flatMap (g2 c b) = l++g2 c b (allH c)[i]:=by rw [hsn,hx,List.append_assoc]
  clear hsn hx
  generalize (allH c)[i] = h at c4 hsn' hkr ⊢
  obtain ⟨m,rfl⟩:∃ m:Nat,h = m:=⟨h.toNat,by omega⟩
  have hid:=hI.1
  unfold HQ
  have hno:¬ (0≤b.first c m∧(b.deal c m).isSome = false)→l1++((allH c).take (i+1)).flatMap (g2 c b) = l:=fun h=>by rw [hsn',g2,if_neg h,List.append_nil]
  by_cases ht:0≤b.first c m
  ·cases hd:(b.deal c m).isSome
   ·rw [hd] at c4
    unfold g2 at hsn'
    rw [if_pos ⟨ht,hd⟩] at hsn'
    clear hno
    refine W.run ?_
    refine W.kasg2 (by simp (disch:=omega) only [put_same,put_ne,ne_eq,go_sem]) rfl ?_
    refine W.run ?_
    refine W.ref (k75 _ _ 120 _ id ver l m 2 (b.first c m) (by omega) hI.2.1 (by omega) (by omega) (fun j hj=>by simp only [Hp.put];repeat (rw [if_neg (by omega)]))) (by omega) hdG ?_
    refine W.run ?_
    refine W.kitr2 (l++[((m:Int),2,b.first c m)],nid id (n+184+48),nver id ver) ?_ ⟨hsn'.symm,by simp;omega,(hI.mono (by omega)).add (top:=n+184) (by omega) (by omega),nid_ne' hne.symm (by omega)⟩ (by omega)
    dsimp only
    rw [HpG_put (by omega) (nid_ne (.inr hne.symm) (by omega))]
    exact HS.refl _
   ·rw [hd] at c4
    have hsn2:=hno (fun h=>by rw [hd] at h;cases h.2)
    clear hno
    refine W.run ?_
    refine W.kasg2 (by simp (disch:=omega) only [put_same,put_ne,ne_eq,go_sem]) rfl ?_
    refine W.run ?_
    refine W.kitr2 (l,id,ver) ?_ ⟨hsn2.symm,by dsimp only;omega,hI.mono (by omega),hne⟩ (by omega)
    dsimp only
    rw [HpG_put (by omega) (.inr hne.symm)]
    exact HS.refl _
  ·have hsn2:=hno (fun h=>ht h.1)
   clear hno
   refine W.run ?_
   refine W.kasg2 (by simp (disch:=omega) only [put_same,put_ne,ne_eq,go_sem]) rfl ?_
   refine W.run ?_
   refine W.kitr2 (l,id,ver) ?_ ⟨hsn2.symm,by dsimp only;omega,hI.mono (by omega),hne⟩ (by omega)
   dsimp only
   rw [HpG_put (by omega) (.inr hne.symm)]
   exact HS.refl _
 rintro ⟨l2,id2,ver2⟩ n2 ⟨hx2,hxl2,hI2,hne2⟩ hn2
 rw [show (itemsI (allH c)).length = (allH c).length by simp [itemsI]] at hxl2
 rw [show (itemsI (allH c)).length = (allH c).length by simp [itemsI],List.take_length] at hx2
 dsimp only at hx2 hxl2 hI2 hne2 ⊢
 have hid2:=hI2.1
 have c5:=k77 c b 79 [stV c b] [] (by simp [V.atom]) (by simp)
 unfold HQ
 refine W.run ?_
 obtain ⟨N3,hN3⟩:∃ N,N = n2+32:=⟨_,rfl⟩
 rw [← hN3]
 have hit3:Iter Tryz.prog 126 [] [.fp [stV c b] 0,.fp [.clo (.func 79) [stV c b] []] 0] (itemsI (dltH c b)):=it126 c hc b 79 [stV c b] [] (by simp [V.atom]) (by simp) (fun h=>(b.deal c h).isSome) (fun h hh=>k79 c hc b hb h (by omega))
 have hlen3:(dltH c b).length≤16:=hallsL_len hc _
 refine W.rfi2 hit3 YEx.none rfl (fun vs hvs=>?_) (fun x:List G3 × Nat × Nat × Nat=>HpG (HQ c b x.2.2.2) 120 x.1 x.2.1 x.2.2.1)
  (fun i x n=>x.1 = l2++((dltH c b).take i).flatMap (g3 c b)∧x.1.length≤32+i * 16∧InvG 136 x.1 x.2.1 n∧x.2.1≠N3) (fun i x n n' hx hn=>⟨hx.1,hx.2.1,hx.2.2.1.mono hn,hx.2.2.2⟩) (l2,id2,ver2,0) (HS.refl _) ⟨by simp,by dsimp only;omega,hI2.mono (by omega),by dsimp only;omega⟩ ?_ ?_ ?_
 ·obtain ⟨i,hi,rfl⟩:=List.getElem_of_mem hvs
  simp [itemsI]
 ·rintro i ⟨l,id,ver,z⟩ n ⟨_,_,hI,hne⟩
  dsimp only at hI hne ⊢
  rw [HpG_at (by omega) (by have:=hI.1;omega),HQ_none (by omega)]
 ·rintro i vs ⟨l,id,ver,z⟩ n hi ⟨hx,hxl,hI,hne⟩ hn
  dsimp only at hx hxl hI hne hi ⊢
  obtain ⟨hi1,-⟩:=List.getElem?_eq_some_iff.1 hi
  rw [show (itemsI (dltH c b)).length = (dltH c b).length by simp [itemsI]] at hi1
  rw [itemsI_get hi1,Option.some.injEq] at hi
  subst hi
  dsimp only [putL]
  have hkr:=(dltH_mem (List.getElem_mem hi1)).1
  have hsn:=flat_take (f:=g3 c b) hi1
  have hsn':l2++((dltH c b).take (i+1)).flatMap (g3 c b) = l++g3 c b (dltH c b)[i]:=by rw [hsn,hx,List.append_assoc]
  clear hsn hx
  generalize (dltH c b)[i] = h at hsn' hkr ⊢
  obtain ⟨m,rfl⟩:∃ m:Nat,h = m:=⟨h.toNat,by omega⟩
  have c6:=k77 c b 80 [] [.fp [stV c b] 0,.fp [.int .i64 (m:Int)] 0] (by simp) (by simp [V.atom])
  have hit4:Iter Tryz.prog 126 [] [.fp [stV c b] 0,.fp [.clo (.func 80) [] [.fp [stV c b] 0,.fp [.int .i64 (m:Int)] 0]] 0] (itemsI (hallsL c fun k=>b.compl c k m)):=it126 c hc b 80 [] [.fp [stV c b] 0,.fp [.int .i64 (m:Int)] 0] (by simp) (by simp [V.atom]) (fun k=>b.compl c k m) (fun k hk=>k80 c hc b m k (by omega) (by omega))
  have hlen4:(hallsL c fun k=>b.compl c k m).length≤16:=hallsL_len hc _
  have hid:=hI.1
  unfold HQ
  refine W.run ?_
  refine W.kasg2 (by simp (disch:=omega) only [put_same,put_ne,ne_eq,go_sem]) rfl ?_
  refine W.run ?_
  obtain ⟨N4,hN4⟩:∃ N,N = n+40:=⟨_,rfl⟩
  rw [← hN4]
  refine W.rfi2 hit4 YEx.none rfl (fun vs hvs=>?_) (fun x:List G3 × Nat × Nat=>HpG (((HQ c b (max z 1)).put N3 (recO 1)).put n { cells:=[.int .i64 (m:Int)],sz:=1,fz:=max 0 1 }) 120 x.1 x.2.1 x.2.2)
   (fun j x t=>x.1 = l++((hallsL c fun k=>b.compl c k m).take j).flatMap (fun k=>if b.ans c m k < 0 then [((m:Int),3,-1)] else [])∧x.1.length≤l.length+j∧InvG 136 x.1 x.2.1 t∧x.2.1≠N3∧x.2.1≠n∧x.2.1≠N4) (fun j x t t' hx ht=>⟨hx.1,hx.2.1,hx.2.2.1.mono ht,hx.2.2.2⟩) (l,id,ver) (HS.refl _) ⟨by simp,by dsimp only;omega,hI.mono (by omega),by dsimp only;omega,by dsimp only;omega,by dsimp only;omega⟩ ?_ ?_ ?_
  ·obtain ⟨i,hi,rfl⟩:=List.getElem_of_mem hvs
   simp [itemsI]
  ·rintro i ⟨l',id',ver'⟩ t ⟨_,_,hI',hne'⟩
   dsimp only at hI' hne' ⊢
   rw [HpG_at (by omega) (by have:=hI'.1;omega),put_ne (by omega),put_ne (by omega),HQ_none (by omega)]
  ·rintro j vs ⟨l',id',ver'⟩ t hj ⟨hx',hxl',hI',hne'⟩ ht
   dsimp only at hx' hxl' hI' hne' hj ⊢
   obtain ⟨hj1,-⟩:=List.getElem?_eq_some_iff.1 hj
   rw [show (itemsI (hallsL c fun k=>b.compl c k m)).length = (hallsL c fun k=>b.compl c k m).length by simp [itemsI]] at hj1
   rw [itemsI_get hj1,Option.some.injEq] at hj
   subst hj
   dsimp only [putL]
   have hkr':1≤(hallsL c fun k=>b.compl c k m)[j]∧(hallsL c fun k=>b.compl c k m)[j]≤c.H:=by have:=rngH_mem.1 (List.mem_filter.1 (List.getElem_mem hj1)).1;omega
   have hsn:=flat_take (f:=fun k=>if b.ans c m k < 0 then [((m:Int),3,-1)] else []) hj1
   have hsn2:l++((hallsL c fun k=>b.compl c k m).take (j+1)).flatMap (fun k=>if b.ans c m k < 0 then [((m:Int),3,-1)] else []) = l'++if b.ans c m (hallsL c fun k=>b.compl c k m)[j] < 0 then [((m:Int),3,-1)] else []:=by rw [hsn,hx',List.append_assoc]
   clear hsn hx'
   generalize (hallsL c fun k=>b.compl c k m)[j] = k at hsn2 hkr' ⊢
   obtain ⟨k,rfl⟩:∃ q:Nat,k = q:=⟨k.toNat,by omega⟩
   have hid':=hI'.1
   unfold HQ
   by_cases hk:b.ans c m k < 0
   ·rw [if_pos hk] at hsn2
    refine W.run ?_
    refine W.kasg2 (by simp (disch:=omega) only [put_same,put_ne,ne_eq,go_sem]) rfl ?_
    refine W.run ?_
    refine W.ref (k75 _ _ 120 _ id' ver' l' m 3 (-1) (by omega) hI'.2.1 (by omega) (by omega) (fun j hj=>by simp only [Hp.put];repeat (rw [if_neg (by omega)]))) (by omega) hdG ?_
    refine W.run ?_
    refine W.kitr2 (l'++[((m:Int),3,-1)],nid id' (t+104+48),nver id' ver') ?_ ⟨hsn2.symm,by simp;omega,(hI'.mono (by omega)).add (top:=t+104) (by omega) (by omega),nid_ne' hne'.1.symm (by omega),nid_ne' hne'.2.1.symm (by omega),nid_ne' hne'.2.2.symm (by omega)⟩ (by omega)
    dsimp only
    rw [HpG_put (by omega) (nid_ne (.inr hne'.2.2.symm) (by omega))]
    exact HS.refl _
   ·rw [if_neg hk,List.append_nil] at hsn2
    refine W.run ?_
    refine W.kasg2 (by simp (disch:=omega) only [put_same,put_ne,ne_eq,go_sem]) rfl ?_
    refine W.run ?_
    refine W.kitr2 (l',id',ver') ?_ ⟨hsn2.symm,by dsimp only;omega,hI'.mono (by omega),hne'⟩ (by omega)
    dsimp only
    rw [HpG_put (by omega) (.inr hne'.2.2.symm)]
    exact HS.refl _
  ·rintro ⟨l',id',ver'⟩ t ⟨hx',hxl',hI',hne'⟩ ht
   rw [show (itemsI (hallsL c fun k=>b.compl c k m)).length = (hallsL c fun k=>b.compl c k m).length by simp [itemsI]] at hxl'
   rw [show (itemsI (hallsL c fun k=>b.compl c k m)).length = (hallsL c fun k=>b.compl c k m).length by simp [itemsI],List.take_length] at hx'
   dsimp only at hx' hxl' hI' hne' ⊢
   have hx2:l2++((dltH c b).take (i+1)).flatMap (g3 c b) = l':=by rw [hsn',hx'];rfl
   refine W.run ?_
   refine W.kitr2 (l',id',ver',max z 1) ?_ ⟨hx2.symm,by dsimp only;omega,hI',hne'.1⟩ (by omega)
   dsimp only
   rw [HpG_put (by omega) (.inr hne'.1.symm)]
   exact HpG_HS (HS.skip (HS.refl _) ((put_ne (by omega)).trans (HQ_none (by omega))) _)
 rintro ⟨l3,id3,ver3,z3⟩ n3 ⟨hx3,hxl3,hI3,hne3⟩ hn3
 rw [show (itemsI (dltH c b)).length = (dltH c b).length by simp [itemsI]] at hxl3
 rw [show (itemsI (dltH c b)).length = (dltH c b).length by simp [itemsI],List.take_length] at hx3
 dsimp only at hx3 hxl3 hI3 hne3 ⊢
 refine W.kblk (W.kseq ?_)
 exact k33_b c hc b hb hf l3 id3 ver3 z3 n3 (by omega) hI3 (by omega) _ (by rw [guiltM,hx3,hx2,hx1])
end Go.Dp
