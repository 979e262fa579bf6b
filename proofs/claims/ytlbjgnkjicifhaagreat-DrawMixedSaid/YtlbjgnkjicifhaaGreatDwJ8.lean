import Derived.Test.YtlbjgnkjicifhaaGreatDwJ5
import Derived.Test.YtlbjgnkjicifhaaGreatDwQ0
namespace Go.Dp
open Go.RowKit Go.Proofs
attribute [local irreducible] wp wpOps wpOp1 CallW CallT kSeq kBlk kLoop kReg retP retR kAsg kRound kRf kCut kItr kItr2
set_option linter.unusedVariables false
set_option linter.unusedSimpArgs false
set_option maxRecDepth 10000 in
theorem k86 (c:Cf) (hc:c.Ok) (b:Brd) (hb:b.Ok):PureC Tryz.prog 86 [c.v,bdV b] (fun r=>r = .tup [.int .i64 (sumM c b).1,.bool (sumM c b).2]):=by
 have hr:=hc.rng
 have hP:=hc.1.hP
 have c1:=k84 c hc b hb true
 simp only [if_true] at c1
 have c2:=fun h=>k87 c hc b hb h
 have hin:∀ h∈hallsL c (isInM c b),isInM c b h = true:=fun h hh=>(List.mem_filter.1 hh).2
 have hlen:=hallsL_len hc (isInM c b)
 have hsr:=fun h n=>secM_rng hc (b:=b) (h:=h) (n:=n)
 unfold sumM
 change PureC Tryz.prog 84 [c.v,bdV b,.bool true] (fun r=>r = slI (hallsL c (isInM c b))) at c1
 generalize hallsL c (isInM c b) = L at c1 hin hlen ⊢
 obtain ⟨E,hE⟩:∃ E,E = (sumS c b L (0,false)).getD (0,false):=⟨_,rfl⟩
 rw [← hE]
 clear hc hb
 refine pureC_of_wp (.l [.x,.x]) mixed ok86 rfl ?_
 unfold c86
 dsimp only [argE,Cf.v,cfgV,bdV]
 refine W.run ?_
 refine W.lp (fun y:Nat × Int=>[(2,.ptr 0 0 0),(3,.ptr 8 0 0),(6,slI L),(7,.int .i64 y.2),(8,.int .i64 (y.1:Int))]) (fun _=>HB c b) (fun y=>y.1≤L.length∧E = (sumS c b (L.drop y.1) (y.2,decide (0 < y.1))).getD (0,false)∧0≤y.2∧y.2 < c.P) (fun y=>L.length - y.1) (0,0) rfl (HS.refl _) ⟨by dsimp only;omega,hE,by dsimp only;omega,by dsimp only;omega⟩ ?_
 rintro ⟨i,s⟩ nx ⟨h1,h2,h3,h4⟩ hnx
 dsimp only at h1 h2 h3 h4 ⊢
 clear hE c1
 by_cases hi:i < L.length
 ·have c3:=c2 L[i]
  rw [if_pos (hin _ (List.getElem_mem hi))] at c3
  rw [List.drop_eq_getElem_cons hi] at h2
  simp only [sumS] at h2
  have hs:=hsr L[i]
  clear c2 hin hsr
  cases hsec:secM c b L[i] with
  | none =>
   rw [hsec] at c3 h2
   dsimp only [Option.getD,Option.isSome] at c3 h2
   subst h2
   refine W.run ?_
   rfl
  | some n =>
   rw [hsec] at c3 h2
   have hn:=hs n hsec
   dsimp only [Option.getD,Option.isSome] at c3 h2
   clear hs
   refine W.run ?_
   refine W.kl (i+1,(s+n) % c.P) rfl (HS.refl _) (by omega) ⟨by dsimp only;omega,?_,by have:=emod_rng (a:=s+n) (P:=c.P) (by omega);dsimp only;omega⟩ (by dsimp only;omega)
   dsimp only
   rw [decide_eq_true (show 0 < i+1 by omega)]
   exact h2
 ·have hi2 : i = L.length := by omega
  subst hi2
  rw [List.drop_length] at h2
  simp only [sumS,Option.getD_some] at h2
  subst h2
  clear c2 hin hsr
  refine W.run ?_
  simp
theorem allH_eq (c:Cf):allH c = rngH c.H.toNat:=by
 unfold allH hallsL;rw [List.filter_eq_self];intros;rfl
def gO (G:List G3):Ob:={ cells:=gC G,sz:=3,ver:=G.length,nl:=if G.length = 0 then 1 else 0 }
def gR (G:List G3):V:=.ref 24 G.length 0 G.length
def upH (f:Int→List G3) (j:Nat):List G3:=(rngH j).flatMap f
theorem upH_succ (f:Int→List G3) (j:Nat):upH f (j+1) = upH f j++f ((j:Int)+1):=by
 unfold upH;rw [rngH_succ,List.flatMap_append];simp
theorem upH_len {f:Int→List G3} {m:Nat} (h:∀ k,(f k).length≤m) (j:Nat):(upH f j).length≤j * m:=by
 have:=flatMap_le h (rngH j)
 rwa [rngH_len] at this
set_option maxRecDepth 10000 in
set_option maxHeartbeats 4000000 in
theorem k85_1 (c:Cf) (hc:c.Ok) (b:Brd) (hb:b.Ok) (R:V→Prop) (n:Nat) (hn:24 < n)
  (hK:∀ m,n≤m→wp Tryz.prog Ys.none (rtC (rtC (rtC c85))) (retP [.tmp 4] .x R) ⟨[(2,.ptr 0 0 0),(3,.ptr 8 0 0),(5,gR (upH (g1 c b) c.H.toNat))],(HB c b).put 24 (gO (upH (g1 c b) c.H.toNat)),m⟩) :
  wp Tryz.prog Ys.none (rtC (rtC c85)) (retP [.tmp 4] .x R) ⟨[(2,.ptr 0 0 0),(3,.ptr 8 0 0),(5,gR [])],(HB c b).put 24 (gO []),n⟩:=by
 have hr:=hc.rng
 have c2:=fun h=>k131 c hc b hb h
 have hg1:∀ k,(g1 c b k).length≤1:=fun k=>by unfold g1;split <;> simp
 have hlen:=fun j=>upH_len hg1 j
 unfold c85 at hK ⊢
 dsimp only [rtC] at hK ⊢
 refine W.cut (fun _:Unit=>[(2,.ptr 0 0 0),(3,.ptr 8 0 0),(5,gR (upH (g1 c b) c.H.toNat))]) (fun _=>(HB c b).put 24 (gO (upH (g1 c b) c.H.toNat))) (fun _=>True) n (fun _ m _ hm=>hK m hm) ?_
 clear hK
 intro Gk hG
 refine W.run ?_
 refine W.lp (fun j:Nat=>[(2,.ptr 0 0 0),(3,.ptr 8 0 0),(5,gR (upH (g1 c b) j)),(6,.int .i64 ((j:Int)+1))]) (fun j=>(HB c b).put 24 (gO (upH (g1 c b) j))) (fun j=>j≤c.H.toNat) (fun j=>c.H.toNat - j) 0 rfl (HS.refl _) (by omega) ?_
 rintro j nx h1 hnx
 by_cases hj:j < c.H.toNat
 ·have c3:=c2 ((j:Int)+1)
  have hs:=upH_succ (g1 c b) j
  have hl:=hlen j
  clear c2 hlen
  generalize upH (g1 c b) j = G at hs hl ⊢
  have hgl:=gC_len G
  by_cases ht:0≤twiceM c b ((j:Int)+1)
  ·unfold g1 at hs
   rw [if_pos ht] at hs
   change upH (g1 c b) (j+1) = _ at hs
   unfold gR gO
   refine W.run ?_
   refine W.kl (j+1) ?_ ?_ (by omega) (by omega) (by omega)
   ·rw [hs,List.length_append];rfl
   ·rw [hs,gC_app,List.length_append,List.length_singleton,if_neg (by omega)];exact HS.skip (HS.refl _) (by simp only [Hp.put];repeat (rw [if_neg (by omega)])) _
  ·have hs2 : upH (g1 c b) (j + 1) = G := by rw [hs, g1, if_neg ht, List.append_nil]
   unfold gR gO
   refine W.run ?_
   refine W.kl (j+1) ?_ ?_ (by omega) (by omega) (by omega)
   ·rw [hs2];rfl
   ·rw [hs2];exact HS.refl _
 ·have hj2 : j = c.H.toNat := by omega
  subst hj2
  clear c2 hlen
  refine W.run ?_
  exact W.kc hG () trivial (by omega) (HS.refl _)
set_option maxRecDepth 10000 in
set_option maxHeartbeats 4000000 in
theorem k85_2 (c:Cf) (hc:c.Ok) (b:Brd) (hb:b.Ok) (R:V→Prop) (G0:List G3) (hG0:G0.length≤16) (n:Nat) (hn:24 < n)
  (hK:∀ m,n≤m→wp Tryz.prog Ys.none (rtC (rtC (rtC (rtC c85)))) (retP [.tmp 4] .x R) ⟨[(2,.ptr 0 0 0),(3,.ptr 8 0 0),(5,gR (G0++upH (g2 c b) c.H.toNat))],(HB c b).put 24 (gO (G0++upH (g2 c b) c.H.toNat)),m⟩) :
  wp Tryz.prog Ys.none (rtC (rtC (rtC c85))) (retP [.tmp 4] .x R) ⟨[(2,.ptr 0 0 0),(3,.ptr 8 0 0),(5,gR G0)],(HB c b).put 24 (gO G0),n⟩:=by
 have hr:=hc.rng
 have c2:=fun h=>k68 c hc b hb h
 have c3:=fun h=>k121 c hc b hb h
 have hg1:∀ k,(g2 c b k).length≤1:=fun k=>by unfold g2;split <;> simp
 have hlen:=fun j=>upH_len hg1 j
 unfold c85 at hK ⊢
 dsimp only [rtC] at hK ⊢
 refine W.cut (fun _:Unit=>[(2,.ptr 0 0 0),(3,.ptr 8 0 0),(5,gR (G0++upH (g2 c b) c.H.toNat))]) (fun _=>(HB c b).put 24 (gO (G0++upH (g2 c b) c.H.toNat))) (fun _=>True) n (fun _ m _ hm=>hK m hm) ?_
 clear hK
 intro Gk hG
 refine W.run ?_
 refine W.lp (fun j:Nat=>[(2,.ptr 0 0 0),(3,.ptr 8 0 0),(5,gR (G0++upH (g2 c b) j)),(8,.int .i64 ((j:Int)+1))]) (fun j=>(HB c b).put 24 (gO (G0++upH (g2 c b) j))) (fun j=>j≤c.H.toNat) (fun j=>c.H.toNat - j) 0 (by simp [upH,rngH,keepE,look]) (by rw [show G0++upH (g2 c b) 0 = G0 by simp [upH,rngH]];exact HS.refl _) (by omega) ?_
 rintro j nx h1 hnx
 by_cases hj:j < c.H.toNat
 ·have c4:=c2 ((j:Int)+1)
  have c5:=c3 ((j:Int)+1)
  have hs:G0++upH (g2 c b) (j+1) = G0++upH (g2 c b) j++g2 c b ((j:Int)+1):=by rw [upH_succ,List.append_assoc]
  have hl:(G0++upH (g2 c b) j).length≤40:=by have:=hlen j;rw [List.length_append];omega
  clear c2 c3 hlen
  generalize G0++upH (g2 c b) j = G at hs hl ⊢
  have hgl:=gC_len G
  have hno:¬ (0≤b.first c ((j:Int)+1)∧(b.deal c ((j:Int)+1)).isSome = false)→G0++upH (g2 c b) (j+1) = G:=fun h=>by rw [hs,g2,if_neg h,List.append_nil]
  cases hd:b.deal c ((j:Int)+1) with
  | some A =>
   rw [hd] at c4 hno
   dsimp only [dealV] at c4
   have hs2:=hno (by simp)
   clear hs hno
   unfold gR gO
   refine W.run ?_
   refine W.kl (j+1) ?_ ?_ (by omega) (by omega) (by omega)
   ·rw [hs2];rfl
   ·rw [hs2];exact HS.refl _
  | none =>
   rw [hd] at c4
   dsimp only [dealV] at c4
   by_cases ht:0≤b.first c ((j:Int)+1)
   ·have hs2 : G0 ++ upH (g2 c b) (j + 1) = G ++ [((j : Int) + 1, 2, b.first c ((j : Int) + 1))] := by rw [hs, g2, if_pos ⟨ht, by rw [hd]; rfl⟩]
    clear hs hno
    unfold gR gO
    refine W.run ?_
    refine W.kl (j+1) ?_ ?_ (by omega) (by omega) (by omega)
    ·rw [hs2,List.length_append];rfl
    ·rw [hs2,gC_app,List.length_append,List.length_singleton,if_neg (by omega)];exact HS.skip (HS.refl _) (by simp only [Hp.put];repeat (rw [if_neg (by omega)])) _
   ·have hs2:=hno (fun h=>ht h.1)
    clear hs hno
    unfold gR gO
    refine W.run ?_
    refine W.kl (j+1) ?_ ?_ (by omega) (by omega) (by omega)
    ·rw [hs2];rfl
    ·rw [hs2];exact HS.refl _
 ·have hj2 : j = c.H.toNat := by omega
  subst hj2
  clear c2 c3 hlen
  refine W.run ?_
  exact W.kc hG () trivial (by omega) (HS.refl _)
def g3k (c:Cf) (b:Brd) (h k:Int):List G3:=if b.compl c k h = true∧b.ans c h k < 0 then [(h,3,-1)] else []
set_option maxRecDepth 10000 in
set_option maxHeartbeats 4000000 in
theorem k85_3 (c:Cf) (hc:c.Ok) (b:Brd) (hb:b.Ok) (R:V→Prop) (G0:List G3) (hG0:G0.length≤32) (n:Nat) (hn:24 < n)
  (hK:∀ m,n≤m→wp Tryz.prog Ys.none (rtC (rtC (rtC (rtC (rtC c85))))) (retP [.tmp 4] .x R) ⟨[(2,.ptr 0 0 0),(3,.ptr 8 0 0),(5,gR (G0++upH (fun h=>upH (g3k c b h) c.H.toNat) c.H.toNat))],(HB c b).put 24 (gO (G0++upH (fun h=>upH (g3k c b h) c.H.toNat) c.H.toNat)),m⟩) :
  wp Tryz.prog Ys.none (rtC (rtC (rtC (rtC c85)))) (retP [.tmp 4] .x R) ⟨[(2,.ptr 0 0 0),(3,.ptr 8 0 0),(5,gR G0)],(HB c b).put 24 (gO G0),n⟩:=by
 have hr:=hc.rng
 have c2:=fun h k=>k70 c hc b hb k h
 have c3:=fun h k=>k71 c hc b hb h k
 have hg1:∀ h k,(g3k c b h k).length≤1:=fun h k=>by unfold g3k;split <;> simp
 have hlen1:=fun h j=>upH_len (hg1 h) j
 have hlen:=fun j=>upH_len (f:=fun h=>upH (g3k c b h) c.H.toNat) (m:=16) (fun h=>by have:=hlen1 h c.H.toNat;omega) j
 obtain ⟨F,hF⟩:∃ F,F = fun h=>upH (g3k c b h) c.H.toNat:=⟨_,rfl⟩
 rw [← hF] at hK hlen
 unfold c85 at hK ⊢
 dsimp only [rtC] at hK ⊢
 refine W.cut (fun _:Unit=>[(2,.ptr 0 0 0),(3,.ptr 8 0 0),(5,gR (G0++upH F c.H.toNat))]) (fun _=>(HB c b).put 24 (gO (G0++upH F c.H.toNat))) (fun _=>True) n (fun _ m _ hm=>hK m hm) ?_
 clear hK
 intro Gk hG
 refine W.run ?_
 refine W.lp (fun j:Nat=>[(2,.ptr 0 0 0),(3,.ptr 8 0 0),(5,gR (G0++upH F j)),(11,.int .i64 ((j:Int)+1))]) (fun j=>(HB c b).put 24 (gO (G0++upH F j))) (fun j=>j≤c.H.toNat) (fun j=>c.H.toNat - j) 0 (by simp [upH,rngH,keepE,look]) (by rw [show G0++upH F 0 = G0 by simp [upH,rngH]];exact HS.refl _) (by omega) ?_
 rintro j nx h1 hnx
 by_cases hj:j < c.H.toNat
 ·have c4:=c2 ((j:Int)+1)
  have c5:=c3 ((j:Int)+1)
  have hs:G0++upH F (j+1) = G0++upH F j++upH (g3k c b ((j:Int)+1)) c.H.toNat:=by rw [upH_succ,List.append_assoc,hF]
  have hl:(G0++upH F j).length≤300:=by have:=hlen j;rw [List.length_append];omega
  have hl1:=hlen1 ((j:Int)+1)
  clear c2 c3 hlen hlen1 hg1 hF
  generalize G0++upH F j = G at hs hl ⊢
  refine W.run ?_
  refine W.lp (fun k:Nat=>[(2,.ptr 0 0 0),(3,.ptr 8 0 0),(5,gR (G++upH (g3k c b ((j:Int)+1)) k)),(11,.int .i64 ((j:Int)+1)),(12,.int .i64 ((k:Int)+1))]) (fun k=>(HB c b).put 24 (gO (G++upH (g3k c b ((j:Int)+1)) k))) (fun k=>k≤c.H.toNat) (fun k=>c.H.toNat - k) 0 (by simp [upH,rngH,keepE,look]) (by rw [show G++upH (g3k c b ((j:Int)+1)) 0 = G by simp [upH,rngH]];exact HS.refl _) (by omega) ?_
  rintro k nx1 h2 hnx1
  by_cases hk:k < c.H.toNat
  ·have c6:=c4 ((k:Int)+1)
   have c7:=c5 ((k:Int)+1)
   have hs1:G++upH (g3k c b ((j:Int)+1)) (k+1) = G++upH (g3k c b ((j:Int)+1)) k++g3k c b ((j:Int)+1) ((k:Int)+1):=by rw [upH_succ,List.append_assoc]
   have hl2:(G++upH (g3k c b ((j:Int)+1)) k).length≤400:=by have:=hl1 k;rw [List.length_append];omega
   clear c4 c5 hs hl1
   generalize G++upH (g3k c b ((j:Int)+1)) k = G2 at hs1 hl2 ⊢
   have hgl:=gC_len G2
   have hno:¬ (b.compl c ((k:Int)+1) ((j:Int)+1) = true∧b.ans c ((j:Int)+1) ((k:Int)+1) < 0)→G++upH (g3k c b ((j:Int)+1)) (k+1) = G2:=fun h=>by rw [hs1,g3k,if_neg h,List.append_nil]
   cases hcm:b.compl c ((k:Int)+1) ((j:Int)+1)
   ·rw [hcm] at c6
    have hs2:=hno (by rw [hcm];simp)
    clear hs1 hno
    unfold gR gO
    refine W.run ?_
    refine W.kl (k+1) ?_ ?_ (by omega) (by omega) (by omega)
    ·rw [hs2];rfl
    ·rw [hs2];exact HS.refl _
   ·rw [hcm] at c6
    by_cases ht:b.ans c ((j:Int)+1) ((k:Int)+1) < 0
    ·have hs2 : G ++ upH (g3k c b ((j : Int) + 1)) (k + 1) = G2 ++ [((j : Int) + 1, 3, -1)] := by rw [hs1, g3k, if_pos ⟨hcm, ht⟩]
     clear hs1 hno
     unfold gR gO
     refine W.run ?_
     refine W.kl (k+1) ?_ ?_ (by omega) (by omega) (by omega)
     ·rw [hs2,List.length_append];rfl
     ·rw [hs2,gC_app,List.length_append,List.length_singleton,if_neg (by omega)];exact HS.skip (HS.refl _) (by simp only [Hp.put];repeat (rw [if_neg (by omega)])) _
    ·have hs2:=hno (fun h=>ht h.2)
     clear hs1 hno
     unfold gR gO
     refine W.run ?_
     refine W.kl (k+1) ?_ ?_ (by omega) (by omega) (by omega)
     ·rw [hs2];rfl
     ·rw [hs2];exact HS.refl _
  ·have hk2 : k = c.H.toNat := by omega
   subst hk2
   rw [← hs]
   clear c4 c5 hl1
   refine W.run ?_
   exact W.kl (j+1) rfl (HS.refl _) (by omega) (by omega) (by omega)
 ·have hj2 : j = c.H.toNat := by omega
  subst hj2
  clear c2 c3 hlen hlen1
  refine W.run ?_
  exact W.kc hG () trivial (by omega) (HS.refl _)
theorem idxG_len {f:Nat→Ln→List G3} (h:∀ i x,(f i x).length≤1):∀ (n:Nat) (l:List Ln),(idxG f n l).length≤l.length
 | n,[]=>by simp [idxG]
 | n,x::l=>by
  have:=idxG_len h (n+1) l
  have:=h n x
  simp only [idxG,List.length_append,List.length_cons];omega
def q4r (c:Cf) (b:Brd) (h:Int) (i:Nat) (x:Ln):Bool:=cntB c.H x 3 1 true && decide (x.hall = h) && b.compl c x.other h && decide (b.ans c h x.other = i) && !fitsM c b x.hall x.other (x.nums.headD 0)
def f4 (c:Cf) (b:Brd) (h:Int) (i:Nat) (x:Ln):List G3:=if q4r c b h i x then [(h,4,(i:Int))] else []
def f5 (c:Cf) (b:Brd) (h:Int) (i:Nat) (x:Ln):List G3:=if q5 c b h x then [(h,5,(i:Int))] else []
set_option maxRecDepth 10000 in
set_option maxHeartbeats 4000000 in
theorem k85_4 (c:Cf) (hc:c.Ok) (b:Brd) (hb:b.Ok) (hal:b.a.length≤400) (R:V→Prop) (G0:List G3) (hG0:G0.length≤300) (n:Nat) (hn:24 < n)
  (hK:∀ m,n≤m→wp Tryz.prog Ys.none (rtC (rtC (rtC (rtC (rtC (rtC c85)))))) (retP [.tmp 4] .x R) ⟨[(2,.ptr 0 0 0),(3,.ptr 8 0 0),(5,gR (G0++upH (fun h=>idxG (f4 c b h) 0 b.a) c.H.toNat))],(HB c b).put 24 (gO (G0++upH (fun h=>idxG (f4 c b h) 0 b.a) c.H.toNat)),m⟩) :
  wp Tryz.prog Ys.none (rtC (rtC (rtC (rtC (rtC c85))))) (retP [.tmp 4] .x R) ⟨[(2,.ptr 0 0 0),(3,.ptr 8 0 0),(5,gR G0)],(HB c b).put 24 (gO G0),n⟩:=by
 have hr:=hc.rng
 have c2:=fun h k=>k70 c hc b hb k h
 have c3:=fun h k=>k71 c hc b hb h k
 have c8:=fun i (hi:i < b.a.length)=>k123 c hc b.a[i] (by have:=(hb.2.2.1.2 b.a[i] (List.getElem_mem hi)).1;omega) 3
 have c9:=fun i (hi:i < b.a.length) (hl:b.a[i].nums.length = 1)=>k72 c hc b hb i hi hl
 have hlen1:=fun h l=>idxG_len (f:=f4 c b h) (fun i x=>by unfold f4;split <;> simp) 0 l
 have hlen:=fun j=>upH_len (f:=fun h=>idxG (f4 c b h) 0 b.a) (m:=400) (fun h=>by have:=hlen1 h b.a;omega) j
 obtain ⟨F,hF⟩:∃ F,F = fun h=>idxG (f4 c b h) 0 b.a:=⟨_,rfl⟩
 rw [← hF] at hK hlen
 unfold c85 at hK ⊢
 dsimp only [rtC] at hK ⊢
 refine W.cut (fun _:Unit=>[(2,.ptr 0 0 0),(3,.ptr 8 0 0),(5,gR (G0++upH F c.H.toNat))]) (fun _=>(HB c b).put 24 (gO (G0++upH F c.H.toNat))) (fun _=>True) n (fun _ m _ hm=>hK m hm) ?_
 clear hK
 intro Gk hG
 refine W.run ?_
 refine W.lp (fun j:Nat=>[(2,.ptr 0 0 0),(3,.ptr 8 0 0),(5,gR (G0++upH F j)),(13,.int .i64 ((j:Int)+1))]) (fun j=>(HB c b).put 24 (gO (G0++upH F j))) (fun j=>j≤c.H.toNat) (fun j=>c.H.toNat - j) 0 (by simp [upH,rngH,keepE,look]) (by rw [show G0++upH F 0 = G0 by simp [upH,rngH]];exact HS.refl _) (by omega) ?_
 rintro j nx h1 hnx
 by_cases hj:j < c.H.toNat
 ·have c4:=c2 ((j:Int)+1)
  have c5:=c3 ((j:Int)+1)
  have hs:G0++upH F (j+1) = G0++upH F j++idxG (f4 c b ((j:Int)+1)) 0 b.a:=by rw [upH_succ,List.append_assoc,hF]
  have hl:(G0++upH F j).length≤6700:=by have:=hlen j;rw [List.length_append];omega
  have hl1:=hlen1 ((j:Int)+1)
  clear c2 c3 hlen hlen1 hF hb hc
  generalize G0++upH F j = G at hs hl ⊢
  refine W.run ?_
  refine W.lp (fun i:Nat=>[(2,.ptr 0 0 0),(3,.ptr 8 0 0),(5,gR (G++idxG (f4 c b ((j:Int)+1)) 0 (b.a.take i))),(13,.int .i64 ((j:Int)+1)),(14,.int .i64 (i:Int))]) (fun i=>(HB c b).put 24 (gO (G++idxG (f4 c b ((j:Int)+1)) 0 (b.a.take i)))) (fun i=>i≤b.a.length) (fun i=>b.a.length - i) 0 (by simp [idxG,keepE,look]) (by rw [show G++idxG (f4 c b ((j:Int)+1)) 0 (b.a.take 0) = G by simp [idxG]];exact HS.refl _) (by omega) ?_
  rintro i nx1 h2 hnx1
  by_cases hi:i < b.a.length
  ·have cA:=c8 i hi
   have hcn:cntR c b.a[i] 3 = cntB c.H b.a[i] 3 1 true:=by rw [cntR,if_neg (by omega),if_neg (by omega)]
   rw [hcn] at cA
   have c6:=c4 b.a[i].other
   have c7:=c5 b.a[i].other
   have cB:=c9 i hi
   have hs1:G++idxG (f4 c b ((j:Int)+1)) 0 (b.a.take (i+1)) = G++idxG (f4 c b ((j:Int)+1)) 0 (b.a.take i)++f4 c b ((j:Int)+1) i b.a[i]:=by rw [idxG_succ _ _ _ _ hi,Nat.zero_add,List.append_assoc]
   have hl2:(G++idxG (f4 c b ((j:Int)+1)) 0 (b.a.take i)).length≤7200:=by have:=hl1 (b.a.take i);rw [List.length_take] at this;rw [List.length_append];omega
   clear c4 c5 c8 c9 hs hl1 hcn
   generalize G++idxG (f4 c b ((j:Int)+1)) 0 (b.a.take i) = G2 at hs1 hl2 ⊢
   have hgl:=gC_len G2
   have hqe:q4r c b ((j:Int)+1) i b.a[i] = (cntB c.H b.a[i] 3 1 true && decide (b.a[i].hall = (j:Int)+1) && b.compl c b.a[i].other ((j:Int)+1) && decide (b.ans c ((j:Int)+1) b.a[i].other = i) && !fitsM c b b.a[i].hall b.a[i].other (b.a[i].nums.headD 0)):=rfl
   have hno:q4r c b ((j:Int)+1) i b.a[i] = false→G++idxG (f4 c b ((j:Int)+1)) 0 (b.a.take (i+1)) = G2:=fun h=>by rw [hs1,f4,h];simp
   have hyes:q4r c b ((j:Int)+1) i b.a[i] = true→G++idxG (f4 c b ((j:Int)+1)) 0 (b.a.take (i+1)) = G2++[((j:Int)+1,4,(i:Int))]:=fun h=>by rw [hs1,f4,h];simp
   clear hs1
   cases hcnt:cntB c.H b.a[i] 3 1 true
   ·rw [hcnt] at cA
    have hs2:=hno (by rw [hqe,hcnt];rfl)
    clear hno hyes hqe cB
    unfold gR gO
    refine W.run ?_
    refine W.kl (i+1) ?_ ?_ (by omega) (by omega) (by omega)
    ·rw [hs2];rfl
    ·rw [hs2];exact HS.skip (HS.refl _) (by simp only [Hp.put];repeat (rw [if_neg (by omega)])) _
   rw [hcnt] at cA
   have hnl:b.a[i].nums.length = 1:=by have:=(cntB_hall hcnt).2.2.2;omega
   have cC:=cB hnl
   clear cB
   by_cases hh:b.a[i].hall = (j:Int)+1
   case neg =>
    have hs2:=hno (by rw [hqe,decide_eq_false hh,Bool.and_false];rfl)
    clear hno hyes hqe
    unfold gR gO
    refine W.run ?_
    refine W.kl (i+1) ?_ ?_ (by omega) (by omega) (by omega)
    ·rw [hs2];rfl
    ·rw [hs2];exact HS.skip (HS.refl _) (by simp only [Hp.put];repeat (rw [if_neg (by omega)])) _
   cases hcm:b.compl c b.a[i].other ((j:Int)+1)
   ·rw [hcm] at c6
    have hs2:=hno (by rw [hqe,hcm,Bool.and_false];rfl)
    clear hno hyes hqe
    unfold gR gO
    refine W.run ?_
    refine W.kl (i+1) ?_ ?_ (by omega) (by omega) (by omega)
    ·rw [hs2];rfl
    ·rw [hs2];exact HS.skip (HS.refl _) (by simp only [Hp.put];repeat (rw [if_neg (by omega)])) _
   rw [hcm] at c6
   by_cases ha:b.ans c ((j:Int)+1) b.a[i].other = i
   case neg =>
    have hs2:=hno (by rw [hqe,decide_eq_false ha,Bool.and_false];rfl)
    clear hno hyes hqe
    unfold gR gO
    refine W.run ?_
    refine W.kl (i+1) ?_ ?_ (by omega) (by omega) (by omega)
    ·rw [hs2];rfl
    ·rw [hs2];exact HS.skip (HS.refl _) (by simp only [Hp.put];repeat (rw [if_neg (by omega)])) _
   cases hft:fitsM c b b.a[i].hall b.a[i].other (b.a[i].nums.headD 0)
   ·rw [hft] at cC
    have hs2:=hyes (by rw [hqe,hft,hcnt,hcm,decide_eq_true hh,decide_eq_true ha];rfl)
    clear hno hyes hqe hft
    unfold gR gO
    refine W.run ?_
    refine W.kl (i+1) ?_ ?_ (by omega) (by omega) (by omega)
    ·rw [hs2,List.length_append];rfl
    ·rw [hs2,gC_app,List.length_append,List.length_singleton,if_neg (by omega)];exact HS.skip (HS.skip (HS.refl _) (by simp only [Hp.put];repeat (rw [if_neg (by omega)])) _) (by simp only [Hp.put];repeat (rw [if_neg (by omega)])) _
   ·rw [hft] at cC
    have hs2:=hno (by rw [hqe,hft];simp)
    clear hno hyes hqe hft
    unfold gR gO
    refine W.run ?_
    refine W.kl (i+1) ?_ ?_ (by omega) (by omega) (by omega)
    ·rw [hs2];rfl
    ·rw [hs2];exact HS.skip (HS.refl _) (by simp only [Hp.put];repeat (rw [if_neg (by omega)])) _
  ·have hi2 : i = b.a.length := by omega
   subst hi2
   rw [List.take_length,← hs]
   clear c4 c5 c8 c9 hl1
   refine W.run ?_
   exact W.kl (j+1) rfl (HS.refl _) (by omega) (by omega) (by omega)
 ·have hj2 : j = c.H.toNat := by omega
  subst hj2
  clear c2 c3 c8 c9 hlen hlen1
  refine W.run ?_
  exact W.kc hG () trivial (by omega) (HS.refl _)
end Go.Dp
