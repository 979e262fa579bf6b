/- The reference's Post, phase by phase. -/
import Derived.Test.YtlbjgnkjicifhaaGreatDwJ11
namespace Go.Dp
open Go.RowKit Go.Proofs
attribute [local irreducible] wp wpOps wpOp1 CallW CallT kSeq kBlk kLoop kReg retP retR kAsg kRound kRf kCut kItr kItr2
set_option linter.unusedVariables false
set_option linter.unusedSimpArgs false
def upO (hall:Int) (f:Int→List Ln) (j:Nat):List Ln:=((rngH j).filter fun k=>decide (k≠hall)).flatMap f
theorem upO_skip {hall:Int} {f:Int→List Ln} {j:Nat} (h:(j:Int)+1 = hall):upO hall f (j+1) = upO hall f j:=by
 unfold upO;rw [rngH_succ,List.filter_append];simp [h]
theorem upO_succ {hall:Int} {f:Int→List Ln} {j:Nat} (h:(j:Int)+1≠hall):upO hall f (j+1) = upO hall f j++f ((j:Int)+1):=by
 unfold upO;rw [rngH_succ,List.filter_append,List.flatMap_append];simp [h]
theorem upO_all (c:Cf) (hall:Int) (f:Int→List Ln):upO hall f c.H.toNat = (oth c hall).flatMap f:=rfl
theorem upO_len {hall:Int} {f:Int→List Ln} (h:∀ k,(f k).length≤1):∀ j,(upO hall f j).length≤j
 | 0=>by simp [upO,rngH]
 | j+1=>by
  have:=upO_len (hall:=hall) h j
  by_cases e:(j:Int)+1 = hall
  ·rw [upO_skip e];omega
  ·rw [upO_succ e,List.length_append];have:=h ((j:Int)+1);omega
theorem St_fr {fr fr':List (Nat × V)} {H:Hp} {n:Nat} (h:fr = fr'):(⟨fr,H,n⟩:St) = ⟨fr',H,n⟩:=by rw [h]
theorem HB_none {c:Cf} {b:Brd} {i:Nat} (h:8 < i):HB c b i = none:=by
 unfold HB
 simp only [Hp.put]
 repeat (rw [if_neg (by omega)])
theorem HpY_add {c:Cf} {b:Brd} {X:List (Ln × V)} {os:List (Nat × Ob)} {n n' m:Nat} {g:Ob} {h k o:Int} {nums:List Int} {v:V} (hm:24 < m) :
  HS (HpY c b (X++[(⟨h,k,o,nums⟩,v)]) os n') (HpV (((HB c b).put 24 { cells:=lnsC X++[.int .i64 h,.int .i64 k,.int .i64 o,v],sz:=4,ver:=X.length+1 }).put m g) os 24 n):=by
 unfold HpY
 rw [lnsC_app,List.length_append,List.length_singleton,if_neg (by omega)]
 refine HpV_HS (HS.skip ?_ (by rw [put_ne (by omega),HB_none (by omega)]) _)
 exact HS.refl _
theorem HpY_num {c:Cf} {b:Brd} {X:List (Ln × V)} {os:List (Nat × Ob)} {n n' m id:Nat} {g:Ob} {h k o v:Int} {ver:Nat} (hb:BV os 24 n) (h24:24 < n) (hid:n≤id) (hm:id < m) :
  HS (HpY c b (X++[(⟨h,k,o,[v]⟩,.ref id ver 0 1)]) (os++[(id,{ cells:=[.int .i64 v],sz:=1,ver:=ver })]) n') (HpV ((((HB c b).put 24 { cells:=lnsC X++[.int .i64 h,.int .i64 k,.int .i64 o,.ref id ver 0 1],sz:=4,ver:=X.length+1 }).put id { cells:=[.int .i64 v],sz:=1,ver:=ver }).put m g) os 24 n):=by
 unfold HpY
 rw [HpV_snoc (n:=n),HpV_put hb (by dsimp only;omega),lnsC_app,List.length_append,List.length_singleton,if_neg (by omega)]
 refine HpV_HS (HS.skip ?_ (by rw [put_ne (by omega),put_ne (by omega),HB_none (by omega)]) _)
 exact HS.refl _
set_option maxRecDepth 10000 in
theorem k28_0 (c:Cf) (hc:c.Ok) (b:Brd) (hb:b.Ok) (hall:Int) (poly got:List Int) (hp:polyE c.P poly = 0) (hgl:(got.length:Int) = c.H):PureC Tryz.prog 28 [c.v,.int .i64 hall,slI poly,slI got,bdV b,.int .i64 0] (fun r=>r = .own (linN (postM c b hall poly got 0)) (postM c b hall poly got 0).length 4):=by
 have hpl:=polyE_len hp
 have hpr:=polyE_rng hp
 have c1:=k66 hc.1 poly poly.length rfl (by omega) hpr
 have hcl:(comM c.R c.G poly).length = poly.length:=by simp [comM]
 have hN:linN (postM c b hall poly got 0) = [.int .i64 hall,.int .i64 1,.int .i64 0,slI (comM c.R c.G poly)]:=rfl
 refine pureC_of_wp (.s 4) mixed ok28 rfl ?_
 unfold c28
 dsimp only [argE,Cf.v,cfgV,bdV]
 refine W.run ?_
 rw [hN,← hcl];rfl
set_option maxRecDepth 10000 in
set_option maxHeartbeats 2000000 in
theorem k28_1 (c:Cf) (hc:c.Ok) (b:Brd) (hb:b.Ok) (hall:Int) (hh:1≤hall∧hall≤c.H) (poly got:List Int) (hgl:(got.length:Int) = c.H):PureC Tryz.prog 28 [c.v,.int .i64 hall,slI poly,slI got,bdV b,.int .i64 1] (fun r=>r = .own (linN (postM c b hall poly got 1)) (postM c b hall poly got 1).length 4):=by
 have hr:=hc.rng
 have c1:=fun j=>k68 c hc b hb j
 have hdo:=fun k A (e:b.deal c k = some A)=>deal_ok hb e
 have c2:=fun (A:List Int) (h1:A.length < 2 ^ 40) (h2:∀ x∈A,B64 x) (n:Int)=>k69 hc.1 A A.length rfl h1 h2 hall n
 clear hc hb
 show PureC _ _ _ (fun r=>r = .own (linN ((oth c hall).flatMap (post1 c b hall got))) ((oth c hall).flatMap (post1 c b hall got)).length 4)
 rw [← upO_all]
 have hl1:∀ k,(post1 c b hall got k).length≤1:=fun k=>by unfold post1;split <;> simp
 have hlen:=fun j=>upO_len (hall:=hall) hl1 j
 refine pureC_of_wp (.s 4) mixed ok28 rfl ?_
 unfold c28
 dsimp only [argE,Cf.v,cfgV,bdV]
 refine W.run ?_
 refine W.loop (fun y:Nat × List (Ln × V) × List (Nat × Ob) × Nat=>⟨[(1,.int .i64 hall),(2,slI poly),(3,slI got),(5,.int .i64 1),(6,.ptr 0 0 0),(10,.ptr 8 0 0),(13,.ref 24 y.2.1.length 0 y.2.1.length),(15,.int .i64 ((y.1:Int)+1))],HpY c b y.2.1 y.2.2.1 y.2.2.2,y.2.2.2⟩)
  (fun y=>y.1≤c.H.toNat∧y.2.1.map Prod.fst = upO hall (post1 c b hall got) y.1∧InvY y.2.1 y.2.2.1 y.2.2.2) (fun y=>c.H.toNat - y.1) (0,[],[],120) ⟨by dsimp only;omega,rfl,InvY.nil (by dsimp only;omega)⟩ ?_ rfl (HS.refl _) rfl
 rintro ⟨j,X,os,n⟩ ⟨h1,h2,h3⟩
 dsimp only at h1 h2 h3 ⊢
 have hXl:=hlen j
 rw [← h2,List.length_map] at hXl
 have hX4:=lnsC_len X
 unfold HpY
 have hb3:=h3.1
 have hn3:=h3.2.1
 by_cases hj:j < c.H.toNat
 ·by_cases he:(j:Int)+1 = hall
  ·have hs:=upO_skip (f:=post1 c b hall got) he
   clear hdo c2 c1
   refine W.run ?_
   refine W.kl0 _ ?_ ⟨(j+1,X,os,_),⟨by dsimp only;omega,by rw [hs];exact h2,h3.mono (by dsimp only;omega)⟩,rfl,by dsimp only;omega⟩ Nat.zero_lt_one <;> exact HS.refl _
  ·have hs:=upO_succ (f:=post1 c b hall got) he
   have c3:=c1 ((j:Int)+1)
   have hno:post1 c b hall got ((j:Int)+1) = []→X.map Prod.fst = upO hall (post1 c b hall got) (j+1):=fun e=>by rw [hs,e,List.append_nil];exact h2
   have hgi:((j:Int)+1 - 1).toNat < got.length:=by omega
   have hgj:=(gotM_get hgi).symm
   cases hd:b.deal c ((j:Int)+1) with
   | none =>
    rw [hd] at c3
    dsimp only [dealV] at c3
    have hs2:=hno (by rw [post1,hd];rfl)
    clear hdo c2 c1 hno hs
    refine W.run ?_
    refine W.kl0 _ ?_ ⟨(j+1,X,os,_),⟨by dsimp only;omega,hs2,h3.mono (by dsimp only;omega)⟩,rfl,by dsimp only;omega⟩ Nat.zero_lt_one <;> exact HS.refl _
   | some A =>
    rw [hd] at c3
    dsimp only [dealV] at c3
    have hA:=hdo _ A hd
    have c4:=c2 A (by omega) hA.2.1 got[((j:Int)+1 - 1).toNat]
    have hft:fitsM c b ((j:Int)+1) hall (gotM got ((j:Int)+1)) = fitB c.R c.P c.G A hall got[((j:Int)+1 - 1).toNat]:=by unfold fitsM;rw [hd,hgj]
    clear hdo c2 c1
    cases hf:fitB c.R c.P c.G A hall got[((j:Int)+1 - 1).toNat]
    ·rw [hf] at c4 hft
     have hs2:upO hall (post1 c b hall got) (j+1) = upO hall (post1 c b hall got) j++[⟨hall,2,(j:Int)+1,[]⟩]:=by rw [hs,post1,hd,hft];rfl
     clear hno hs
     refine W.run ?_
     refine W.kl0 (HpY c b (X++[(⟨hall,2,(j:Int)+1,[]⟩,.nils)]) os (n+384)) (HpY_add (by omega)) ⟨(j+1,X++[(⟨hall,2,(j:Int)+1,[]⟩,.nils)],os,n+384),⟨by dsimp only;omega,?_,h3.cpl (by dsimp only;omega) rfl rfl⟩,St_fr (by dsimp only;rw [List.length_append];rfl),by dsimp only;omega⟩ Nat.zero_lt_one
     dsimp only
     rw [List.map_append,h2,hs2];rfl
    ·rw [hf] at c4 hft
     have hs2:=hno (by rw [post1,hd,hft];rfl)
     clear hno hs
     refine W.run ?_
     refine W.kl0 _ ?_ ⟨(j+1,X,os,_),⟨by dsimp only;omega,hs2,h3.mono (by dsimp only;omega)⟩,rfl,by dsimp only;omega⟩ Nat.zero_lt_one <;> exact HS.refl _
 ·have hj2 : j = c.H.toNat := by omega
  subst hj2
  obtain ⟨H',hf⟩:=InvY.fin (c:=c) (b:=b) h3
  unfold HpY at hf
  clear c1 c2 hdo
  refine W.run ?_
  rw [h2] at hf
  exact W.retP rfl hf rfl
end Go.Dp
