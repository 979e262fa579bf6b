import Derived.Test.YtlbjgnkjicifhaaGreatDwM8
import Derived.Test.YtlbjgnkjicifhaaGreatDwL13
namespace Go.Dp
open Go.RowKit Go.Proofs
attribute [local irreducible] wp wpOps wpOp1 CallW CallT kSeq kBlk kLoop kReg retP retR kAsg kRound kRf kCut kItr kItr2
set_option linter.unusedVariables false
set_option linter.unusedSimpArgs false
theorem losC_take:∀ (l:List (Int × Int)) (n:Nat),(losC l).take (n * 2) = losC (l.take n)
 | [],n=>by simp [losC]
 | p::l,0=>by simp [losC]
 | p::l,n+1=>by
  rw [show (n+1) * 2 = n * 2+2 by omega]
  simp [losC,losC_take l n]
@[go_sem] theorem HpV_in {B:Hp} {os:List (Nat × Ob)} {lo n id:Nat} {ob:Ob} (hb:BV os lo n) (hm:(id,ob)∈os):HpV B os lo n id = some ob:=HpV_obj hb hm
theorem brdE_vw:VW (.agg [.nils,.nils,.nils,.nils]) (bdV brdE):=.agg (.cons .nils (.cons .nils (.cons .nils (.cons .nils .nil))))
theorem seenC_0 (S:Int):seenC S 0 = List.replicate 11 (.bool false):=by unfold seenC seenB;rfl
set_option maxRecDepth 10000 in
set_option maxHeartbeats 8000000 in
theorem k5_c (x:Cf) (hX:x.Ok) (hP:x.P = 11) (a:Int) (A:List Int) (Q:List (List Int)) (hn:((((a::A)::Q).length:Nat):Int) = x.H) (hQ:RowOk x ((a::A)::Q)) (hne:∀ p∈(a::A)::Q,p.length≠0) (v:V) (cs:List V) (os:List (Nat × Ob)) (n1 nq nL:Nat) (h160:160 < n1) (hb:BV os 160 n1) (hc:RowsO os ((a::A)::Q) (v::cs)) (L:List (Int × Int)) (hL:L.length < 2 ^ 30) (m:Nat) (hm:n1+72 < m) :
  wp Tryz.prog Ys.none (rtC (rtC (rtC (rtC (rtC (rtC (rtC (rtC (rtC c5))))))))) (retP [.tmp 6] .x (fun r=>r = .bool true)) ⟨[(8,.ptr 112 0 0),(9,.ref 160 0 0 (Q.length+1)),(11,.ref n1 1 0 L.length),(12,.ptr (n1+72) 0 0)],HpV ((((Hp.put (fun _=>none) 112 { cells:=[.int .i64 x.R,.int .i64 x.P,.int .i64 x.G,.int .i64 x.H,.int .i64 x.B,.int .i64 x.K],sz:=6 }).put 160 { cells:=v::cs,sz:=1,nl:=nq }).put n1 { cells:=losC L,sz:=2,ver:=1,nl:=nL }).put (n1+72) { cells:=List.replicate 11 (.bool false),sz:=11 }) os 160 n1,m⟩:=by
 have hr:=hX.rng
 have cA:=k22
 have hlc:=losC_len L
 have hla:=losC_atoms L
 have hAl:A.length < 16:=by have:=(hQ (a::A) (by simp) (by simp)).1;rw [List.length_cons] at this;omega
 have hQn:1≤Q.length∧Q.length < 16:=by rw [List.length_cons] at hn;omega
 obtain ⟨S,hS⟩:∃ S,S = restS ((a::A)::Q):=⟨_,rfl⟩
 unfold c5
 dsimp only [rtC]
 rw [← seenC_0 S]
 refine W.run ?_
 refine W.loop (fun z:Nat × List (Nat × Ob) × Nat × Nat=>⟨[(8,.ptr 112 0 0),(9,.ref 160 0 0 (Q.length+1)),(11,.ref n1 1 0 L.length),(12,.ptr (n1+72) 0 0),(13,.int .i64 (z.1:Int))],HpV ((((Hp.put (fun _=>none) 112 { cells:=[.int .i64 x.R,.int .i64 x.P,.int .i64 x.G,.int .i64 x.H,.int .i64 x.B,.int .i64 x.K],sz:=6 }).put 160 { cells:=v::cs,sz:=1,nl:=nq }).put n1 { cells:=losC L,sz:=2,ver:=1,nl:=nL,fz:=z.2.2.1 }).put (n1+72) { cells:=seenC S z.1,sz:=11 }) z.2.1 160 n1,z.2.2.2⟩)
  (fun z=>z.1≤11∧BV z.2.1 160 n1∧RowsO z.2.1 ((a::A)::Q) (v::cs)∧n1+72 < z.2.2.2) (fun z=>11 - z.1) (0,os,0,_) ⟨by dsimp only;omega,hb,hc,by dsimp only;omega⟩ ?_ rfl (HS.refl _) rfl
 clear hb hc hm
 rintro ⟨k,os,fz,m⟩ ⟨hk,hb,hc,hm⟩
 dsimp only at hk hb hc hm ⊢
 have hsl:(seenC S k).length = 11:=seenC_len
 by_cases hk11:k < 11
 ·have hfs := fair_sum hX hP hn (by simp) hQ hne (k := (k : Int)) (by omega) L
  have hTl:=turnQ_len (Q:=(a::A)::Q) (k:=(k:Int)) (by simp)
  have hTk:=turnQ_ok hQ hne (by simp) (k:=(k:Int)) (by omega)
  have H:=hon_of hX (by rw [hTl];exact hn) hTk L brdE_ok (brdE_fits (m:=100) (by omega))
  change Hon x (turnQ ((a::A)::Q) k) L brdE at H
  have hRf:=runB_fits hX H.pE H.n16 L (brdE_fits (m:=100) (by omega))
  have c15:=(k15x x hX brdE brdE_ok (turnQ ((a::A)::Q) k) (hTk.lt hX) L (by omega) (brdE_fits (by omega)) (by rw [hTl];exact hn) (hTk.bad hX)).weak (VWL.cons (.refl x.v) (VWL.cons (.refl (polV (turnQ ((a::A)::Q) k))) (VWL.cons brdE_vw (VWL.cons (.refl (losV L)) .nil))))
  have c24:=k24 x hX _ H.bOk
  rw [hRf,if_pos rfl] at c24
  unfold sumQ at c24
  rw [hfs,← hS] at c24
  generalize runB x (turnQ ((a::A)::Q) k) L brdE = RB at c15 c24
  change PureC Tryz.prog 15 [x.v,.sl (.sl (.int .i64 (k:Int)::A.map (V.int .i64)) (A.length+1)::Q.map slI) (Q.length+1),.agg [.nils,.nils,.nils,.nils],losV L] _ at c15
  change PureC Tryz.prog 24 [x.v,bdV RB] (fun r=>r = .tup [.int .i64 (((k:Int)+S) % 11),.int .i64 0]) at c24
  obtain ⟨s,hs⟩:∃ s,s = ((k:Int)+S) % 11:=⟨_,rfl⟩
  rw [← hs] at c24
  have hs11:0≤s∧s < 11:=by omega
  clear hRf hfs H
  have hv:RowO (a::A) v os:=by cases hc with | cons h t=>exact h
  have hcs:RowsO os Q cs:=by cases hc with | cons h t=>exact t
  obtain ⟨os',hfz0,hb',hc'⟩:=frz_rowsO2 hcs hc hb
  have hfz:FzR os cs (Q.map slI) os' 160 n1:=⟨hfz0⟩
  have hcl:=hcs.len
  have hcs':RowsO os' Q cs:=by cases hc' with | cons h t=>exact t
  clear hfz0 hcs hc
  obtain ⟨f,hf⟩:∃ f:Nat→Int,f = fun i=>(polyAt (turnQ ((a::A)::Q) k) i).headD 0:=⟨_,rfl⟩
  have hf0:f 0 = k:=by rw [hf];rfl
  have hfs:∀ h (hh:h < Q.length) (b:Int) (Bs:List Int),Q[h] = b::Bs→f (h+1) = b∧0≤b∧b < 11:=fun h hh b Bs e=>by
   have h1:polyAt ((a::A)::Q) (h+1) = b::Bs:=by rw [polyAt_get (by simpa using hh)];exact e
   refine ⟨by rw [hf];simp only [polyAt_turn];rw [h1];rfl,?_⟩
   have:=polyE_rng (hQ (b::Bs) (by rw [← e];exact List.mem_cons_of_mem _ (List.getElem_mem hh)) (by simp)).2 b (by simp)
   omega
  have hfe:sumZ f (Q.length+1) % 11 = s:=by
   have:=turnQ_sum (Q:=(a::A)::Q) (k:Int) (by simp)
   rw [List.length_cons,← hf,← hS] at this
   rw [this,hs]
  have hnz:∀ h (hh:h < Q.length),∃ b Bs,Q[h] = b::Bs:=fun h hh=>by
   have:=hne Q[h] (List.mem_cons_of_mem _ (List.getElem_mem hh))
   cases e:Q[h] with
   | nil=>rw [e] at this;exact absurd rfl this
   | cons b Bs=>exact ⟨b,Bs,rfl⟩
  have hs2:((s.toNat:Nat):Int) = ((k:Int)+S) % 11:=by omega
  have hse:=seenC_set hs2
  have hsn:(seenC S k)[s.toNat]'(by omega) = .bool false:=by rw [seenC_at,seenB_no hk11 hs2]
  clear hf hQ hTl hTk
  rcases hv with rfl | ⟨id,zf,rfl,hmem⟩
  all_goals
   refine W.run ?_
   rw [show 1+(Q.length+1 - 1) = Q.length+1 by omega]
   refine W.run ?_
   rw [hsn]
   refine W.run ?_
   simp only [set_td (show s.toNat < (seenC S k).length by omega),hse]
   refine W.lp (fun h:Nat=>[(8,.ptr 112 0 0),(9,.ref 160 0 0 (Q.length+1)),(11,.ref n1 1 0 L.length),(12,.ptr (n1+72) 0 0),(13,.int .i64 (k:Int)),(15,.ref (m+104+8) 1 0 (Q.length+1)),(18,.int .i64 s),(20,.int .i64 (sumZ f h % 11)),(21,.int .i64 (h:Int))]) (fun _=>_) (fun h=>h≤Q.length+1) (fun h=>Q.length+1 - h) 0 rfl (HS.refl _) (by omega) ?_
   rintro h nx hh hnx
   clear hse hsn hs2 hfz cA c15
   have hz:=emod_rng (a:=sumZ f h) (P:=11) (by omega)
   by_cases hlt:h < Q.length+1
   ·have hst:=sum_step (f:=f) (i:=h)
    rcases h with _ | h
    ·rw [hf0] at hst
     clear hnz hfs hc' hcs' hne
     refine W.run ?_
     exact W.kl 1 (by rw [← hst];rfl) (HS.refl _) (by omega) (by omega) (by omega)
    ·have hhQ : h < Q.length := by omega
     obtain ⟨b,Bs,hB⟩:=hnz h hhQ
     obtain ⟨hfb,hb0,hb11⟩:=hfs h hhQ b Bs hB
     rw [hfb] at hst
     have hcell:=hcs'.at h (by omega) hhQ
     rw [hB] at hcell
     clear hnz hfs hc' hcs' hne
     rcases hcell with hcell | ⟨id2,z2,hcell,hmem2⟩
     all_goals
      refine W.run ?_
      rw [hcell]
      refine W.run ?_
      exact W.kl (h+2) (by rw [← hst];rfl) (HS.refl _) (by omega) (by omega) (by omega)
   ·have hhe : h = Q.length + 1 := by omega
    rw [hhe,hfe]
    clear hnz hfs hcs' hne
    refine W.run ?_
    refine W.kl0 (HpV ((((Hp.put (fun _=>none) 112 { cells:=[.int .i64 x.R,.int .i64 x.P,.int .i64 x.G,.int .i64 x.H,.int .i64 x.B,.int .i64 x.K],sz:=6 }).put 160 { cells:=_::cs,sz:=1,nl:=nq }).put n1 { cells:=losC L,sz:=2,ver:=1,nl:=nL,fz:=max fz (L.length * 2) }).put (n1+72) { cells:=seenC S (k+1),sz:=11 }) os' 160 n1) ?_ ⟨(k+1,os',max fz (L.length * 2),_),⟨by dsimp only;omega,hb',hc',by dsimp only;omega⟩,rfl,by dsimp only;omega⟩ Nat.zero_lt_one
    refine HpV_HS ?_
    exact HS.p (HS.p (HS.p (HS.p (HS.emp _))))
 ·have hke : k = 11 := by omega
  subst hke
  refine W.run ?_
  rfl
set_option maxRecDepth 10000 in
set_option maxHeartbeats 8000000 in
theorem k5_b (x:Cf) (hX:x.Ok) (hP:x.P = 11) (Q:List (List Int)) (hn:(Q.length:Int) = x.H) (hQ:RowOk x Q) (hne:∀ p∈Q,p.length≠0) (cs:List V) (os:List (Nat × Ob)) (n1 nq:Nat) (h160:160 < n1) (hb:BV os 160 n1) (hc:RowsO os Q cs) (lost:List (Int × Int)) (hlost:lost.length < 2 ^ 63) :
  wp Tryz.prog Ys.none (rtC (rtC (rtC (rtC (rtC (rtC c5)))))) (retP [.tmp 6] .x (fun r=>r = .bool true)) ⟨[(2,losV lost),(8,.ptr 112 0 0),(9,.ref 160 0 0 Q.length)],HpV ((Hp.put (fun _=>none) 112 { cells:=[.int .i64 x.R,.int .i64 x.P,.int .i64 x.G,.int .i64 x.H,.int .i64 x.B,.int .i64 x.K],sz:=6 }).put 160 { cells:=cs,sz:=1,nl:=nq }) os 160 n1,n1⟩:=by
 have hr:=hX.rng
 have hlc:=losC_len lost
 have hlt:(losC lost).take 12 = losC (lost.take 6):=losC_take lost 6
 obtain ⟨a,A,Q',rfl⟩:∃ a A Q',Q = (a::A)::Q':=by
  cases Q with
  | nil=>simp at hn;omega
  | cons p Q' =>
   cases p with
   | nil=>exact absurd rfl (hne [] (by simp))
   | cons a A=>exact ⟨a,A,Q',rfl⟩
 obtain ⟨v,cs',rfl⟩:∃ v cs',cs = v::cs':=by
  cases hc with | cons h t=>exact ⟨_,_,rfl⟩
 have hB5:∀ (z:List (Int × Int) × Nat) n,z.1.length < 2 ^ 30∧n1+72 < n→wp Tryz.prog Ys.none (rtC (rtC (rtC (rtC (rtC (rtC (rtC (rtC (rtC c5))))))))) (retP [.tmp 6] .x (fun r=>r = .bool true)) ⟨[(8,.ptr 112 0 0),(9,.ref 160 0 0 (Q'.length+1)),(11,.ref n1 1 0 z.1.length),(12,.ptr (n1+72) 0 0)],HpV ((((Hp.put (fun _=>none) 112 { cells:=[.int .i64 x.R,.int .i64 x.P,.int .i64 x.G,.int .i64 x.H,.int .i64 x.B,.int .i64 x.K],sz:=6 }).put 160 { cells:=v::cs',sz:=1,nl:=nq }).put n1 { cells:=losC z.1,sz:=2,ver:=1,nl:=z.2 }).put (n1+72) { cells:=List.replicate 11 (.bool false),sz:=11 }) os 160 n1,n⟩:=fun z n hz=>k5_c x hX hP a A Q' hn hQ hne v cs' os n1 nq z.2 h160 hb hc z.1 hz.1 n hz.2
 unfold c5 at hB5 ⊢
 dsimp only [rtC] at hB5 ⊢
 refine W.assoc (W.assoc (W.cutN (fun z:List (Int × Int) × Nat=>[(8,.ptr 112 0 0),(9,.ref 160 0 0 (Q'.length+1)),(11,.ref n1 1 0 z.1.length),(12,.ptr (n1+72) 0 0)]) (fun z=>HpV ((((Hp.put (fun _=>none) 112 { cells:=[.int .i64 x.R,.int .i64 x.P,.int .i64 x.G,.int .i64 x.H,.int .i64 x.B,.int .i64 x.K],sz:=6 }).put 160 { cells:=v::cs',sz:=1,nl:=nq }).put n1 { cells:=losC z.1,sz:=2,ver:=1,nl:=z.2 }).put (n1+72) { cells:=List.replicate 11 (.bool false),sz:=11 }) os 160 n1) (fun z n=>z.1.length < 2 ^ 30∧n1+72 < n) hB5 ?_))
 clear hB5 hQ hne hc
 intro Gk hG
 by_cases h6:(lost.length:Int)≤6
 ·refine W.run ?_
  exact W.kcN hG (lost,_) ⟨by dsimp only;omega,by omega⟩ (HS.refl _)
 ·have hl6 : (lost.take 6).length = 6 := by rw [List.length_take]; omega
  refine W.run ?_
  refine W.kcN hG (lost.take 6,0) ⟨by dsimp only;omega,by omega⟩ ?_ ?_
  ·dsimp only
   rw [← hlt]
   exact HS.refl _
  ·dsimp only
   rw [hl6]
   repeat (first | exact ES.nil _ | (with_reducible exact ES.keep (ES.nil _)) | (with_reducible apply ES.keep) | (apply ES.skip;rfl))
set_option maxRecDepth 10000 in
set_option maxHeartbeats 8000000 in
theorem k5 (c:Cf) (hw:B64 c.R∧B64 c.P∧B64 c.G∧B64 c.H∧B64 c.B∧B64 c.K) (l:List (List Int)) (hl:l.length < 2 ^ 63) (hx:∀ p∈l,p.length < 2 ^ 63∧∀ n∈p,B64 n) (lost:List (Int × Int)) (hlost:lost.length < 2 ^ 63):PureC Tryz.prog 5 [c.v,.sl (l.map slI) l.length,losV lost] (fun r=>r = .bool true):=by
 have hk:=k12 c hw 4 (by omega)
 have c25:=k25 find11
 refine pureC_of_wp .x mixed ok5 rfl ?_
 have hB5:=k5_b
 unfold c5 at hB5 ⊢
 dsimp only [rtC] at hB5
 rw [rep6]
 dsimp only [argE,Cf.v,cfgV]
 refine W.assoc (W.assoc (W.assoc (W.assoc (W.assoc (W.cutN (fun z:Cf × List (List Int) × List V × List (Nat × Ob) × Nat × Nat=>[(2,losV lost),(8,.ptr 112 0 0),(9,.ref 160 0 0 z.2.1.length)]) (fun z=>HpV ((Hp.put (fun _=>none) 112 { cells:=[.int .i64 z.1.R,.int .i64 z.1.P,.int .i64 z.1.G,.int .i64 z.1.H,.int .i64 z.1.B,.int .i64 z.1.K],sz:=6 }).put 160 { cells:=z.2.2.1,sz:=1,nl:=z.2.2.2.2.2 }) z.2.2.2.1 160 z.2.2.2.2.1) (fun z n=>(z.1.Ok∧z.1.P = 11)∧((z.2.1.length:Int) = z.1.H∧RowOk z.1 z.2.1∧∀ p∈z.2.1,p.length≠0)∧(160 < n∧z.2.2.2.2.1 = n)∧BV z.2.2.2.1 160 n∧RowsO z.2.2.2.1 z.2.1 z.2.2.1) ?_ ?_)))))
 ·rintro ⟨x,Q,cs,os,n1,nq⟩ n ⟨⟨hX,hP⟩,⟨hn,hQ,hne⟩,⟨h160,hn1⟩,hbv,hc⟩
  dsimp only at hX hP hn hQ hne h160 hn1 hbv hc ⊢
  subst hn1
  exact hB5 x hX hP Q hn hQ hne cs os n1 nq h160 hbv hc lost hlost
 clear hB5
 intro Gk hG
 refine W.run ?_
 refine W.pc0R hk rfl ⟨_,awC,aw_ok,by decide,by decide,rfl⟩ ?_
 rintro r ⟨x0,hX0,hH6,hP11,rfl⟩
 refine ⟨_,rfl,?_⟩
 clear hk
 obtain ⟨x,hxe⟩:∃ x:Cf,x = ⟨23,11,4,x0.H,x0.B,x0.K⟩:=⟨_,rfl⟩
 have hX:x.Ok:=by rw [hxe];exact ⟨aw_ok.1,by have:=hX0.2;unfold CfgI at this ⊢;dsimp only;omega⟩
 have hxP:x.P = 11:=by rw [hxe]
 have hr:=hX.rng
 have c16:PureC Tryz.prog 16 [.agg [.int .i64 23,.int .i64 11,.int .i64 4,.int .i64 x0.H,.int .i64 x0.B,.int .i64 x0.K]] (fun r=>r = .agg [.int .i64 23,.int .i64 11,.int .i64 4,.int .i64 x0.H,.int .i64 x0.B,.int .i64 x0.K]):=k16 23 11 4 x0.H x0.B x0.K
 have c21:=k21 x hX l hl hx
 have hQl:=polysM_len x l
 have hQo:=polysM_ok hX hx
 generalize polysM x l = Q at c21 hQl hQo
 rw [← hQl] at c21
 have c22:Opn (PureC Tryz.prog 21 [.agg [.int .i64 23,.int .i64 11,.int .i64 4,.int .i64 x0.H,.int .i64 x0.B,.int .i64 x0.K],.sl (l.map slI) l.length] (fun r=>r = .own (Q.map slI) Q.length 1)):=by rw [hxe] at c21;exact c21
 clear c21
 refine W.run ?_
 clear c16 c22 c25
 have hBe:x0.B = x.B:=by rw [hxe]
 have hHe:x0.H = x.H:=by rw [hxe]
 generalize (if (List.map slI Q).isEmpty = true then 2 else 0) = nq
 refine W.loop (fun z:Nat × List (List Int) × List V × List (Nat × Ob) × Nat=>⟨[(2,losV lost),(7,.ptr 32 0 0),(8,.ptr 112 0 0),(9,.ref 160 0 0 z.2.1.length),(10,.int .i64 (z.1:Int))],HpV (((Hp.put (fun _=>none) 32 { cells:=[.int .i64 23,.int .i64 11,.int .i64 4,.int .i64 x0.H,.int .i64 x0.B,.int .i64 x0.K],sz:=6 }).put 112 { cells:=[.int .i64 23,.int .i64 11,.int .i64 4,.int .i64 x0.H,.int .i64 x0.B,.int .i64 x0.K],sz:=6 }).put 160 { cells:=z.2.2.1,sz:=1,nl:=nq }) z.2.2.2.1 160 z.2.2.2.2,z.2.2.2.2⟩)
  (fun z=>z.1≤z.2.1.length∧((z.2.1.length:Int) = x.H∧RowOk x z.2.1)∧(160 < z.2.2.2.2∧BV z.2.2.2.1 160 z.2.2.2.2)∧RowsO z.2.2.2.1 z.2.1 z.2.2.1∧∀ j (hj:j < z.2.1.length),j < z.1→z.2.1[j].length≠0) (fun z=>z.2.1.length - z.1) (0,Q,Q.map slI,[],_) ⟨by dsimp only;omega,⟨by dsimp only;omega,hQo⟩,⟨by dsimp only;omega,BV.nil⟩,RowsO.slices Q,fun j _ h=>absurd h (Nat.not_lt_zero _)⟩ ?_ rfl ?hs rfl
 case hs=>exact HS.p (HS.p (HS.p (HS.emp _)))
 clear hQo hQl
 rintro ⟨i,Q',cs,os,n1⟩ ⟨hi,⟨hn,hQ⟩,⟨h160,hbv⟩,hc,hdone⟩
 dsimp only at hi hn hQ h160 hbv hc hdone ⊢
 have hcl:=hc.len
 by_cases hil:i < Q'.length
 ·have hcell := hc.c.2 i (by omega) hil
  clear hG
  by_cases h0:Q'[i].length = 0
  ·obtain ⟨B, hB⟩ : ∃ B : Nat, x0.B = B := ⟨x0.B.toNat, by omega⟩
   have hnr:=newR_ok hX (by omega) (h:=0) (n:=B) (by omega) (by omega)
   rcases hcell with hcell | ⟨id,hcell⟩
   all_goals
    refine W.run ?_
    rw [hcell]
    refine W.run ?_
    rw [set_td (show i < cs.length by omega),zeros_new (x:=x0) hB]
    have hset:=hc.set i (n1+80+40) (zR B)
    rw [← zR_new] at hnr
    refine W.kl0 (HpV (((Hp.put (fun _=>none) 32 { cells:=[.int .i64 23,.int .i64 11,.int .i64 4,.int .i64 x0.H,.int .i64 x0.B,.int .i64 x0.K],sz:=6 }).put 112 { cells:=[.int .i64 23,.int .i64 11,.int .i64 4,.int .i64 x0.H,.int .i64 x0.B,.int .i64 x0.K],sz:=6 }).put 160 { cells:=cs.set i (.ref (n1+80+40) 0 0 (zR B).length),sz:=1,nl:=nq }) (os++[(n1+80+40,{ cells:=(zR B).map (V.int .i64),sz:=1 })]) 160 (n1+168)) ?_ ⟨(i+1,Q'.set i (zR B),cs.set i (.ref (n1+80+40) 0 0 (zR B).length),os++[(n1+80+40,{ cells:=(zR B).map (V.int .i64),sz:=1 })],n1+168),⟨by rw [List.length_set];exact hil,⟨by rw [List.length_set];exact hn,hQ.set hnr⟩,⟨by dsimp only;omega,hbv.snoc (by dsimp only;omega) h160⟩,hset,fun j hj hji=>?_⟩,?_,?_⟩ Nat.zero_lt_one
    ·rw [HpV_snoc (n := n1), HpV_put hbv (by dsimp only; omega)]
     dsimp only
     rw [zR_len,show B+1 = (x0.B+1).toNat by omega]
     exact HS.refl _
    ·dsimp only at hji hj ⊢
     rw [List.getElem_set]
     split
     ·rw [zR_len];omega
     ·rw [List.length_set] at hj
      exact hdone j hj (by omega)
    ·dsimp only
     rw [List.length_set];rfl
    ·dsimp only
     rw [List.length_set];omega
  ·rcases hcell with hcell | ⟨id,hcell⟩
   all_goals
    refine W.run ?_
    rw [hcell]
    refine W.run ?_
    refine W.kl0 _ ?_ ⟨(i+1,Q',cs,os,_),⟨by dsimp only;omega,⟨hn,hQ⟩,⟨by dsimp only;omega,hbv.mono (by dsimp only;omega)⟩,hc,fun j hj hji=>?_⟩,rfl,by dsimp only;omega⟩ Nat.zero_lt_one
    ·exact HS.refl _
    ·dsimp only at hji
     by_cases e:j < i
     ·exact hdone j hj e
     ·have e2 : j = i := by omega
      subst e2;exact h0
 ·refine W.run ?_
  refine W.kcN hG (x,Q',cs,os,_,nq) ⟨⟨hX,hxP⟩,⟨hn,hQ,fun p hp=>?_⟩,⟨by omega,rfl⟩,hbv.mono (by omega),hc⟩ ?_
  ·obtain ⟨j,hj,rfl⟩:=List.getElem_of_mem hp
   dsimp only at hj
   exact hdone j hj (by omega)
  ·rw [hxe]
   refine HpV_HS ?_
   exact HS.p (HS.p (HS.emp _))
theorem okArg_pairs {x:V} (h:(Ty.sl (.arr 2 (.int .i64))).okArg x):∃ l:List (Int × Int),x = losV l∧l.length < 2 ^ 63:=by
 obtain ⟨ls,rfl,hl,hx⟩:=okArg_sl h
 have key:∀ ls:List (List V),(∀ y∈ls,(Ty.arr 2 (.int .i64)).ok y)→∃ l:List (Int × Int),ls.flatten = losC l∧ls.length = l.length:=by
  intro ls
  induction ls with
  | nil=>intro _;exact ⟨[],rfl,rfl⟩
  | cons y ls ih =>
   intro h
   obtain ⟨ms,h1,h2,h3⟩:=h y (by simp)
   obtain ⟨u,w,rfl⟩:=len2 h1
   obtain ⟨a,rfl,_⟩:=ok_i64 (h3 u (by simp))
   obtain ⟨b,rfl,_⟩:=ok_i64 (h3 w (by simp))
   obtain ⟨l,e1,e2⟩:=ih fun z hz=>h z (by simp [hz])
   refine ⟨(a,b)::l,?_,by simp [e2]⟩
   rw [List.flatten_cons,h2,e1];rfl
 obtain ⟨l,e1,e2⟩:=key ls hx
 exact ⟨l,by rw [e1,e2],by rw [← e2];unfold maxLen at hl;omega⟩
def tys5:List Ty:=[.cons (.cons (.int .i64) (.cons (.int .i64) (.cons (.int .i64) (.nil)))) (.cons (.int .i64) (.cons (.int .i64) (.cons (.int .i64) (.nil)))),.sl (.sl (.int .i64)),.sl (.arr 2 (.int .i64))]
theorem law5:∀ xs,Ty.okArgs tys5 xs→PureC Tryz.prog 5 xs (fun r=>r = .bool true):=by
 intro xs h
 obtain ⟨x,l,rfl,hx,h⟩:=okArgs_cons h
 obtain ⟨y,l,rfl,hy,h⟩:=okArgs_cons h
 obtain ⟨z,l,rfl,hz,h⟩:=okArgs_cons h
 obtain rfl:=okArgs_nil h
 obtain ⟨c,rfl,hc⟩:=okArg_cf hx
 obtain ⟨l,rfl,hl,hw⟩:=okArg_rows hy
 obtain ⟨L,rfl,hL⟩:=okArg_pairs hz
 exact k5 c hc l hl hw L hL
end Go.Dp
