import Derived.Test.YtlbjgnkjicifhaaGreatDwC24
namespace Go.Dp
open Go.RowKit Go.Proofs
attribute [local irreducible] wp wpOps wpOp1 CallW CallT kSeq kBlk kLoop kReg retP retR kAsg kRound kRf kCut kItr kItr2
set_option linter.unusedVariables false
set_option linter.unusedSimpArgs false
abbrev polV (polys:List (List Int)):V:=.sl (polys.map slI) polys.length
theorem k52p {c:Cf} (hc:c.Ok) (polys:List (List Int)) (hl:polys.length < 2 ^ 40) (hp:∀ p∈polys,p.length < 2 ^ 20):PureC Tryz.prog 52 [polV polys,.clo (.func 53) [] [.fp [.int .i64 c.R,.int .i64 c.P,.int .i64 c.G,.int .i64 c.H,.int .i64 c.B,.int .i64 c.K] 0]] (fun r=>r = .bool (polys.any (badP c.P c.B))):=by
 have hr:=hc.rng
 exact k52 slI polys _ rfl hl 53 _ (badP c.P c.B) (fun _=>rfl) (by simp [V.atom]) (fun A hA=>k53 (by omega) A (by have:=hp A hA;omega))
theorem polys_ok {c:Cf} (hc:c.Ok) {polys:List (List Int)} (hpl:∀ p∈polys,p.length < 2 ^ 20) (h:polys.any (badP c.P c.B) = false):∀ p∈polys,p.length < 2 ^ 20∧(p.length≠0→polyE c.P p = 0):=by
 have hr:=hc.rng
 intro p hp
 refine ⟨hpl p hp,fun hz=>?_⟩
 rw [List.any_eq_false] at h
 have h1:=h p hp
 simp only [badP,Bool.and_eq_true,Bool.or_eq_true,decide_eq_true_eq,not_and,not_or,Bool.not_eq_true'] at h1
 obtain ⟨h2,h3⟩:=h1 (by omega)
 refine polyE_of (by omega) fun a ha=>?_
 rw [Bool.not_eq_false,secsB,Bool.not_eq_true',List.any_eq_false] at h3
 have:=h3 a ha
 simp only [decide_eq_true_eq,not_or] at this
 omega
theorem k56b (b:Brd):PureC Tryz.prog 56 [bdV b] (fun r=>r = bdV b):=by
 have h:=k56 (b.d.map fun x=>(x,slI x.nums)) (b.c.map fun x=>(x,slI x.nums)) (b.a.map fun x=>(x,slI x.nums)) (b.r.map fun x=>(x,slI x.nums))
 unfold brdV at h
 rwa [lnsV_eq,lnsV_eq,lnsV_eq,lnsV_eq] at h
theorem offL_set {i p:Nat} {e':Ent} {l:List Ent} (h:offL i l) (h2:i≠e'.id):offL i (l.set p e'):=fun e he hX=>by
 rcases List.mem_or_eq_of_mem_set he with he | rfl
 ·exact h e he hX
 ·exact h2
theorem HpN_none {c:Cf} {b:Brd} {xs:List Ent} {i:Nat} (h:offL i xs) (hi:232 < i):HpN c b xs i = none:=by
 unfold HpN
 rw [HpL_other h]
 simp only [Hp.put]
 repeat (rw [if_neg (by omega)])
theorem HpN_cells {c:Cf} {b:Brd} {ys ys':List Ent} (o184:offL 184 ys) {X:Hp} (hX:HpL (((((Hp.put (fun _=>none) 0 { cells:=[.int .i64 c.R,.int .i64 c.P,.int .i64 c.G,.int .i64 c.H,.int .i64 c.B,.int .i64 c.K],sz:=6 }).put 8 { cells:=[linV b.d,linV b.c,linV b.a,linV b.r],sz:=4 }).put 16 { cells:=[.nils,.nils,.nils,.nils],sz:=4 }).put 184 { cells:=cellsE ys',sz:=4 }).put 232 { cells:=ptrsL,sz:=4 }) ys = X) :
  (HpL (((((Hp.put (fun _=>none) 0 { cells:=[.int .i64 c.R,.int .i64 c.P,.int .i64 c.G,.int .i64 c.H,.int .i64 c.B,.int .i64 c.K],sz:=6 }).put 8 { cells:=[linV b.d,linV b.c,linV b.a,linV b.r],sz:=4 }).put 16 { cells:=[.nils,.nils,.nils,.nils],sz:=4 }).put 184 { cells:=cellsE ys,sz:=4 }).put 232 { cells:=ptrsL,sz:=4 }) ys).put 184 { cells:=cellsE ys',sz:=4 } = X:=by
 rw [HpL_put o184,put_comm (show 232≠184 by omega),put_put];exact hX
@[go_sem] theorem frz_cells' {k:Nat} {xs:List Ent} {B:Hp} (ha:ApL xs) (hat:∀ e∈xs,∀ p∈e.X,p.2.atom = true):mapS (Go.Dp.frz (k+1)) (cellsE xs) (HpL B xs) = some (xs.map Ent.fv,HpL B (xs.map Ent.frz)):=frz_cells xs B ha hat
@[go_sem] theorem HpL_get' {B:Hp} {l:List Ent} {p:Nat} (hp:p < l.length) (ha:ApL l) (hX:l[p].id≠0):HpL B l l[p].id = some { cells:=lnsC l[p].X,sz:=4,ver:=l[p].ver,nl:=if l[p].X.length = 0 then 1 else 0,fz:=l[p].z }:=HpL_get hp ha hX
theorem Ent.ob_eq {Y:List V} {k id ver z a:Nat} {Z:List (Ln × V)} (h1:lnsC Z = Y) (hk:Z.length = k) (ha:a = if k = 0 then 1 else 0):({ cells:=Y,sz:=4,ver:=ver,nl:=a,fz:=z }:Ob) = Ent.ob ⟨Z,id,ver,z⟩:=by
 subst h1;subst hk;subst ha;rfl
attribute [go_sem] lnsC_len
set_option maxRecDepth 10000 in
set_option maxHeartbeats 2000000 in
theorem k15m (c:Cf) (hc:c.Ok) (b:Brd) (hb:b.Ok) (polys:List (List Int)) (hpl:∀ p∈polys,p.length < 2 ^ 20) (lost:List (Int × Int)) (hlost:lost.length < 2 ^ 40) (hf:b.fits 100 = true) (hn:(polys.length:Int) = c.H) (hbad:polys.any (badP c.P c.B) = false):PureC Tryz.prog 15 [c.v,polV polys,bdV b,losV lost]
  (fun r=>∃ xs n,InvE c polys lost b 4 [] xs n∧r = .tup [.agg (xs.map Ent.fv),.int .i64 0]):=by
 have hr:=hc.rng
 have c1:=k51b hc 100 (by omega) b hb
 have c2:=k52p hc polys (by omega) hpl
 refine pureC_of_wp (.l [.x,.x]) mixed ok15 rfl ?_
 unfold c15
 dsimp only [argE,Cf.v,cfgV]
 rw [hf] at c1
 rw [hbad] at c2
 have hpok:=polys_ok hc hpl hbad
 have c3:=k55 c hc polys hn hpok lost hlost
 have c4:=k56b b
 refine W.run ?_
 clear c1 c2 c3 c4
 refine W.loop (fun z:Nat × List Ent × Nat=>⟨[(1,polV polys),(4,.ptr 0 0 0),(8,.ptr 16 0 0),(11,.sl ((tab2 c.H.toNat (shF c polys lost)).map slI) c.H.toNat),(12,.ptr 184 0 0),(13,.ptr 232 0 0),(48,bdV b),(49,.int .i64 (z.1:Int))],HpN c b z.2.1,z.2.2⟩)
  (fun z=>z.1≤4∧InvE c polys lost b z.1 [] z.2.1 z.2.2) (fun z=>4 - z.1) (0,List.replicate 4 ⟨[],0,0,0⟩,272) ⟨by dsimp only;omega,rfl,⟨fun h=>absurd rfl h,fun h=>absurd rfl h,fun h=>absurd rfl h,fun h=>absurd rfl h,trivial⟩,fun e he h=>absurd (by rw [List.eq_of_mem_replicate he]) h,fun e he _=>by rw [List.eq_of_mem_replicate he],by dsimp only;omega,fun k hk=>by dsimp only;rw [List.getElem_replicate,if_neg (by omega)];split <;> rfl⟩ ?_ rfl (HS.refl _) rfl
 rintro ⟨p,xs,n⟩ ⟨hp,hI⟩
 dsimp only at hp hI ⊢
 by_cases hp4:p < 4
 ·refine W.run ?_
  rw [lists_at]
  refine W.run ?_
  refine W.loop (fun z:Nat × List Ent × Nat=>⟨[(1,polV polys),(4,.ptr 0 0 0),(8,.ptr 16 0 0),(11,.sl ((tab2 c.H.toNat (shF c polys lost)).map slI) c.H.toNat),(12,.ptr 184 0 0),(13,.ptr 232 0 0),(14,.int .i64 (p:Int)),(48,bdV b),(49,.int .i64 (p:Int)),(53,linV (b.at p)),(54,.int .i64 ((b.at p).length:Int)),(55,.int .i64 (z.1:Int))],HpN c b z.2.1,z.2.2⟩)
   (fun z=>z.1≤(b.at p).length∧InvE c polys lost b p (((b.at p).take z.1).map fun x=>(x,slI x.nums)) z.2.1 z.2.2) (fun z=>(b.at p).length - z.1) (0,xs,n+64) ⟨by dsimp only;omega,hI.mono (by dsimp only;omega)⟩ ?_ rfl (HS.refl _) rfl
  clear hI
  rintro ⟨j,ys,m⟩ ⟨hj,hJ⟩
  dsimp only at hj hJ ⊢
  have o0:offL 0 ys:=hJ.off (by omega)
  have o16:offL 16 ys:=hJ.off (by omega)
  have o184:offL 184 ys:=hJ.off (by omega)
  have o232:offL 232 ys:=hJ.off (by omega)
  have hyl:=hJ.len
  have hm0:=hJ.n0
  by_cases hjl:j < (b.at p).length
  ·have hat2:(b.at p).length < 2 ^ 20∧LnO (b.at p)[j]:=by
    obtain rfl | rfl | rfl | rfl:p = 0∨p = 1∨p = 2∨p = 3:=by omega
    ·exact ⟨hb.1.1,hb.1.2 _ (List.getElem_mem hjl)⟩
    ·exact ⟨hb.2.1.1,hb.2.1.2 _ (List.getElem_mem hjl)⟩
    ·exact ⟨hb.2.2.1.1,hb.2.2.1.2 _ (List.getElem_mem hjl)⟩
    ·exact ⟨hb.2.2.2.1,hb.2.2.2.2 _ (List.getElem_mem hjl)⟩
   have c1:=k57 (b.at p)[j].nums (by have:=hat2.2.1;omega)
   have hbl:=hat2.1
   have hpy:p < ys.length:=by omega
   have hXp:ys[p].X = ((b.at p).take j).map (fun x=>(x,slI x.nums)):=by rw [hJ.X p hpy,if_neg (by omega),if_pos rfl]
   have hcl:(cellsE ys).length = 4:=by rw [cellsE_len,hyl]
   have hcur:((b.at p).take (j+1)).map (fun x=>(x,slI x.nums)) = ((b.at p).take j).map (fun x=>(x,slI x.nums))++[((b.at p)[j],slI (b.at p)[j].nums)]:=by
    rw [← List.take_append_getElem hjl,List.map_append];rfl
   unfold HpN
   by_cases hid:ys[p].id = 0
   ·have hX0:=hJ.nil ys[p] (List.getElem_mem hpy) hid
    have hcell:(cellsE ys)[p]'(by omega) = .nils:=by simp only [cellsE,List.getElem_map,Ent.cell];rw [if_pos hid]
    clear hX0
    refine W.run ?_
    rw [hcell]
    refine W.run ?_
    have hX0:=hJ.nil ys[p] (List.getElem_mem hpy) hid
    have hce:=cellsE_set (xs:=ys) (p:=p) (v:=.ref (m+80+80) 0 0 1) (e:=⟨[((b.at p)[j],slI (b.at p)[j].nums)],m+80+80,0,0⟩) hpy rfl
    refine W.kl0 (HpN c b (ys.set p ⟨[((b.at p)[j],slI (b.at p)[j].nums)],m+80+80,0,0⟩)) ?_ ⟨(j+1,ys.set p ⟨[((b.at p)[j],slI (b.at p)[j].nums)],m+80+80,0,0⟩,m+200),⟨by dsimp only;omega,?_⟩,rfl,by dsimp only;omega⟩ Nat.zero_lt_one
    ·rw [put_comm (show m + 80 + 72 ≠ m + 80 + 80 by omega), put_comm (show m + 8 + 16 ≠ m + 80 + 80 by omega)]
     refine HS.skip (HS.skip ?_ (HpN_none (offL_set (hJ.off (by omega)) (by dsimp only;omega)) (by omega)) _) (HpN_none (offL_set (hJ.off (by omega)) (by dsimp only;omega)) (by omega)) _
     have hnew:=fun B=>HpL_new (B:=B) (ob:={ cells:=lnK (b.at p)[j],sz:=4 }) (X:=[((b.at p)[j],slI (b.at p)[j].nums)]) (id:=m+80+80) (ver:=0) (z:=0) (by omega) rfl hpy (hJ.off (by omega)) hid
     rw [hce,HpN_cells o184 rfl,hnew]
     exact HS.refl _
    ·dsimp only
     rw [hcur]
     rw [hX0] at hXp
     refine hJ.more hpy _ ?_ (.inr ⟨by dsimp only;omega,by dsimp only;omega⟩) (by dsimp only;omega) (by omega)
     rw [← hXp];rfl
   ·have hcell : (cellsE ys)[p]'(by omega) = .ref ys[p].id ys[p].ver 0 ys[p].X.length := by simp only [cellsE, List.getElem_map, Ent.cell]; rw [if_neg hid]
    have hids:=hJ.ids ys[p] (List.getElem_mem hpy) hid
    have hap:=hJ.ap
    have hlc:(lnsC ys[p].X).length = ys[p].X.length * 4:=by rw [lnsC_len];omega
    have hXl:ys[p].X.length = j:=by rw [hXp,List.length_map,List.length_take];omega
    refine W.run ?_
    rw [hcell]
    refine W.run ?_
    have hce:=cellsE_set (xs:=ys) (p:=p) (v:=.ref ys[p].id (ys[p].ver+1) 0 (ys[p].X.length+1)) (e:=⟨ys[p].X++[((b.at p)[j],slI (b.at p)[j].nums)],ys[p].id,ys[p].ver+1,ys[p].z⟩) hpy (by
     simp only [Ent.cell]
     rw [if_neg hid,List.length_append,List.length_singleton])
    refine W.kl0 (HpN c b (ys.set p ⟨ys[p].X++[((b.at p)[j],slI (b.at p)[j].nums)],ys[p].id,ys[p].ver+1,ys[p].z⟩)) ?_ ⟨(j+1,ys.set p ⟨ys[p].X++[((b.at p)[j],slI (b.at p)[j].nums)],ys[p].id,ys[p].ver+1,ys[p].z⟩,m+200),⟨by dsimp only;omega,?_⟩,rfl,by dsimp only;omega⟩ Nat.zero_lt_one
    ·refine HS.skip (HS.skip ?_ (HpN_none (offL_set (hJ.off (by omega)) (by dsimp only; omega)) (by omega)) _) (HpN_none (offL_set (hJ.off (by omega)) (by dsimp only; omega)) (by omega)) _
     have hset:=fun B=>HpL_set (B:=B) (ob:={ cells:=lnsC ys[p].X++lnK (b.at p)[j],sz:=4,ver:=ys[p].ver+1,fz:=ys[p].z }) (X:=ys[p].X++[((b.at p)[j],slI (b.at p)[j].nums)]) (ver:=ys[p].ver+1) (z:=ys[p].z) (Ent.ob_eq (by rw [lnsC_app];rfl) (List.length_append) (by rw [List.length_singleton,if_neg (by omega)])) hpy hap hid
     rw [hce,HpN_cells o184 rfl,hset]
     exact HS.refl _
    ·dsimp only
     rw [hcur,← hXp]
     refine (hXp ▸ hJ:InvE c polys lost b p ys[p].X ys m).more hpy _ rfl (.inl ⟨hid,rfl⟩) ?_ (by omega)
     simp only [List.length_append,List.length_singleton];omega
  ·have hjl2 : j = (b.at p).length := by omega
   rw [hjl2,List.take_length,← curX_0 c polys lost b p] at hJ
   have hpn2:polys.length≤16:=by omega
   have hpok2:=fun q hq=>(hpok q hq).2
   have hphok:=phB_ok hc hpok2 hpn2 lost hb hf hp4
   have c5:=(k58 c hc _ hphok).weak (VWL.cons (.refl c.v) (VWL.cons (phB_vw hc hpok2 hp4 hJ) .nil))
   have hap:=hJ.ap
   have hat:∀ e∈ys,∀ q∈e.X,q.2.atom = true:=fun e he q hq=>by
    obtain ⟨k,hk,rfl⟩:=List.getElem_of_mem he
    rw [hJ.X k hk] at hq
    split at hq
    ·exact (runX_wk hc hpok2 lost b k q hq).2
    ·split at hq
     ·exact (curX_wk hc hpok2 lost b p 0 q hq).2
     ·cases hq
   have hcl:(cellsE ys).length = 4:=by rw [cellsE_len,hyl]
   unfold HpN
   refine W.run ?_
   refine W.loop (fun z:Nat × List Ent × Nat=>⟨[(1,polV polys),(4,.ptr 0 0 0),(8,.ptr 16 0 0),(11,.sl ((tab2 c.H.toNat (shF c polys lost)).map slI) c.H.toNat),(12,.ptr 184 0 0),(13,.ptr 232 0 0),(14,.int .i64 (p:Int)),(18,stV c (phB c polys lost b p)),(48,bdV b),(49,.int .i64 (p:Int)),(79,polV polys),(80,.int .i64 (polys.length:Int)),(81,.int .i64 (z.1:Int))],HpN c b z.2.1,z.2.2⟩)
    (fun z=>z.1≤polys.length∧InvE c polys lost b p (curX c polys lost b p z.1) z.2.1 z.2.2) (fun z=>polys.length - z.1) (0,ys.map Ent.frz,m+64) ⟨by dsimp only;omega,hJ.frz.mono (by dsimp only;omega)⟩ ?_ rfl (by unfold HpN;rw [cellsE_frz];exact HS.refl _) rfl
   clear hJ hap hat hcl c5 hyl o0 o16 o184 o232 hjl hjl2 hj hm0
   rintro ⟨h,zs,l⟩ ⟨hh,hJ⟩
   dsimp only at hh hJ ⊢
   have o0:offL 0 zs:=hJ.off (by omega)
   have o16:offL 16 zs:=hJ.off (by omega)
   have o184:offL 184 zs:=hJ.off (by omega)
   have o232:offL 232 zs:=hJ.off (by omega)
   have hyl:=hJ.len
   have hm0:=hJ.n0
   have hcl:(cellsE zs).length = 4:=by rw [cellsE_len,hyl]
   by_cases hhl:h < polys.length
   ·have hpy : p < zs.length := by omega
    have hpl2:=(hpok _ (List.getElem_mem hhl)).1
    have hpo2:=(hpok _ (List.getElem_mem hhl)).2
    have hpat:polyAt polys h = polys[h]:=by unfold polyAt;rw [List.getD_eq_getElem?_getD,List.getElem?_eq_getElem hhl];rfl
    have hTl:(tab2 c.H.toNat (shF c polys lost)).length = c.H.toNat:=tab2_len _ _
    have hsu:=curX_succ c polys lost b p h
    have hclen:=curX_len hc hpok2 lost hf p h
    have hXp:zs[p].X = curX c polys lost b p h:=by rw [hJ.X p hpy,if_neg (by omega),if_pos rfl]
    by_cases hz:polys[h].length = 0
    ·have hpo : pollH c polys lost (phB c polys lost b p) p h = [] := by unfold pollH; rw [if_pos (by rw [hpat]; exact hz)]
     rw [hpo,List.map_nil,List.append_nil] at hsu
     refine W.run ?_
     refine W.kl0 (HpN c b zs) (HS.refl _) ⟨(h+1,zs,_),⟨by dsimp only;omega,?_⟩,rfl,by dsimp only;omega⟩ Nat.zero_lt_one
     dsimp only
     rw [hsu]
     exact hJ.mono (by omega)
    ·have c1 := k57 polys[h] (by omega)
     have htl:((tab2 c.H.toNat (shF c polys lost))[h]'(by rw [tab2_len];omega)).length = c.H.toNat:=by simp [tab2]
     have c2:=k59 c hc _ hphok ((h:Int)+1) (by omega) polys[h] ((tab2 c.H.toNat (shF c polys lost))[h]'(by rw [tab2_len];omega)) (hpo2 hz) (by rw [htl];omega) p hp4
     have hpo : pollH c polys lost (phB c polys lost b p) p h = postM c (phB c polys lost b p) ((h : Int) + 1) polys[h] ((tab2 c.H.toNat (shF c polys lost))[h]'(by rw [tab2_len]; omega)) p := by
      unfold pollH
      rw [if_neg (by rw [hpat];exact hz),hpat,tab2_get];rfl
     rw [← hpo] at c2
     have hpll:=(pollH_ok hc hpok2 lost (phB c polys lost b p) p h).1
     generalize pollH c polys lost (phB c polys lost b p) p h = L at c2 hsu hpll
     have hNl:(linN L).length = L.length * 4:=linN_len L
     clear hpo hphok
     unfold HpN
     by_cases hid:zs[p].id = 0
     ·have hcell : (cellsE zs)[p]'(by omega) = .nils := by simp only [cellsE, List.getElem_map, Ent.cell]; rw [if_pos hid]
      refine W.run ?_
      rw [hcell]
      refine W.run ?_
      have hce:=cellsE_set (xs:=zs) (p:=p) (v:=.ref (l+72+152) 0 0 L.length) (e:=⟨L.map (fun x=>(x,nvL x)),l+72+152,0,0⟩) hpy (by
       simp only [Ent.cell]
       rw [if_neg (by omega),List.length_map])
      refine W.kl0 (HpN c b (zs.set p ⟨L.map (fun x=>(x,nvL x)),l+72+152,0,0⟩)) ?_ ⟨(h+1,zs.set p ⟨L.map (fun x=>(x,nvL x)),l+72+152,0,0⟩,_),⟨by dsimp only;omega,?_⟩,rfl,by dsimp only;omega⟩ Nat.zero_lt_one
      ·rw [put_comm (show l + 72 + 144 ≠ l + 72 + 152 by omega), put_comm (show l + 72 + 96 ≠ l + 72 + 152 by omega)]
       refine HS.skip (HS.skip ?_ (HpN_none (offL_set (hJ.off (by omega)) (by dsimp only;omega)) (by omega)) _) (HpN_none (offL_set (hJ.off (by omega)) (by dsimp only;omega)) (by omega)) _
       have hnew:=fun B=>HpL_new (B:=B) (ob:={ cells:=linN L,sz:=4,nl:=if L.length = 0 then 1 else 0 }) (X:=L.map (fun x=>(x,nvL x))) (id:=l+72+152) (ver:=0) (z:=0) (by omega) (Ent.ob_eq rfl (List.length_map _) rfl) hpy (hJ.off (by omega)) hid
       rw [hce,HpN_cells o184 rfl,hnew]
       exact HS.refl _
      ·dsimp only
       rw [hsu]
       have hX0:=hJ.nil zs[p] (List.getElem_mem hpy) hid
       refine hJ.more hpy _ ?_ (.inr ⟨by dsimp only;omega,by dsimp only;omega⟩) (by dsimp only;omega) (by omega)
       rw [← hXp,hX0];rfl
     ·have hcell : (cellsE zs)[p]'(by omega) = .ref zs[p].id zs[p].ver 0 zs[p].X.length := by simp only [cellsE, List.getElem_map, Ent.cell]; rw [if_neg hid]
      have hids:=hJ.ids zs[p] (List.getElem_mem hpy) hid
      have hap:=hJ.ap
      have hlc:(lnsC zs[p].X).length = zs[p].X.length * 4:=by rw [lnsC_len];omega
      have hXl:zs[p].X.length≤100+h * 17:=by rw [hXp];exact hclen
      refine W.run ?_
      rw [hcell]
      refine W.run ?_
      have hce:=cellsE_set (xs:=zs) (p:=p) (v:=.ref zs[p].id (zs[p].ver+1) 0 (zs[p].X.length+L.length)) (e:=⟨zs[p].X++L.map (fun x=>(x,nvL x)),zs[p].id,zs[p].ver+1,zs[p].z⟩) hpy (by
       simp only [Ent.cell]
       rw [if_neg hid,List.length_append,List.length_map])
      refine W.kl0 (HpN c b (zs.set p ⟨zs[p].X++L.map (fun x=>(x,nvL x)),zs[p].id,zs[p].ver+1,zs[p].z⟩)) ?_ ⟨(h+1,zs.set p ⟨zs[p].X++L.map (fun x=>(x,nvL x)),zs[p].id,zs[p].ver+1,zs[p].z⟩,_),⟨by dsimp only;omega,?_⟩,rfl,by dsimp only;omega⟩ Nat.zero_lt_one
      ·refine HS.skip (HS.skip ?_ (HpN_none (offL_set (hJ.off (by omega)) (by dsimp only; omega)) (by omega)) _) (HpN_none (offL_set (hJ.off (by omega)) (by dsimp only; omega)) (by omega)) _
       have hset := fun B => HpL_set (B := B) (ob := { cells := lnsC zs[p].X ++ linN L, sz := 4, ver := zs[p].ver + 1, nl := if L.length = 0 then if zs[p].X.length = 0 then 1 else 0 else 0, fz := zs[p].z }) (X := zs[p].X ++ L.map (fun x => (x, nvL x))) (ver := zs[p].ver + 1) (z := zs[p].z) (Ent.ob_eq (k := zs[p].X.length + L.length) (by rw [lnsC_app]; rfl) (by rw [List.length_append, List.length_map]) (by
        by_cases g1:L.length = 0
        ·rw [if_pos g1,g1,Nat.add_zero]
        ·rw [if_neg g1,if_neg (by omega)])) hpy hap hid
       rw [hce,HpN_cells o184 rfl,hset]
       exact HS.refl _
      ·dsimp only
       rw [hsu,← hXp]
       refine (hXp ▸ hJ:InvE c polys lost b p zs[p].X zs l).more hpy _ rfl (.inl ⟨hid,rfl⟩) ?_ (by omega)
       simp only [List.length_append,List.length_map];omega
   ·have hhl2 : h = polys.length := by omega
    rw [hhl2,curX_end] at hJ
    refine W.run ?_
    refine W.kl0 (HpN c b zs) (HS.refl _) ⟨(p+1,zs,_),⟨by dsimp only;omega,hJ.next.mono (by dsimp only;omega)⟩,rfl,by dsimp only;omega⟩ Nat.zero_lt_one
 ·unfold HpN
  have o0:offL 0 xs:=hI.off (by omega)
  have o16:offL 16 xs:=hI.off (by omega)
  have o184:offL 184 xs:=hI.off (by omega)
  have hxl:=hI.len
  have hcl:(cellsE xs).length = 4:=by rw [cellsE_len,hxl]
  have hpe:p = 4:=by omega
  subst hpe
  refine W.run ?_
  rw [HpL_put o16]
  have hat:∀ e∈xs,∀ q∈e.X,q.2.atom = true:=fun e he q hq=>by
   obtain ⟨k,hk,rfl⟩:=List.getElem_of_mem he
   rw [hI.X k hk,if_pos (by omega)] at hq
   exact (runX_wk hc (fun q hq=>(hpok q hq).2) lost b k q hq).2
  have hfz:=frz_cells (k:=9) xs ((((((Hp.put (fun _=>none) 0 { cells:=[.int .i64 c.R,.int .i64 c.P,.int .i64 c.G,.int .i64 c.H,.int .i64 c.B,.int .i64 c.K],sz:=6 }).put 8 { cells:=[linV b.d,linV b.c,linV b.a,linV b.r],sz:=4 }).put 16 { cells:=[.nils,.nils,.nils,.nils],sz:=4 }).put 184 { cells:=cellsE xs,sz:=4 }).put 232 { cells:=ptrsL,sz:=4 }).put 16 { cells:=cellsE xs,sz:=4 }) hI.ap hat
  refine W.retP (u:=.tup [.agg (cellsE xs),.int .i64 0]) (by exact Ev.out Ev.by) (r:=.tup [.agg (xs.map Ent.fv),.int .i64 0]) (H':=HpL ((((((Hp.put (fun _=>none) 0 { cells:=[.int .i64 c.R,.int .i64 c.P,.int .i64 c.G,.int .i64 c.H,.int .i64 c.B,.int .i64 c.K],sz:=6 }).put 8 { cells:=[linV b.d,linV b.c,linV b.a,linV b.r],sz:=4 }).put 16 { cells:=[.nils,.nils,.nils,.nils],sz:=4 }).put 184 { cells:=cellsE xs,sz:=4 }).put 232 { cells:=ptrsL,sz:=4 }).put 16 { cells:=cellsE xs,sz:=4 }) (xs.map Ent.frz)) ?_ ⟨xs,n,hI,rfl⟩
  dsimp only
  rw [fin_ltup]
  simp only [finL,List.headD_cons,List.tail_cons,fin_x,frz_agg,hfz,Option.map_some,Option.bind_some,frz_int]
theorem k15x (c:Cf) (hc:c.Ok) (b:Brd) (hb:b.Ok) (polys:List (List Int)) (hpl:∀ p∈polys,p.length < 2 ^ 20) (lost:List (Int × Int)) (hlost:lost.length < 2 ^ 40) (hf:b.fits 100 = true) (hn:(polys.length:Int) = c.H) (hbad:polys.any (badP c.P c.B) = false):PureC Tryz.prog 15 [c.v,polV polys,bdV b,losV lost]
  (fun r=>r = .tup [bdV (runB c polys lost b),.int .i64 0]):=by
 have hpok:=polys_ok hc hpl hbad
 refine (k15m c hc b hb polys hpl lost hlost hf hn hbad).weakE ?_
 rintro r ⟨xs,n,hI,rfl⟩
 exact runB_vo hc (fun q hq=>(hpok q hq).2) hI
end Go.Dp
