/- The reference's Run. -/
import Derived.Test.YtlbjgnkjicifhaaGreatDwJ14
import Derived.Test.YtlbjgnkjicifhaaGreatDwJ15
import Derived.Test.YtlbjgnkjicifhaaGreatDwL4
import Derived.Test.YtlbjgnkjicifhaaGreatDwC23
namespace Go.Dp
open Go.RowKit Go.Proofs
attribute [local irreducible] wp wpOps wpOp1 CallW CallT kSeq kBlk kLoop kReg retP retR kAsg kRound kRf kCut kItr kItr2
set_option linter.unusedVariables false
set_option linter.unusedSimpArgs false
theorem k28 (c:Cf) (hc:c.Ok) (b:Brd) (hb:b.Ok) (hall:Int) (hh:1≤hall∧hall≤c.H) (poly got:List Int) (hp:polyE c.P poly = 0) (hgl:(got.length:Int) = c.H) (p:Nat) (hp4:p < 4) :
  PureC Tryz.prog 28 [c.v,.int .i64 hall,slI poly,slI got,bdV b,.int .i64 (p:Int)] (fun r=>r = .own (linN (postM c b hall poly got p)) (postM c b hall poly got p).length 4):=by
 obtain rfl | rfl | rfl | rfl:p = 0∨p = 1∨p = 2∨p = 3:=by omega
 ·exact k28_0 c hc b hb hall poly got hp hgl
 ·exact k28_1 c hc b hb hall hh poly got hgl
 ·exact k28_2 c hc b hb hall hh poly got hgl hp
 ·exact k28_3 c hc b hb hall hh poly got hgl hp
theorem rfB_ok {c:Cf} (hc:c.Ok) {polys:List (List Int)} (hp:∀ q∈polys,q.length≠0→polyE c.P q = 0) (hn:polys.length≤16) (lost:List (Int × Int)) {b:Brd} (hb:b.Ok) (hf:b.fits 100 = true) {p:Nat} (hp4:p≤4):(rfB c polys lost b p).Ok:=by
 refine Brd.ok_at fun k hk=>?_
 rw [rfB_at c polys lost b hp4 hk]
 split
 ·exact runX_ok hc hp hn lost hb hf k
 ·exact ⟨by simp,by simp⟩
theorem rfB_vw {c:Cf} (hc:c.Ok) {polys:List (List Int)} (hp:∀ q∈polys,q.length≠0→polyE c.P q = 0) {lost:List (Int × Int)} {b:Brd} {p n lo:Nat} {xs:List Ent} (hp4:p≤4) (h:InvE c polys lost b p [] xs n lo):VW (.agg (xs.map Ent.fv)) (bdV (rfB c polys lost b p)):=by
 have hl:=h.len
 have hk:∀ k (hk:k < xs.length),WkL xs[k].X∧xs[k].X.map Prod.fst = (rfB c polys lost b p).at k:=by
  intro k hk
  rw [rfB_at c polys lost b hp4 (by omega),h.X k hk]
  split
  ·exact ⟨runX_wk hc hp lost b k,rfl⟩
  ·split
   ·exact ⟨fun p hp=>by simp at hp,rfl⟩
   ·exact ⟨fun p hp=>by simp at hp,rfl⟩
 refine VW.agg (VWL.of (by simp [hl]) fun i h1 h2=>?_)
 rw [List.length_map] at h1
 obtain ⟨w,e⟩:=hk i h1
 have:=Ent.fv_vw w (fun h0=>h.nil _ (List.getElem_mem h1) h0)
 rw [e] at this
 rw [List.getElem_map]
 rw [lists_at]
 exact this
theorem runB_voA {c:Cf} (hc:c.Ok) {polys:List (List Int)} (hp:∀ q∈polys,q.length≠0→polyE c.P q = 0) {lost:List (Int × Int)} {b:Brd} {n lo:Nat} {xs:List Ent} (h:InvE c polys lost b 4 [] xs n lo):VO (.agg (xs.map Ent.fv)) (bdV (runB c polys lost b)):=by
 have hl:=h.len
 have hX:=h.X
 have hn:=h.nil
 have hb:∀ k,k < 4→(runB c polys lost b).at k = (runX c polys lost b k).map Prod.fst:=fun k hk=>by
  rw [runB,brdOf_at (by rw [runL_len];omega) k hk,List.getD_eq_getElem?_getD,runL_get c polys lost b 4 k hk];rfl
 match xs,hl with
 | [e0,e1,e2,e3],_ =>
  have x0:=hX 0 (by simp)
  have x1:=hX 1 (by simp)
  have x2:=hX 2 (by simp)
  have x3:=hX 3 (by simp)
  simp only [List.getElem_cons_zero,List.getElem_cons_succ,Nat.reduceLT,if_true,Nat.zero_lt_succ] at x0 x1 x2 x3
  have b0:(runB c polys lost b).d = e0.X.map Prod.fst:=by rw [x0];exact hb 0 (by omega)
  have b1:(runB c polys lost b).c = e1.X.map Prod.fst:=by rw [x1];exact hb 1 (by omega)
  have b2:(runB c polys lost b).a = e2.X.map Prod.fst:=by rw [x2];exact hb 2 (by omega)
  have b3:(runB c polys lost b).r = e3.X.map Prod.fst:=by rw [x3];exact hb 3 (by omega)
  have w0:WkL e0.X:=by rw [x0];exact runX_wk hc hp lost b 0
  have w1:WkL e1.X:=by rw [x1];exact runX_wk hc hp lost b 1
  have w2:WkL e2.X:=by rw [x2];exact runX_wk hc hp lost b 2
  have w3:WkL e3.X:=by rw [x3];exact runX_wk hc hp lost b 3
  have n0:=hn e0 (by simp)
  have n1:=hn e1 (by simp)
  have n2:=hn e2 (by simp)
  have n3:=hn e3 (by simp)
  have hw:VWL [e0.fv,e1.fv,e2.fv,e3.fv] [linV (runB c polys lost b).d,linV (runB c polys lost b).c,linV (runB c polys lost b).a,linV (runB c polys lost b).r]:=by
   rw [b0,b1,b2,b3]
   exact .cons (Ent.fv_vw w0 n0) (.cons (Ent.fv_vw w1 n1) (.cons (Ent.fv_vw w2 n2) (.cons (Ent.fv_vw w3 n3) .nil)))
  have ho:VOL [e0.fv,e1.fv,e2.fv,e3.fv] [linV (runB c polys lost b).d,linV (runB c polys lost b).c,linV (runB c polys lost b).a,linV (runB c polys lost b).r]:=by
   rw [b0,b1,b2,b3]
   exact .cons (Ent.fv_vo w0 n0) (.cons (Ent.fv_vo w1 n1) (.cons (Ent.fv_vo w2 n2) (.cons (Ent.fv_vo w3 n3) .nil)))
  exact VO.agg ho hw
theorem shF_in {c:Cf} {polys:List (List Int)} {lost:List (Int × Int)} {h d:Nat} (h1:d≠h) (h2:0 < (polyAt polys d).length) (h3:lost.any (lstQ ((d:Int)+1) ((h:Int)+1)) = false):shF c polys lost h d = valM c.P ((h:Int)+1) (polyAt polys d):=by
 unfold shF;rw [if_pos ⟨by omega,by omega,h3⟩]
theorem shF_out {c:Cf} {polys:List (List Int)} {lost:List (Int × Int)} {h d:Nat} (hq:d = h∨(polyAt polys d).length = 0∨lost.any (lstQ ((d:Int)+1) ((h:Int)+1)) = true):shF c polys lost h d = -1:=by
 unfold shF;rw [if_neg]
 rintro ⟨h1,h2,h3⟩
 rcases hq with e | e | e
 ·exact h2 e.symm
 ·exact h1 e
 ·rw [h3] at e;cases e
abbrev BJ (c:Cf) (b:Brd) (cs:List V):Hp:=(((Hp.put (fun _=>none) 0 { cells:=[.int .i64 c.R,.int .i64 c.P,.int .i64 c.G,.int .i64 c.H,.int .i64 c.B,.int .i64 c.K],sz:=6 }).put 8 { cells:=[linV b.d,linV b.c,linV b.a,linV b.r],sz:=4 }).put 16 { cells:=[.nils,.nils,.nils,.nils],sz:=4 }).put 24 { cells:=cs,sz:=4 }
def xO (X:List (Ln × V)) (ver:Nat):Ob:={ cells:=lnsC X,sz:=4,ver:=ver,nl:=if X.length = 0 then 1 else 0 }
def gO1 (L:List Int):Ob:={ cells:=L.map (V.int .i64),sz:=1,ver:=L.length,nl:=if L.length = 0 then 1 else 0 }
@[go_sem] theorem HpL_mark {B:Hp} {i a:Nat} {l:List Ent} (h:offL i l):(HpL B l).mark i a = HpL (B.mark i a) l:=by
 unfold Hp.mark
 rw [HpL_other h]
 cases B i with
 | none=>rfl
 | some ob=>exact HpL_put h
theorem xO_app {X:List (Ln × V)} {Lp:List Ln} {ver:Nat}:({ cells:=lnsC X++linN Lp,sz:=4,ver:=ver,nl:=if Lp.length = 0 then (if X.length = 0 then 1 else 0) else 0 }:Ob) = xO (X++Lp.map fun x=>(x,nvL x)) ver:=by
 unfold xO linN
 rw [lnsC_app,List.length_append,List.length_map]
 by_cases h:Lp.length = 0
 ·rw [if_pos h,h,Nat.add_zero]
 ·rw [if_neg h,if_neg (by omega)]
def NzE (p:Nat) (xs:List Ent):Prop:=∀ k (h:k < xs.length),p≤k→xs[k].id = 0
theorem NzE.frz {p:Nat} {xs:List Ent} (h:NzE p xs):NzE p (xs.map Ent.frz):=fun k hk hp=>by
 rw [List.length_map] at hk
 rw [List.getElem_map]
 exact h k hk hp
theorem NzE.set {p:Nat} {xs:List Ent} {e:Ent} (h:NzE p xs):NzE (p+1) (xs.set p e):=fun k hk hp=>by
 rw [List.length_set] at hk
 rw [List.getElem_set_ne (by omega)]
 exact h k hk (by omega)
theorem HS_got {B:Hp} {o g k:Nat} {xo ob:Ob} {L L':List Int} {w:Int} (hs:L' = L++[w]) (h1:k≠g) (h2:k≠o) (hn:B k = none):HS ((B.put o xo).put g { cells:=L'.map (V.int .i64),sz:=1,ver:=L'.length,nl:=if L'.length = 0 then 1 else 0 }) (((B.put o xo).put g { cells:=L.map (V.int .i64)++[.int .i64 w],sz:=1,ver:=L.length+1 }).put k ob):=by
 subst hs
 rw [List.map_append,List.length_append,List.length_singleton,if_neg (by omega)]
 exact HS.skip (HS.refl _) (by rw [put_ne h1,put_ne h2,hn]) _
set_option maxRecDepth 10000 in
set_option maxHeartbeats 2000000 in
theorem k19m (c:Cf) (hc:c.Ok) (b:Brd) (hb:b.Ok) (polys:List (List Int)) (hpl:∀ p∈polys,p.length < 2 ^ 20) (lost:List (Int × Int)) (hlost:lost.length < 2 ^ 40) (hf:b.fits 100 = true) (hn:(polys.length:Int) = c.H) (hpok:∀ q∈polys,q.length≠0→polyE c.P q = 0):PureC Tryz.prog 19 [c.v,polV polys,bdV b,losV lost]
  (fun r=>∃ xs n lo,InvE c polys lost b 4 [] xs n lo∧r = .agg (xs.map Ent.fv)):=by
 have hr:=hc.rng
 refine pureC_of_wp .x mixed ok19 rfl ?_
 unfold c19
 dsimp only [argE,Cf.v,cfgV,bdV]
 refine W.run ?_
 refine W.loop (fun z:Nat × List Ent × Nat=>⟨[(1,polV polys),(3,losV lost),(4,.ptr 0 0 0),(6,.ptr 8 0 0),(8,.ptr 16 0 0),(9,.ptr 24 0 0),(10,.int .i64 (z.1:Int))],HpL (BJ c b (cellsE z.2.1)) z.2.1,z.2.2⟩)
  (fun z=>z.1≤4∧InvE c polys lost b z.1 [] z.2.1 z.2.2 24∧NzE z.1 z.2.1) (fun z=>4 - z.1) (0,List.replicate 4 ⟨[],0,0,0⟩,40) ⟨by dsimp only;omega,⟨rfl,⟨fun h=>absurd rfl h,fun h=>absurd rfl h,fun h=>absurd rfl h,fun h=>absurd rfl h,trivial⟩,fun e he h=>absurd (by rw [List.eq_of_mem_replicate he]) h,fun e he _=>by rw [List.eq_of_mem_replicate he],by dsimp only;omega,fun k hk=>by dsimp only;rw [List.getElem_replicate,if_neg (by omega)];split <;> rfl⟩,fun k hk _=>by dsimp only;rw [List.getElem_replicate]⟩ ?_ rfl (HS.refl _) rfl
 rintro ⟨p,xs,n⟩ ⟨hp,hI,hN⟩
 dsimp only at hp hI hN ⊢
 have hxl:=hI.len
 have hcl:(cellsE xs).length = 4:=by rw [cellsE_len,hxl]
 have o0:offL 0 xs:=hI.off (by omega)
 have o8:offL 8 xs:=hI.off (by omega)
 have o16:offL 16 xs:=hI.off (by omega)
 have o24:offL 24 xs:=hI.off (by omega)
 have hm0:=hI.n0
 by_cases hp4:p < 4
 ·have hat:=(at_ok hb p).1
  have hatl:=linC_len (b.at p)
  refine W.run ?_
  rw [lists_at]
  refine W.run ?_
  have hX0:(HpL (BJ c b (cellsE xs)) xs).put (n+112) { cells:=linC (b.at p),sz:=4,ver:=1,nl:=if (b.at p).length = 0 then 1 else 0 } = (HpL (BJ c b (cellsE xs)) xs).put (n+112) (xO (curX c polys lost b p 0) 1):=by
   unfold xO;rw [curX_0,List.length_map,← linC_lnsC]
  have hXl0:(b.at p).length = (curX c polys lost b p 0).length:=by rw [curX_0,List.length_map]
  refine W.loop (fun z:Nat × List Ent × Nat × Nat=>⟨[(1,polV polys),(3,losV lost),(4,.ptr 0 0 0),(6,.ptr 8 0 0),(8,.ptr 16 0 0),(9,.ptr 24 0 0),(10,.int .i64 (p:Int)),(12,.ref (n+112) z.2.2.1 0 (curX c polys lost b p z.1).length),(13,.int .i64 ((z.1:Int)+1))],(HpL (BJ c b (cellsE z.2.1)) z.2.1).put (n+112) (xO (curX c polys lost b p z.1) z.2.2.1),z.2.2.2⟩)
   (fun z=>z.1≤c.H.toNat∧(InvE c polys lost b p [] z.2.1 n 24∧NzE p z.2.1)∧n+160≤z.2.2.2) (fun z=>c.H.toNat - z.1) (0,xs,1,n+160) ⟨by dsimp only;omega,⟨hI,hN⟩,by dsimp only;omega⟩ ?_ (by rw [hXl0];rfl) (by rw [hX0];exact HS.refl _) rfl
  clear hX0 hXl0 hI hN hxl hcl o0 o8 o16 o24 hat hatl
  rintro ⟨h,zs,ver,m⟩ ⟨hh,⟨hJ,hN⟩,hm⟩
  dsimp only at hh hJ hN hm ⊢
  have hxl:=hJ.len
  have hcl:(cellsE zs).length = 4:=by rw [cellsE_len,hxl]
  have o0:offL 0 zs:=hJ.off (by omega)
  have o8:offL 8 zs:=hJ.off (by omega)
  have o16:offL 16 zs:=hJ.off (by omega)
  have o24:offL 24 zs:=hJ.off (by omega)
  have on:offL (n+112) zs:=hJ.off (by omega)
  have hnone:∀ k,n+112 < k→(HpL (BJ c b (cellsE zs)) zs) k = none:=fun k hk=>by
   rw [HpL_other (hJ.off (by omega))]
   simp only [Hp.put]
   repeat (rw [if_neg (by omega)])
  have hsu:=curX_succ c polys lost b p h
  have hclen:=curX_len hc hpok lost hf p h
  have hlc:=lnsC_len (curX c polys lost b p h)
  by_cases hhl:h < c.H.toNat
  ·have hk : ((h : Int) + 1 - 1).toNat < polys.length := by omega
   have hpat:polyAt polys h = polys[((h:Int)+1 - 1).toNat]:=by unfold polyAt;rw [List.getD_eq_getElem?_getD,List.getElem?_eq_getElem (show h < polys.length by omega),Option.getD_some];congr 1;omega
   by_cases hz:polys[((h:Int)+1 - 1).toNat].length = 0
   ·have hpo : pollH c polys lost (phB c polys lost b p) p h = [] := by unfold pollH; rw [if_pos (by rw [hpat]; exact hz)]
    rw [hpo,List.map_nil,List.append_nil] at hsu
    clear hpo hpat hb
    generalize curX c polys lost b p h = X at hsu hclen hlc ⊢
    refine W.run ?_
    refine W.kl0 _ ?_ ⟨(h+1,zs,ver,_),⟨by dsimp only;omega,⟨hJ,hN⟩,by dsimp only;omega⟩,St_fr (by dsimp only;rw [hsu];rfl),by dsimp only;omega⟩ Nat.zero_lt_one
    dsimp only
    rw [hsu]
    exact HS.refl _
   ·refine W.run ?_
    have hRl:∀ d,((List.range d).map (shF c polys lost h)).length = d:=fun d=>by simp
    have hRs:∀ d,(List.range (d+1)).map (shF c polys lost h) = (List.range d).map (shF c polys lost h)++[shF c polys lost h d]:=fun d=>by rw [List.range_succ,List.map_append];rfl
    refine W.lp (fun d:Nat=>[(1,polV polys),(3,losV lost),(4,.ptr 0 0 0),(6,.ptr 8 0 0),(8,.ptr 16 0 0),(9,.ptr 24 0 0),(10,.int .i64 (p:Int)),(12,.ref (n+112) ver 0 (curX c polys lost b p h).length),(13,.int .i64 ((h:Int)+1)),(14,.ref (m+88) ((List.range d).map (shF c polys lost h)).length 0 ((List.range d).map (shF c polys lost h)).length),(15,.int .i64 ((d:Int)+1))])
     (fun d=>((HpL (BJ c b (cellsE zs)) zs).put (n+112) (xO (curX c polys lost b p h) ver)).put (m+88) (gO1 ((List.range d).map (shF c polys lost h)))) (fun d=>d≤c.H.toNat) (fun d=>c.H.toNat - d) 0 rfl (HS.refl _) (by omega) ?_
    rintro d nx hd hnx
    have hll:=hRl d
    have hsl:=hRs d
    by_cases hdl:d < c.H.toNat
    ·have hkd : ((d : Int) + 1 - 1).toNat < polys.length := by omega
     have hpad:polyAt polys d = polys[((d:Int)+1 - 1).toNat]:=by unfold polyAt;rw [List.getD_eq_getElem?_getD,List.getElem?_eq_getElem (show d < polys.length by omega),Option.getD_some];congr 1;omega
     have hpld:=hpl _ (List.getElem_mem hkd)
     have c1:=k60 lost hlost ((d:Int)+1) ((h:Int)+1)
     clear hRl hRs hsu hclen hlc hJ hcl
     generalize curX c polys lost b p h = X
     by_cases he:d = h
     ·have hv:=shF_out (c:=c) (polys:=polys) (lost:=lost) (.inl he)
      rw [hv] at hsl
      clear hpad hv c1 hb
      generalize (List.range d).map (shF c polys lost h) = L at hll hsl ⊢
      unfold gO1
      refine W.run ?_
      refine W.kl (d+1) (by rw [hsl,List.length_append];rfl) (HS_got hsl (by omega) (by omega) (hnone _ (by omega))) (by omega) (by omega) (by omega)
     by_cases hz2:polys[((d:Int)+1 - 1).toNat].length = 0
     ·have hv := shF_out (c := c) (polys := polys) (lost := lost) (h := h) (d := d) (.inr (.inl (by rw [hpad]; exact hz2)))
      rw [hv] at hsl
      clear hpad hv c1 hb
      generalize (List.range d).map (shF c polys lost h) = L at hll hsl ⊢
      unfold gO1
      refine W.run ?_
      refine W.kl (d+1) (by rw [hsl,List.length_append];rfl) (HS_got hsl (by omega) (by omega) (hnone _ (by omega))) (by omega) (by omega) (by omega)
     cases hlq:lost.any (lstQ ((d:Int)+1) ((h:Int)+1))
     ·rw [hlq] at c1
      have hv:=shF_in (c:=c) (polys:=polys) (lost:=lost) he (by rw [hpad];omega) hlq
      have c2:=k29 (R:=c.R) (G:=c.G) hc.1.hP polys[((d:Int)+1 - 1).toNat] _ rfl (by omega) (polyE_rng (hpok _ (List.getElem_mem hkd) hz2)) ((h:Int)+1) (by omega)
      rw [← hpad,← hv,hpad] at c2
      clear hpad hv hb
      generalize shF c polys lost h d = w at c2 hsl
      generalize (List.range d).map (shF c polys lost h) = L at hll hsl ⊢
      unfold gO1
      refine W.run ?_
      refine W.kl (d+1) (by rw [hsl,List.length_append];rfl) (HS_got hsl (by omega) (by omega) (hnone _ (by omega))) (by omega) (by omega) (by omega)
     ·rw [hlq] at c1
      have hv:=shF_out (c:=c) (polys:=polys) (lost:=lost) (h:=h) (d:=d) (.inr (.inr hlq))
      rw [hv] at hsl
      clear hpad hv hb
      generalize (List.range d).map (shF c polys lost h) = L at hll hsl ⊢
      unfold gO1
      refine W.run ?_
      refine W.kl (d+1) (by rw [hsl,List.length_append];rfl) (HS_got hsl (by omega) (by omega) (hnone _ (by omega))) (by omega) (by omega) (by omega)
    ·have hde : d = c.H.toNat := by omega
     clear hd hdl hsl hRs
     have hpo:pollH c polys lost (phB c polys lost b p) p h = postM c (rfB c polys lost b p) ((h:Int)+1) polys[((h:Int)+1 - 1).toNat] ((List.range d).map (shF c polys lost h)) p:=by
      rw [phB_rfB c polys lost b hp4,hde]
      unfold pollH
      rw [if_neg (by rw [hpat];exact hz),hpat];rfl
     have c2 := (k28 c hc _ (rfB_ok hc hpok (by omega) lost hb hf (show p ≤ 4 by omega)) ((h : Int) + 1) (by omega) polys[((h : Int) + 1 - 1).toNat] ((List.range d).map (shF c polys lost h)) (hpok _ (List.getElem_mem hk) hz) (by rw [hRl, hde]; omega) p hp4).weak
      (VWL.cons (.refl c.v) (VWL.cons (.refl _) (VWL.cons (.refl _) (VWL.cons (.refl _) (VWL.cons (rfB_vw hc hpok (by omega) hJ) (VWL.cons (.refl _) .nil))))))
     rw [← hpo] at c2
     have hpll:=(pollH_ok hc hpok lost (phB c polys lost b p) p h).1
     have hap:=hJ.ap
     have hat:∀ e∈zs,∀ q∈e.X,q.2.atom = true:=fun e he q hq=>by
      obtain ⟨k,hk,rfl⟩:=List.getElem_of_mem he
      rw [hJ.X k hk] at hq
      split at hq
      ·exact (runX_wk hc hpok lost b k q hq).2
      ·split at hq
       ·cases hq
       ·cases hq
     generalize pollH c polys lost (phB c polys lost b p) p h = Lp at c2 hsu hpll
     have hNl:(linN Lp).length = Lp.length * 4:=linN_len Lp
     have hpl2:=hpl _ (List.getElem_mem hk)
     clear hpo hpat hRl hb
     generalize (List.range d).map (shF c polys lost h) = L at c2 hll ⊢
     have og:offL (m+88) zs:=hJ.off (by omega)
     have onf:offL (n+112) (zs.map Ent.frz):=hJ.frz.off (by omega)
     unfold gO1 xO
     rw [HpL_put on,HpL_put og]
     refine W.run ?_
     have ogf:offL (m+88) (zs.map Ent.frz):=hJ.frz.off (by omega)
     refine W.kl0 ((HpL (BJ c b (cellsE (zs.map Ent.frz))) (zs.map Ent.frz)).put (n+112) (xO (curX c polys lost b p (h+1)) (ver+1))) ?_ ⟨(h+1,zs.map Ent.frz,ver+1,_),⟨by dsimp only;omega,⟨hJ.frz,hN.frz⟩,by dsimp only;omega⟩,St_fr (by dsimp only;rw [hsu,List.length_append,List.length_map];rfl),by dsimp only;omega⟩ Nat.zero_lt_one
     rw [← HpL_put ogf,put_comm (show m+88≠n+112 by omega),← HpL_put onf,put_put,cellsE_frz,xO_app,← hsu]
     refine HS.skip (HS.refl _) ?_ _
     rw [put_ne (by omega),HpL_other ogf]
     simp only [Hp.put]
     repeat (rw [if_neg (by omega)])
  ·have hhe : h = polys.length := by omega
   rw [hhe,curX_end] at hsu hlc hclen ⊢
   clear hsu
   have hpz:p < zs.length:=by omega
   have hce:=cellsE_set (xs:=zs) (p:=p) (v:=.ref (n+112) ver 0 (runX c polys lost b p).length) (e:=⟨runX c polys lost b p,n+112,ver,0⟩) hpz (by
    simp only [Ent.cell]
    rw [if_neg (by omega)])
   have hnx:=(hJ.more (n':=m) hpz ⟨runX c polys lost b p,n+112,ver,0⟩ (Y:=runX c polys lost b p) (by rw [List.nil_append]) (.inr ⟨by dsimp only;omega,by dsimp only;omega⟩) (by dsimp only;omega) (by omega))
   rw [List.nil_append] at hnx
   have hnx2:=hnx.next
   have hN2:=hN.set (e:=⟨runX c polys lost b p,n+112,ver,0⟩)
   have hz0:=hN p hpz (Nat.le_refl _)
   have hnew:=fun B=>HpL_new (B:=B) (ob:=xO (runX c polys lost b p) ver) (X:=runX c polys lost b p) (id:=n+112) (ver:=ver) (z:=0) (by omega) rfl hpz on hz0
   have hend:HS (HpL (BJ c b (cellsE (zs.set p ⟨runX c polys lost b p,n+112,ver,0⟩))) (zs.set p ⟨runX c polys lost b p,n+112,ver,0⟩)) (((HpL (BJ c b (cellsE zs)) zs).put 24 { cells:=List.take p (cellsE zs)++[.ref (n+112) ver 0 (runX c polys lost b p).length]++List.drop (p+1) (cellsE zs),sz:=4 }).put (n+112) (xO (runX c polys lost b p) ver)):=by
    rw [hce,HpL_put o24,hnew,put_put]
    exact HS.refl _
   clear hJ hnx hlc hclen hnone hnew hN hz0 hce
   obtain rfl | rfl | rfl | rfl:p = 0∨p = 1∨p = 2∨p = 3:=by omega
   ·refine W.run ?_
    refine W.kl0 _ ?_ ⟨(0+1,zs.set 0 ⟨runX c polys lost b 0,n+112,ver,0⟩,_),⟨?_,?_,hN2⟩,rfl,?_⟩ Nat.zero_lt_one
    ·exact hend
    ·dsimp only;omega
    ·exact hnx2.mono (by dsimp only;omega)
    ·dsimp only;omega
   ·refine W.run ?_
    refine W.kl0 _ ?_ ⟨(1+1,zs.set 1 ⟨runX c polys lost b 1,n+112,ver,0⟩,_),⟨?_,?_,hN2⟩,rfl,?_⟩ Nat.zero_lt_one
    ·exact hend
    ·dsimp only;omega
    ·exact hnx2.mono (by dsimp only;omega)
    ·dsimp only;omega
   ·refine W.run ?_
    refine W.kl0 _ ?_ ⟨(2+1,zs.set 2 ⟨runX c polys lost b 2,n+112,ver,0⟩,_),⟨?_,?_,hN2⟩,rfl,?_⟩ Nat.zero_lt_one
    ·exact hend
    ·dsimp only;omega
    ·exact hnx2.mono (by dsimp only;omega)
    ·dsimp only;omega
   ·refine W.run ?_
    refine W.kl0 _ ?_ ⟨(3+1,zs.set 3 ⟨runX c polys lost b 3,n+112,ver,0⟩,_),⟨?_,?_,hN2⟩,rfl,?_⟩ Nat.zero_lt_one
    ·exact hend
    ·dsimp only;omega
    ·exact hnx2.mono (by dsimp only;omega)
    ·dsimp only;omega
 ·have hpe : p = 4 := by omega
  subst hpe
  clear hN hb
  refine W.run ?_
  rw [HpL_put o16]
  have hat:∀ e∈xs,∀ q∈e.X,q.2.atom = true:=fun e he q hq=>by
   obtain ⟨k,hk,rfl⟩:=List.getElem_of_mem he
   rw [hI.X k hk,if_pos (by omega)] at hq
   exact (runX_wk hc hpok lost b k q hq).2
  have hfz:=frz_cells (k:=10) xs ((BJ c b (cellsE xs)).put 16 { cells:=cellsE xs,sz:=4 }) hI.ap hat
  refine W.retP (u:=.agg (cellsE xs)) (by exact Ev.out Ev.by) (r:=.agg (xs.map Ent.fv)) (H':=HpL ((BJ c b (cellsE xs)).put 16 { cells:=cellsE xs,sz:=4 }) (xs.map Ent.frz)) ?_ ⟨xs,n,24,hI,rfl⟩
  simp only [fin_x,frz_agg,hfz,Option.map_some]
theorem k19 (c:Cf) (hc:c.Ok) (b:Brd) (hb:b.Ok) (polys:List (List Int)) (hpl:∀ p∈polys,p.length < 2 ^ 20) (lost:List (Int × Int)) (hlost:lost.length < 2 ^ 40) (hf:b.fits 100 = true) (hn:(polys.length:Int) = c.H) (hpok:∀ q∈polys,q.length≠0→polyE c.P q = 0):PureC Tryz.prog 19 [c.v,polV polys,bdV b,losV lost] (fun r=>r = bdV (runB c polys lost b)):=by
 refine (k19m c hc b hb polys hpl lost hlost hf hn hpok).weakE ?_
 rintro r ⟨xs,n,lo,hI,rfl⟩
 exact runB_voA hc hpok hI
end Go.Dp
