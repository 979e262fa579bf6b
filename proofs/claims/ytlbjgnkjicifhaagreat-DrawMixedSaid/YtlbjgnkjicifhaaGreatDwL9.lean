import Derived.Test.YtlbjgnkjicifhaaGreatDwL4
import Derived.Test.YtlbjgnkjicifhaaGreatDwJ13
import Derived.Test.YtlbjgnkjicifhaaGreatDwM3
import Derived.Test.YtlbjgnkjicifhaaGreatDsF4
namespace Go.Dp
open Go.RowKit Go.Proofs
attribute [local irreducible] wp wpOps wpOp1 CallW CallT kSeq kBlk kLoop kReg retP retR kAsg kRound kRf kCut kItr kItr2
set_option linter.unusedVariables false
set_option linter.unusedSimpArgs false
def polyX (c:Cf) (l:List (List Int)) (h k:Nat):Int:=if k < (polyAt l h).length then (polyAt l h).getD k 0 % 18446744073709551616 % c.P else ((h:Int)+k) % c.P
def polyR (c:Cf) (l:List (List Int)) (h:Nat):List Int:=if 0 < (polyAt l h).length then (List.range (c.B+1).toNat).map (polyX c l h) else []
def polysM (c:Cf) (l:List (List Int)):List (List Int):=(List.range c.H.toNat).map (polyR c l)
def rO (r:List Int):Ob:={ cells:=r.map (V.int .i64),sz:=1,ver:=r.length,nl:=if r.length = 0 then 1 else 0 }
def rR (p:Nat × List Int):V:=.ref p.1 p.2.length 0 p.2.length
def HpW (B:Hp) (rows:List (Nat × List Int)) (lo n:Nat):Hp:=rows.foldl (fun H p=>H.put p.1 (rO p.2)) B
def BW (rows:List (Nat × List Int)) (lo n:Nat):Prop:=(rows.map Prod.fst).Nodup∧∀ p∈rows,lo < p.1∧p.1 < n
theorem HpW_snoc {B:Hp} {rows:List (Nat × List Int)} {lo n n':Nat} {p:Nat × List Int}:HpW B (rows++[p]) lo n' = (HpW B rows lo n).put p.1 (rO p.2):=by
 unfold HpW;rw [List.foldl_append];rfl
theorem HpW_at0 {i:Nat}:∀ (rows:List (Nat × List Int)) (B:Hp),(∀ p∈rows,p.1≠i)→rows.foldl (fun H p=>H.put p.1 (rO p.2)) B i = B i
 | [],B,_=>rfl
 | p::rows,B,h=>by
  rw [List.foldl_cons,HpW_at0 rows _ fun q hq=>h q (by simp [hq]),put_ne (Ne.symm (h p (by simp)))]
theorem HpW_put0 {i:Nat} {ob:Ob}:∀ (rows:List (Nat × List Int)) (B:Hp),(∀ p∈rows,p.1≠i)→(rows.foldl (fun H p=>H.put p.1 (rO p.2)) B).put i ob = rows.foldl (fun H p=>H.put p.1 (rO p.2)) (B.put i ob)
 | [],B,_=>rfl
 | p::rows,B,h=>by
  rw [List.foldl_cons,List.foldl_cons,HpW_put0 rows _ fun q hq=>h q (by simp [hq]),put_comm (h p (by simp))]
section
variable {B:Hp} {rows:List (Nat × List Int)} {lo n i:Nat} {ob:Ob}
@[go_sem] theorem HpW_at (hb:BW rows lo n) (hi:i≤lo∨n≤i):HpW B rows lo n i = B i :=
 HpW_at0 rows B fun p hp e=>by have:=hb.2 p hp;omega
@[go_sem] theorem HpW_put (hb:BW rows lo n) (hi:i≤lo∨n≤i):(HpW B rows lo n).put i ob = HpW (B.put i ob) rows lo n :=
 HpW_put0 rows B fun p hp e=>by have:=hb.2 p hp;omega
theorem HpW_HS {B':Hp} (h:HS B B'):HS (HpW B rows lo n) (HpW B' rows lo n):=by
 unfold HpW
 induction rows generalizing B B' with
 | nil=>exact h
 | cons p rows ih =>
  rw [List.foldl_cons,List.foldl_cons]
  exact ih fun j x e=>by
   simp only [Hp.put] at e ⊢
   split
   ·rename_i hc;rw [if_pos hc] at e;exact e
   ·rename_i hc;rw [if_neg hc] at e;exact h j x e
end
theorem BW.snoc {rows:List (Nat × List Int)} {lo n n':Nat} {p:Nat × List Int} (h:BW rows lo n) (hp:n≤p.1∧p.1 < n') (hlo:lo < n):BW (rows++[p]) lo n':=by
 refine ⟨?_,fun q hq=>?_⟩
 ·rw [List.map_append]
  refine List.nodup_append.2 ⟨h.1,by simp,fun a ha b hb=>?_⟩
  obtain ⟨q,hq,rfl⟩:=List.mem_map.1 ha
  have:=h.2 q hq
  simp only [List.map_cons,List.map_nil,List.mem_singleton] at hb
  omega
 ·rcases List.mem_append.1 hq with hq | hq
  ·have:=h.2 q hq;omega
  ·rw [List.mem_singleton.1 hq];omega
theorem HpW_row0:∀ (rows:List (Nat × List Int)),(rows.map Prod.fst).Nodup→∀ B:Hp,∀ p∈rows,rows.foldl (fun H p=>H.put p.1 (rO p.2)) B p.1 = some (rO p.2)
 | [],_,B,p,hp=>by cases hp
 | q::rows,hn,B,p,hp=>by
  have hn':=List.nodup_cons.1 hn
  rw [List.foldl_cons]
  rcases List.mem_cons.1 hp with rfl | hp
  ·rw [HpW_at0 rows _ fun r hr e=>hn'.1 (List.mem_map.2 ⟨r,hr,e⟩),put_same]
  ·exact HpW_row0 rows hn'.2 _ p hp
theorem mapS_rR {k:Nat}:∀ (rows:List (Nat × List Int)) (H:Hp),(rows.map Prod.fst).Nodup→(∀ p∈rows,H p.1 = some (rO p.2))→∃ H',mapS (frz (k+1)) (rows.map rR) H = some (rows.map (fun p=>slI p.2),H')∧∀ i,(∀ p∈rows,p.1≠i)→H' i = H i
 | [],H,_,_=>⟨H,rfl,fun _ _=>rfl⟩
 | p::rows,H,hn,h=>by
  have hn':=List.nodup_cons.1 hn
  have h0:=h p (by simp)
  have hmk:H.mark p.1 (0+p.2.length * 1) = H.put p.1 { rO p.2 with fz:=max (rO p.2).fz (0+p.2.length * 1) }:=by unfold Hp.mark;rw [h0]
  obtain ⟨H',hH',ho⟩:=mapS_rR (k:=k) rows (H.mark p.1 (0+p.2.length * 1)) hn'.2 (fun q hq=>by
   rw [hmk,put_ne fun e=>hn'.1 (List.mem_map.2 ⟨q,hq,e⟩)]
   exact h q (by simp [hq]))
  refine ⟨H',?_,fun i hi=>by rw [ho i fun q hq=>hi q (by simp [hq]),hmk,put_ne (Ne.symm (hi p (by simp)))]⟩
  have e:frz (k+1) (rR p) H = some (slI p.2,H.mark p.1 (0+p.2.length * 1)):=by
   have hq:=frzRef_some (n:=k) (o:=p.1) (ver:=p.2.length) (off:=0) (len:=p.2.length) (H:=H) (ob:=rO p.2) ⟨rfl,by simp [rO],rfl⟩
   unfold rR
   rw [frz_ref,h0,hq]
   simp only [rO,List.drop_zero,Nat.mul_one,Nat.zero_add]
   rw [List.take_of_length_le (by simp),mapS_int1]
   rfl
  rw [List.map_cons,mapS,e]
  simp only [Option.bind_some,hH',Option.map_some,List.map_cons]
set_option maxRecDepth 10000 in
set_option maxHeartbeats 2000000 in
theorem k21 (c:Cf) (hc:c.Ok) (l:List (List Int)) (hl:l.length < 2 ^ 63) (hx:∀ p∈l,p.length < 2 ^ 63∧∀ n∈p,B64 n):PureC Tryz.prog 21 [c.v,.sl (l.map slI) l.length] (fun r=>r = .own ((polysM c l).map slI) c.H.toNat 1):=by
 have hr:=hc.rng
 have hP:=hc.1.hP
 clear hc
 refine pureC_of_wp (.s 1) mixed ok21 rfl ?_
 unfold c21
 dsimp only [argE,Cf.v,cfgV]
 refine W.run ?_
 refine W.loop (fun y:Nat × List (Nat × List Int) × Nat=>⟨[(1,.sl (l.map slI) l.length),(2,.ptr 0 0 0),(5,.ref 16 y.1 0 y.1),(6,.int .i64 (y.1:Int))],HpW ((Hp.put (fun _=>none) 0 { cells:=[.int .i64 c.R,.int .i64 c.P,.int .i64 c.G,.int .i64 c.H,.int .i64 c.B,.int .i64 c.K],sz:=6 }).put 16 { cells:=y.2.1.map rR,sz:=1,ver:=y.1,nl:=if y.1 = 0 then 1 else 0 }) y.2.1 16 y.2.2,y.2.2⟩)
  (fun y=>y.1≤c.H.toNat∧y.2.1.length = y.1∧y.2.1.map Prod.snd = (List.range y.1).map (polyR c l)∧BW y.2.1 16 y.2.2∧32≤y.2.2) (fun y=>c.H.toNat - y.1) (0,[],32) ⟨by dsimp only;omega,rfl,rfl,⟨List.nodup_nil,fun p hp=>by cases hp⟩,by dsimp only;omega⟩ ?_ rfl (HS.refl _) rfl
 rintro ⟨h,rows,n⟩ ⟨h1,h2,h3,h4,h5⟩
 dsimp only at h1 h2 h3 h4 h5 ⊢
 have hrl:(rows.map rR).length = h:=by rw [List.length_map];exact h2
 by_cases hh:h < c.H.toNat
 ·refine W.run ?_
  have hpa:h < l.length→polyAt l h = l.getD h []:=fun _=>rfl
  have hps:∀ k,(List.range (k+1)).map (polyX c l h) = (List.range k).map (polyX c l h)++[polyX c l h k]:=fun k=>by rw [List.range_succ,List.map_append];rfl
  refine W.lp (fun k:Nat=>[(1,.sl (l.map slI) l.length),(2,.ptr 0 0 0),(5,.ref 16 h 0 h),(6,.int .i64 (h:Int)),(7,.ref (n+32) k 0 k),(8,.int .i64 (k:Int))]) (fun k=>HpW (((Hp.put (fun _=>none) 0 { cells:=[.int .i64 c.R,.int .i64 c.P,.int .i64 c.G,.int .i64 c.H,.int .i64 c.B,.int .i64 c.K],sz:=6 }).put 16 { cells:=rows.map rR,sz:=1,ver:=h,nl:=if h = 0 then 1 else 0 }).put (n+32) { cells:=((List.range k).map (polyX c l h)).map (V.int .i64),sz:=1,ver:=k,nl:=if k = 0 then 1 else 0 }) rows 16 n)
   (fun k=>k≤if 0 < (polyAt l h).length then (c.B+1).toNat else 0) (fun k=>(c.B+1).toNat - k) 0 rfl (HS.refl _) (Nat.zero_le _) ?_
  rintro k nx hk hnx
  have hkl:((List.range k).map (polyX c l h)).length = k:=by simp
  have hsu:=hps k
  have hrow:k = (if 0 < (polyAt l h).length then (c.B+1).toNat else 0)→(List.range k).map (polyX c l h) = polyR c l h:=fun e=>by
   unfold polyR
   by_cases hz:0 < (polyAt l h).length
   ·rw [if_pos hz] at e ⊢;rw [e]
   ·rw [if_neg hz] at e ⊢;rw [e];rfl
  have hfin:k = (if 0 < (polyAt l h).length then (c.B+1).toNat else 0)→∀ n',n+32 < n'→(rows++[(n+32,(List.range k).map (polyX c l h))]).length = h+1∧(rows++[(n+32,(List.range k).map (polyX c l h))]).map Prod.snd = (List.range (h+1)).map (polyR c l)∧BW (rows++[(n+32,(List.range k).map (polyX c l h))]) 16 n'∧32≤n':=fun e n' hn'=>by
   refine ⟨by rw [List.length_append,h2];rfl,?_,h4.snoc (by dsimp only;omega) (by omega),by omega⟩
   rw [List.map_append,h3,List.range_succ,List.map_append,hrow e];rfl
  clear hps
  by_cases hne:0 < (polyAt l h).length
  ·rw [if_pos hne] at hk hrow hfin
   have hhl:h < l.length:=by
    rcases Nat.lt_or_ge h l.length with h7 | h7
    ·exact h7
    ·exfalso;unfold polyAt at hne;rw [List.getD_eq_getElem?_getD,List.getElem?_eq_none h7] at hne;simp at hne
   have hpe:polyAt l h = l[h]:=by unfold polyAt;rw [List.getD_eq_getElem?_getD,List.getElem?_eq_getElem hhl];rfl
   have hxl:=(hx _ (List.getElem_mem hhl)).1
   have hne0:=hne
   rw [hpe] at hne
   by_cases hkB:k < (c.B+1).toNat
   ·by_cases hkx:k < l[h].length
    ·have hv:polyX c l h k = l[h][k] % 18446744073709551616 % c.P:=by
      unfold polyX
      rw [if_pos (by rw [hpe];exact hkx),hpe,List.getD_eq_getElem?_getD,List.getElem?_eq_getElem hkx];rfl
     have hm:=emod_rng (a:=l[h][k] % 18446744073709551616) (P:=c.P) (by omega)
     rw [hv] at hsu
     clear hfin hrow hpe hv
     generalize (List.range k).map (polyX c l h) = Rk at hsu hkl ⊢
     refine W.run ?_
     refine W.kl (k+1) rfl ?_ (by omega) ?_ (by omega)
     ·rw [hsu, List.map_append, if_neg (show ¬ k + 1 = 0 by omega)]
      exact HpW_HS (HS.skip (HS.refl _) (by simp only [Hp.put];repeat (rw [if_neg (by omega)])) _)
     ·rw [if_pos hne0];omega
    ·have hv:polyX c l h k = ((h:Int)+k) % c.P:=by
      unfold polyX
      rw [if_neg (by rw [hpe];exact hkx)]
     have hm:=emod_rng (a:=(h:Int)+k) (P:=c.P) (by omega)
     rw [hv] at hsu
     clear hfin hrow hpe hv
     generalize (List.range k).map (polyX c l h) = Rk at hsu hkl ⊢
     refine W.run ?_
     refine W.kl (k+1) rfl ?_ (by omega) ?_ (by omega)
     ·rw [hsu, List.map_append, if_neg (show ¬ k + 1 = 0 by omega)]
      exact HpW_HS (HS.skip (HS.refl _) (by simp only [Hp.put];repeat (rw [if_neg (by omega)])) _)
     ·rw [if_pos hne0];omega
   ·have hke : k = (c.B + 1).toNat := by omega
    have hf:=hfin hke
    clear hfin hrow hsu hpe
    generalize (List.range k).map (polyX c l h) = Rk at hf hkl ⊢
    refine W.run ?_
    refine W.kl0 _ ?_ ⟨(h+1,rows++[(n+32,Rk)],_),⟨by dsimp only;omega,hf _ (by dsimp only;omega)⟩,rfl,by dsimp only;omega⟩ Nat.zero_lt_one
    dsimp only
    rw [HpW_snoc (n:=n),HpW_put h4 (by omega),List.map_append,if_neg (show ¬ h+1 = 0 by omega)]
    refine HpW_HS ?_
    simp only [rO,rR,List.map_cons,List.map_nil,hkl]
    rw [if_neg (show ¬ k = 0 by omega)]
    exact HS.skip (HS.refl _) (by simp only [Hp.put];repeat (rw [if_neg (by omega)])) _
  ·rw [if_neg hne] at hk hrow hfin
   have hf:=hfin (by omega)
   have hk0:k = 0:=by omega
   clear hfin hrow hsu
   generalize (List.range k).map (polyX c l h) = Rk at hf hkl ⊢
   by_cases hhl:h < l.length
   ·have hpe : polyAt l h = l[h] := by unfold polyAt; rw [List.getD_eq_getElem?_getD, List.getElem?_eq_getElem hhl]; rfl
    rw [hpe] at hne
    clear hpe
    refine W.run ?_
    refine W.kl0 _ ?_ ⟨(h+1,rows++[(n+32,Rk)],_),⟨by dsimp only;omega,hf _ (by dsimp only;omega)⟩,rfl,by dsimp only;omega⟩ Nat.zero_lt_one
    dsimp only
    rw [HpW_snoc (n:=n),HpW_put h4 (by omega),List.map_append,if_neg (show ¬ h+1 = 0 by omega)]
    refine HpW_HS ?_
    simp only [rO,rR,List.map_cons,List.map_nil,hkl]
    rw [if_pos hk0]
    exact HS.skip (HS.refl _) (by simp only [Hp.put];repeat (rw [if_neg (by omega)])) _
   ·refine W.run ?_
    refine W.kl0 _ ?_ ⟨(h+1,rows++[(n+32,Rk)],_),⟨by dsimp only;omega,hf _ (by dsimp only;omega)⟩,rfl,by dsimp only;omega⟩ Nat.zero_lt_one
    dsimp only
    rw [HpW_snoc (n:=n),HpW_put h4 (by omega),List.map_append,if_neg (show ¬ h+1 = 0 by omega)]
    refine HpW_HS ?_
    simp only [rO,rR,List.map_cons,List.map_nil,hkl]
    rw [if_pos hk0]
    exact HS.skip (HS.refl _) (by simp only [Hp.put];repeat (rw [if_neg (by omega)])) _
 ·have hh2 : h = c.H.toNat := by omega
  refine W.run ?_
  have hro:∀ B:Hp,∀ p∈rows,HpW B rows 16 n p.1 = some (rO p.2):=fun B p hp=>HpW_row0 rows h4.1 B p hp
  have h16:∀ p∈rows,p.1≠16:=fun p hp=>by have:=h4.2 p hp;omega
  obtain ⟨H',hH',hoth⟩:=mapS_rR (k:=10) rows _ h4.1 (hro ((Hp.put (fun _=>none) 0 { cells:=[.int .i64 c.R,.int .i64 c.P,.int .i64 c.G,.int .i64 c.H,.int .i64 c.B,.int .i64 c.K],sz:=6 }).put 16 { cells:=rows.map rR,sz:=1,ver:=h }))
  have e16:HpW ((Hp.put (fun _=>none) 0 { cells:=[.int .i64 c.R,.int .i64 c.P,.int .i64 c.G,.int .i64 c.H,.int .i64 c.B,.int .i64 c.K],sz:=6 }).put 16 { cells:=rows.map rR,sz:=1,ver:=h }) rows 16 n 16 = some { cells:=rows.map rR,sz:=1,ver:=h }:=by
   rw [HpW_at h4 (by omega),put_same]
  have h16':=(hoth 16 h16).trans e16
  have hfi:fin 12 (.s 1) (.ref 16 h 0 h) (HpW ((Hp.put (fun _=>none) 0 { cells:=[.int .i64 c.R,.int .i64 c.P,.int .i64 c.G,.int .i64 c.H,.int .i64 c.B,.int .i64 c.K],sz:=6 }).put 16 { cells:=rows.map rR,sz:=1,ver:=h }) rows 16 n) = some (.own ((polysM c l).map slI) c.H.toNat 1,H'.del 16):=by
   rw [fin_sref,e16,finRefO_some (ob:={ cells:=rows.map rR,sz:=1,ver:=h }) ⟨rfl,rfl,rfl,rfl,by dsimp only;rw [hrl];omega,rfl⟩,Nat.mul_one,List.take_of_length_le (by rw [hrl];exact Nat.le_refl _),hH']
   simp only [Option.bind_some,finRef,h16',if_true]
   rw [polysM,← hh2,← h3,List.map_map];rfl
  exact W.retP rfl hfi rfl
end Go.Dp
namespace Go.Dp
open Go.RowKit Go.Proofs
attribute [local irreducible] wp wpOps wpOp1 CallW CallT kSeq kBlk kLoop kReg retP retR kAsg kRound kRf kCut kItr kItr2
set_option linter.unusedVariables false
set_option linter.unusedSimpArgs false
theorem polysM_len (c:Cf) (l:List (List Int)):(polysM c l).length = c.H.toNat:=by simp [polysM]
theorem polyR_ok {c:Cf} (hc:c.Ok) {l:List (List Int)} (hx:∀ p∈l,p.length < 2 ^ 63∧∀ n∈p,B64 n) (h:Nat):(polyR c l h).length≠0→((polyR c l h).length:Int) = c.B+1∧polyE c.P (polyR c l h) = 0:=by
 have hr:=hc.rng
 have hP:=hc.1.hP
 intro hz
 have hl:(polyR c l h).length = (c.B+1).toNat:=by
  unfold polyR at hz ⊢
  split
  ·simp
  ·rename_i hn;rw [if_neg hn] at hz;simp at hz
 refine ⟨by omega,polyE_of (by omega) fun a ha=>?_⟩
 unfold polyR at ha
 split at ha
 ·obtain ⟨k,_,rfl⟩:=List.mem_map.1 ha
  unfold polyX
  split
  ·exact emod_rng (by omega)
  ·exact emod_rng (by omega)
 ·cases ha
theorem polysM_ok {c:Cf} (hc:c.Ok) {l:List (List Int)} (hx:∀ p∈l,p.length < 2 ^ 63∧∀ n∈p,B64 n):∀ q∈polysM c l,q.length≠0→(q.length:Int) = c.B+1∧polyE c.P q = 0:=fun q hq=>by
 obtain ⟨h,_,rfl⟩:=List.mem_map.1 hq
 exact polyR_ok hc hx h
theorem polysM_lt {c:Cf} (hc:c.Ok) {l:List (List Int)} (hx:∀ p∈l,p.length < 2 ^ 63∧∀ n∈p,B64 n):∀ q∈polysM c l,q.length < 2 ^ 20:=fun q hq=>by
 have hr:=hc.rng
 by_cases hz:q.length = 0
 ·omega
 ·have:=(polysM_ok hc hx q hq hz).1;omega
set_option maxRecDepth 10000 in
theorem k23 (c:Cf) (hc:c.Ok) (l:List (List Int)) (hl:l.length < 2 ^ 63) (hx:∀ p∈l,p.length < 2 ^ 63∧∀ n∈p,B64 n) (b:Brd) (hb:b.Ok) (hf:b.fits 100 = true) (lost:List (Int × Int)) (hlost:lost.length < 2 ^ 40):PureC Tryz.prog 23 [c.v,.sl (l.map slI) l.length,bdV b,losV lost] (fun r=>r = bdV (runB c (polysM c l) lost b)):=by
 have hr:=hc.rng
 have hPl:=polysM_len c l
 have c1:=k21 c hc l hl hx
 have c2:=k19 c hc b hb (polysM c l) (polysM_lt hc hx) lost hlost hf (by omega) (fun q hq hz=>(polysM_ok hc hx q hq hz).2)
 generalize runB c (polysM c l) lost b = E at c2 ⊢
 generalize polysM c l = Q at c1 c2 hPl
 refine pureC_of_wp .x mixed ok23 rfl ?_
 unfold c23
 dsimp only [argE,Cf.v,cfgV,bdV]
 change PureC Tryz.prog 19 [c.v,.sl (Q.map slI) Q.length,bdV b,losV lost] _ at c2
 rw [hPl] at c2
 refine W.run ?_
 rfl
def LnA (l:List Ln):Prop:=l.length < 2 ^ 63∧∀ x∈l,x.nums.length < 2 ^ 63∧∀ n∈x.nums,B64 n
abbrev tyLn:Ty:=.cons (.int .i64) (.cons (.int .i64) (.cons (.int .i64) (.cons (.sl (.int .i64)) (.nil))))
theorem ok_ln {l:List V} (h:tyLn.ok l):∃ x:Ln,l = lnK x∧x.nums.length < 2 ^ 63∧∀ n∈x.nums,B64 n:=by
 obtain ⟨a1,a2,rfl,h1,a3,a4,rfl,h2,a5,a6,rfl,h3,a7,a8,rfl,h4,rfl⟩:=h
 obtain ⟨z1,rfl,_⟩:=ok_i64 h1
 obtain ⟨z2,rfl,_⟩:=ok_i64 h2
 obtain ⟨z3,rfl,_⟩:=ok_i64 h3
 obtain ⟨zs,rfl,hl,hz⟩:=ok_longs h4
 exact ⟨⟨z1,z2,z3,zs⟩,rfl,by unfold maxLen at hl;dsimp only;omega,fun n hn=>by have:=hz n hn;unfold B64;omega⟩
theorem ok_lns:∀ {ls:List (List V)},(∀ x∈ls,tyLn.ok x)→∃ L:List Ln,ls.flatten = linC L∧ls.length = L.length∧∀ x∈L,x.nums.length < 2 ^ 63∧∀ n∈x.nums,B64 n
 | [],_=>⟨[],rfl,rfl,by simp⟩
 | l::ls,h=>by
  obtain ⟨x,rfl,hx⟩:=ok_ln (h l (by simp))
  obtain ⟨L,e1,e2,hL⟩:=ok_lns (ls:=ls) fun y hy=>h y (by simp [hy])
  exact ⟨x :: L, by rw [List.flatten_cons, e1]; rfl, by simp [e2], fun y hy => by
   rcases List.mem_cons.1 hy with rfl | hy
   ·exact hx
   ·exact hL y hy⟩
theorem ok_list {l:List V} (h:(Ty.sl tyLn).ok l):∃ L:List Ln,l = [linV L]∧LnA L:=by
 obtain ⟨ls,rfl,hl,hx⟩:=h
 obtain ⟨L,e1,e2,hL⟩:=ok_lns hx
 refine ⟨L,by rw [e1,e2],?_,hL⟩
 rw [← e2];unfold maxLen at hl;omega
abbrev tyBd:Ty:=.cons (.sl tyLn) (.cons (.sl tyLn) (.cons (.sl tyLn) (.cons (.sl tyLn) (.nil))))
theorem okArg_brd {x:V} (h:tyBd.okArg x):∃ b:Brd,x = bdV b∧LnA b.d∧LnA b.c∧LnA b.a∧LnA b.r:=by
 obtain ⟨l,rfl,a1,a2,rfl,h1,a3,a4,rfl,h2,a5,a6,rfl,h3,a7,a8,rfl,h4,rfl⟩:=h
 obtain ⟨d,rfl,w1⟩:=ok_list h1
 obtain ⟨e,rfl,w2⟩:=ok_list h2
 obtain ⟨f,rfl,w3⟩:=ok_list h3
 obtain ⟨g,rfl,w4⟩:=ok_list h4
 exact ⟨⟨d,e,f,g⟩,rfl,w1,w2,w3,w4⟩
theorem okArg_cf {x:V} (h:(Ty.cons (.cons (.int .i64) (.cons (.int .i64) (.cons (.int .i64) (.nil)))) (.cons (.int .i64) (.cons (.int .i64) (.cons (.int .i64) (.nil))))).okArg x):∃ c:Cf,x = c.v∧B64 c.R∧B64 c.P∧B64 c.G∧B64 c.H∧B64 c.B∧B64 c.K:=by
 obtain ⟨l,rfl,a,b,rfl,⟨a1,a2,rfl,h1,a3,a4,rfl,h2,a5,a6,rfl,h3,rfl⟩,b1,b2,rfl,h4,b3,b4,rfl,h5,b5,b6,rfl,h6,rfl⟩:=h
 obtain ⟨z1,rfl,w1⟩:=ok_i64 h1
 obtain ⟨z2,rfl,w2⟩:=ok_i64 h2
 obtain ⟨z3,rfl,w3⟩:=ok_i64 h3
 obtain ⟨z4,rfl,w4⟩:=ok_i64 h4
 obtain ⟨z5,rfl,w5⟩:=ok_i64 h5
 obtain ⟨z6,rfl,w6⟩:=ok_i64 h6
 exact ⟨⟨z1,z2,z3,z4,z5,z6⟩,rfl,w1,w2,w3,w4,w5,w6⟩
theorem cutS_mem {m:Nat} {l:List Ln} (hl:LnA l) (hm:m≤400):LnsB (cutS m l)∧okL 400 (cutS m l) = true:=by
 have hlen:=cutS_len m l
 have hmem:∀ x∈cutS m l,x.nums.length≤64∧∀ n∈x.nums,B64 n:=fun x hx=>by
  unfold cutS at hx
  obtain ⟨y,hy,rfl⟩:=List.mem_map.1 hx
  have:=hl.2 y (List.mem_of_mem_take hy)
  exact ⟨by simp [cutL];omega,fun n hn=>this.2 n (List.mem_of_mem_take hn)⟩
 refine ⟨⟨by omega,fun x hx=>⟨by have:=(hmem x hx).1;omega,(hmem x hx).2⟩⟩,okL_all (by omega) fun x hx=>by have:=(hmem x hx).1;omega⟩
theorem cutB_ok {b:Brd} (h:LnA b.d∧LnA b.c∧LnA b.a∧LnA b.r) {m:Nat} (hm:m≤400):(cutB m b).Ok∧(cutB m b).fits 400 = true:=by
 obtain ⟨h1,h2,h3,h4⟩:=h
 have a1:=cutS_mem h1 hm
 have a2:=cutS_mem h2 hm
 have a3:=cutS_mem h3 hm
 have a4:=cutS_mem h4 hm
 refine ⟨⟨a1.1,a2.1,a3.1,a4.1⟩,?_⟩
 simp only [Brd.fits,cutB,a1.2,a2.2,a3.2,a4.2,Bool.and_self]
theorem LnA.at {b:Brd} (h:LnA b.d∧LnA b.c∧LnA b.a∧LnA b.r):∀ k,k < 4→(b.at k).length < 2 ^ 63∧∀ x∈b.at k,x.nums.length < 2 ^ 63
 | 0,_=>⟨h.1.1,fun x hx=>(h.1.2 x hx).1⟩
 | 1,_=>⟨h.2.1.1,fun x hx=>(h.2.1.2 x hx).1⟩
 | 2,_=>⟨h.2.2.1.1,fun x hx=>(h.2.2.1.2 x hx).1⟩
 | 3,_=>⟨h.2.2.2.1,fun x hx=>(h.2.2.2.2 x hx).1⟩
 | k+4,h=>by omega
theorem fits_mono {b:Brd} {m m':Int} (h:b.fits m = true) (hm:m≤m'):b.fits m' = true:=by
 rw [fits_at] at h ⊢
 intro k hk
 have:=h k hk
 unfold okL at this ⊢
 rw [Bool.and_eq_true,decide_eq_true_eq] at this
 rw [this.2,Bool.and_true,decide_eq_true_eq];omega
theorem cutS_fit {m:Nat} {l:List Ln} (hl:LnA l):okL m (cutS m l) = true:=by
 have hlen:=cutS_len m l
 refine okL_all (by omega) fun x hx=>?_
 unfold cutS at hx
 obtain ⟨y,hy,rfl⟩:=List.mem_map.1 hx
 simp [cutL];omega
theorem cutB_fit {b:Brd} (h:LnA b.d∧LnA b.c∧LnA b.a∧LnA b.r) {m:Nat}:(cutB m b).fits m = true:=by
 simp only [Brd.fits,cutB,cutS_fit h.1,cutS_fit h.2.1,cutS_fit h.2.2.1,cutS_fit h.2.2.2,Bool.and_self]
theorem LnsB.a {l:List Ln} (h:LnsB l):LnA l:=⟨by have:=h.1;omega,fun x hx=>⟨by have:=(h.2 x hx).1;omega,(h.2 x hx).2⟩⟩
theorem Brd.Ok.a {b:Brd} (h:b.Ok):LnA b.d∧LnA b.c∧LnA b.a∧LnA b.r:=⟨h.1.a,h.2.1.a,h.2.2.1.a,h.2.2.2.a⟩
theorem runB_okP {c:Cf} (hc:c.Ok) {l:List (List Int)} (hx:∀ p∈l,p.length < 2 ^ 63∧∀ n∈p,B64 n) (lost:List (Int × Int)) {b:Brd} (hb:b.Ok) (hf:b.fits 100 = true):(runB c (polysM c l) lost b).Ok:=by
 have hr:=hc.rng
 exact runB_ok hc (fun q hq hz=>(polysM_ok hc hx q hq hz).2) (by rw [polysM_len];omega) lost hb hf
theorem okArg_rows {x:V} (h:(Ty.sl (.sl (.int .i64))).okArg x):∃ l:List (List Int),x = .sl (l.map slI) l.length∧l.length < 2 ^ 63∧∀ p∈l,p.length < 2 ^ 63∧∀ n∈p,B64 n:=by
 obtain ⟨ls,rfl,hl,hx⟩:=okArg_sl h
 have key:∀ ls:List (List V),(∀ y∈ls,(Ty.sl (.int .i64)).ok y)→∃ l:List (List Int),ls.flatten = l.map slI∧ls.length = l.length∧∀ p∈l,p.length < 2 ^ 63∧∀ n∈p,B64 n:=by
  intro ls
  induction ls with
  | nil=>intro _;exact ⟨[],rfl,rfl,fun p hp=>by cases hp⟩
  | cons y ls ih =>
   intro h
   obtain ⟨zs,e,hz,hw⟩:=ok_longs (h y (by simp))
   obtain ⟨l,e1,e2,h3⟩:=ih fun z hz=>h z (by simp [hz])
   refine ⟨zs::l,by rw [List.flatten_cons,e,e1];rfl,by simp [e2],fun p hp=>?_⟩
   rcases List.mem_cons.1 hp with rfl | hp
   ·exact ⟨by unfold maxLen at hz;omega,fun n hn=>by have:=hw n hn;unfold B64;omega⟩
   ·exact h3 p hp
 obtain ⟨l,e1,e2,h3⟩:=key ls hx
 exact ⟨l,by rw [e1,e2],by rw [← e2];unfold maxLen at hl;omega,h3⟩
def tysD:List Ty:=[.cons (.cons (.int .i64) (.cons (.int .i64) (.cons (.int .i64) (.nil)))) (.cons (.int .i64) (.cons (.int .i64) (.cons (.int .i64) (.nil)))),.sl (.sl (.int .i64)),.cons (.sl (.cons (.int .i64) (.cons (.int .i64) (.cons (.int .i64) (.cons (.sl (.int .i64)) (.nil)))))) (.cons (.sl (.cons (.int .i64) (.cons (.int .i64) (.cons (.int .i64) (.cons (.sl (.int .i64)) (.nil)))))) (.cons (.sl (.cons (.int .i64) (.cons (.int .i64) (.cons (.int .i64) (.cons (.sl (.int .i64)) (.nil)))))) (.cons (.sl (.cons (.int .i64) (.cons (.int .i64) (.cons (.int .i64) (.cons (.sl (.int .i64)) (.nil)))))) (.nil))))]
theorem okArgs_D {xs:List V} (h:Ty.okArgs tysD xs):∃ c l b,xs = [Cf.v c,.sl (List.map slI l) l.length,bdV b]∧(B64 c.R∧B64 c.P∧B64 c.G∧B64 c.H∧B64 c.B∧B64 c.K)∧l.length < 2 ^ 63∧(∀ p∈l,p.length < 2 ^ 63∧∀ n∈p,B64 n)∧(LnA b.d∧LnA b.c∧LnA b.a∧LnA b.r):=by
 obtain ⟨x,l,rfl,hx,h⟩:=okArgs_cons h
 obtain ⟨y,l,rfl,hy,h⟩:=okArgs_cons h
 obtain ⟨z,l,rfl,hz,h⟩:=okArgs_cons h
 obtain rfl:=okArgs_nil h
 obtain ⟨c,rfl,hc⟩:=okArg_cf hx
 obtain ⟨l,rfl,hl,hw⟩:=okArg_rows hy
 obtain ⟨b,rfl,hb⟩:=okArg_brd hz
 exact ⟨c,l,b,rfl,hc,hl,hw,hb⟩
def third (l:List Ln) (i:Nat):List Ln:=((l.take i).zipIdx.filter fun p=>decide (p.2 % 3≠0)).map Prod.fst
theorem third_succ {l:List Ln} {i:Nat} (hi:i < l.length):third l (i+1) = third l i++if i % 3≠0 then [l[i]] else []:=by
 have e:(l.take i).length = i:=by rw [List.length_take];omega
 unfold third
 rw [← List.take_append_getElem hi,List.zipIdx_append,List.filter_append,List.map_append,e]
 congr 1
 simp only [List.zipIdx_cons,List.zipIdx_nil,Nat.zero_add]
 by_cases h:i % 3≠0
 ·rw [if_pos h,List.filter_cons,if_pos (by simpa using h)];rfl
 ·rw [if_neg h,List.filter_cons,if_neg (by simpa using h)];rfl
theorem third_sub (l:List Ln) (i:Nat):∀ x∈third l i,x∈l:=fun x hx=>by
 unfold third at hx
 obtain ⟨p,hp,rfl⟩:=List.mem_map.1 hx
 have h1:=(List.mem_filter.1 hp).1
 have:=List.mem_of_mem_take (List.fst_mem_of_mem_zipIdx h1)
 exact this
theorem third_len (l:List Ln) (i:Nat):(third l i).length≤l.length:=by
 unfold third
 rw [List.length_map]
 refine Nat.le_trans (List.length_filter_le _ _) ?_
 rw [List.length_zipIdx,List.length_take];omega
theorem linC_tail (l:List Ln):(linC l).drop 4 = linC l.tail:=by cases l <;> rfl
def lessB (b:Brd):Brd:=⟨b.d,b.c,b.a.tail,third b.r b.r.length⟩
theorem lessB_ok {b:Brd} (hb:b.Ok):(lessB b).Ok:=by
 refine ⟨hb.1,hb.2.1,⟨?_,fun x hx=>hb.2.2.1.2 x (List.mem_of_mem_tail hx)⟩,⟨?_,fun x hx=>hb.2.2.2.2 x (third_sub _ _ x hx)⟩⟩
 ·have:=hb.2.2.1.1
  show b.a.tail.length < _
  rw [List.length_tail];omega
 ·have:=third_len b.r b.r.length
  have:=hb.2.2.2.1
  show (third b.r b.r.length).length < _
  omega
def HpT9 (x:Cf) (Y:Brd) (av:V):List Ln→Nat × Nat→Hp
 | [],_=>(((Hp.put (fun _=>none) 40 { cells:=[.int .i64 x.R,.int .i64 x.P,.int .i64 x.G,.int .i64 x.H,.int .i64 x.B,.int .i64 x.K],sz:=6 }).put 192 { cells:=[linV Y.d,linV Y.c,linV Y.a,linV Y.r],sz:=4 }).put 200 { cells:=[linV Y.d,linV Y.c,linV Y.a,linV Y.r],sz:=4 }).put 264 { cells:=[linV Y.d,linV Y.c,av,.nils],sz:=4 }
 | y::l,(id,ver)=>((((Hp.put (fun _=>none) 40 { cells:=[.int .i64 x.R,.int .i64 x.P,.int .i64 x.G,.int .i64 x.H,.int .i64 x.B,.int .i64 x.K],sz:=6 }).put 192 { cells:=[linV Y.d,linV Y.c,linV Y.a,linV Y.r],sz:=4 }).put 200 { cells:=[linV Y.d,linV Y.c,linV Y.a,linV Y.r],sz:=4 }).put 264 { cells:=[linV Y.d,linV Y.c,av,.ref id ver 0 (l.length+1)],sz:=4 }).put id { cells:=linC (y::l),sz:=4,ver:=ver }
set_option maxRecDepth 10000 in
set_option maxHeartbeats 2000000 in
theorem k9_l (x:Cf) (hX:x.Ok) (Y:Brd) (hY:Y.Ok) (hYf:Y.fits 400 = true) (av:V) (hav:VW av (linV Y.a.tail)) (hat:av.atom = true) (n:Nat) (hn:264 < n) :
  wp Tryz.prog Ys.none (rtC (rtC (rtC (rtC (rtC (rtC (rtC (rtC (rtC c9))))))))) (retP [.tmp 6] .x (fun r=>r = .bool true)) ⟨[(7,.ptr 40 0 0),(10,.ptr 192 0 0),(11,.ptr 200 0 0),(12,.ptr 264 0 0)],HpT9 x Y av [] (0,0),n⟩:=by
 have c6:PureC Tryz.prog 13 [bdV (lessB Y),.int .i64 400] (fun r=>r = .tup [bdV (cutB 400 (lessB Y)),bdV (cutB 400 (lessB Y))]):=k13 (lessB Y) (LnA.at (lessB_ok hY).a) 400 (by omega)
 have hcZ:=cutB_ok (lessB_ok hY).a (m:=400) (by omega)
 have c7:=k34 x hX (cutB 400 (lessB Y)) hcZ.1 hcZ.2
 have cA:=k22
 have hrl:=hY.2.2.2.1
 generalize cutB 400 (lessB Y) = Z at c6 c7
 clear hcZ
 unfold c9
 dsimp only [rtC]
 refine W.run ?_
 refine W.loop (fun z:Nat × List Ln × Nat × Nat × Nat=>⟨[(7,.ptr 40 0 0),(10,.ptr 192 0 0),(11,.ptr 200 0 0),(12,.ptr 264 0 0),(13,.int .i64 (z.1:Int))],HpT9 x Y av z.2.1 (z.2.2.1,z.2.2.2.1),z.2.2.2.2⟩)
  (fun z=>z.1≤Y.r.length∧z.2.1 = third Y.r z.1∧(z.2.1≠[]→264 < z.2.2.1∧z.2.2.1 < z.2.2.2.2)∧264 < z.2.2.2.2) (fun z=>Y.r.length - z.1) (0,[],0,0,n+8) ⟨by dsimp only;omega,rfl,fun h=>absurd rfl h,by dsimp only;omega⟩ ?_ rfl (HS.refl _) rfl
 rintro ⟨i,R,id,ver,m⟩ ⟨hi,hR,hid,hm⟩
 dsimp only at hi hR hid hm ⊢
 have hRl:R.length≤Y.r.length:=by rw [hR];exact third_len _ _
 by_cases hil:i < Y.r.length
 ·have hs:=third_succ hil
  rw [← hR] at hs
  clear c6 c7 hY hYf hX hav hR cA
  by_cases h3:i % 3 = 0
  ·rw [if_neg (by omega), List.append_nil] at hs
   cases R with
   | nil =>
    dsimp only [HpT9]
    refine W.run ?_
    refine W.kl0 _ ?_ ⟨(i+1,[],id,ver,_),⟨by dsimp only;omega,hs.symm,fun h=>absurd rfl h,by dsimp only;omega⟩,rfl,by dsimp only;omega⟩ Nat.zero_lt_one <;> exact HS.refl _
   | cons y R =>
    have hid2:=hid (by simp)
    dsimp only [HpT9]
    refine W.run ?_
    refine W.kl0 _ ?_ ⟨(i+1,y::R,id,ver,_),⟨by dsimp only;omega,hs.symm,fun _=>by dsimp only;omega,by dsimp only;omega⟩,rfl,by dsimp only;omega⟩ Nat.zero_lt_one <;> exact HS.refl _
  ·rw [if_pos (by omega)] at hs
   cases R with
   | nil =>
    dsimp only [HpT9]
    refine W.run ?_
    refine W.kl0 (HpT9 x Y av [Y.r[i]] (m+88+56,0)) ?_ ⟨(i+1,[Y.r[i]],m+88+56,0,_),⟨by dsimp only;omega,hs.symm,fun _=>by dsimp only;omega,by dsimp only;omega⟩,rfl,by dsimp only;omega⟩ Nat.zero_lt_one
    dsimp only [HpT9]
    rw [put_comm (show m+88+48≠m+88+56 by omega)]
    exact HS.skip (HS.refl _) (by simp only [Hp.put];repeat (rw [if_neg (by omega)])) _
   | cons y R =>
    have hid2:=hid (by simp)
    have hlc:(linC (y::R)).length = 4 * (R.length+1):=linC_len (y::R)
    have hla:=linC_snoc (y::R) Y.r[i]
    have hRl2:R.length+1≤Y.r.length:=hRl
    dsimp only [HpT9]
    generalize linC (y::R) = C at hlc hla ⊢
    refine W.run ?_
    refine W.kl0 (HpT9 x Y av (y::(R++[Y.r[i]])) (id,ver+1)) ?_ ⟨(i+1,y::(R++[Y.r[i]]),id,ver+1,_),⟨by dsimp only;omega,hs.symm,fun _=>by dsimp only;omega,by dsimp only;omega⟩,rfl,by dsimp only;omega⟩ Nat.zero_lt_one
    dsimp only [HpT9]
    rw [← List.cons_append,hla,List.length_append]
    exact HS.skip (HS.refl _) (by simp only [Hp.put];repeat (rw [if_neg (by omega)])) _
 ·have hie : i = Y.r.length := by omega
  subst hie
  clear hi hil
  cases R with
  | nil =>
   dsimp only [HpT9]
   have c8:=c6.weak (VWL.cons (VW.agg (VWL.cons (.refl (linV Y.d)) (VWL.cons (.refl (linV Y.c)) (VWL.cons hav (VWL.cons (show VW .nils (linV (third Y.r Y.r.length)) by rw [← hR];exact .nils) .nil))))) (VWL.cons (.refl _) .nil))
   clear c6 hav
   refine W.run ?_
   rfl
  | cons y R =>
   have hid2:=hid (by simp)
   have hlc:(linC (y::R)).length = 4 * (R.length+1):=linC_len (y::R)
   have hat2:=linC_atoms (y::R)
   have hRl2:R.length+1≤Y.r.length:=hRl
   dsimp only [HpT9]
   have c8:=c6.weak (VWL.cons (VW.agg (VWL.cons (.refl (linV Y.d)) (VWL.cons (.refl (linV Y.c)) (VWL.cons hav (VWL.cons (show VW (.sl (linC (y::R)) (R.length+1)) (linV (third Y.r Y.r.length)) by rw [← hR];exact .refl _) .nil))))) (VWL.cons (.refl _) .nil))
   clear c6 hav hR
   generalize linC (y::R) = C at hlc hat2 c8 ⊢
   refine W.run ?_
   rfl
set_option maxRecDepth 10000 in
set_option maxHeartbeats 2000000 in
theorem k9 (c:Cf) (hw:B64 c.R∧B64 c.P∧B64 c.G∧B64 c.H∧B64 c.B∧B64 c.K) (l:List (List Int)) (hl:l.length < 2 ^ 63) (hx:∀ p∈l,p.length < 2 ^ 63∧∀ n∈p,B64 n) (b:Brd) (hb:LnA b.d∧LnA b.c∧LnA b.a∧LnA b.r):PureC Tryz.prog 9 [c.v,.sl (l.map slI) l.length,bdV b] (fun r=>r = .bool true):=by
 have hk:=k12 c hw 5 (by omega)
 have c1:PureC Tryz.prog 13 [bdV b,.int .i64 6] (fun r=>r = .tup [bdV (cutB 6 b),bdV (cutB 6 b)]):=k13 b (LnA.at hb) 6 (by omega)
 have hcb:=cutB_ok hb (m:=6) (by omega)
 have hf:=fits_mono (cutB_fit hb (m:=6)) (show (6:Int)≤100 by omega)
 have c2:=fun (x:Cf) (hX:x.Ok)=>(k23 x hX l hl hx (cutB 6 b) hcb.1 hf [] (by simp)).weak (VWL.cons (.refl x.v) (VWL.cons (.refl _) (VWL.cons (.refl _) (VWL.cons .nils .nil))))
 have hB:=fun (x:Cf) (hX:x.Ok)=>runB_okP hX hx [] hcb.1 hf
 have cA:=k22
 generalize cutB 6 b = b6 at c1 c2 hB
 refine pureC_of_wp .x mixed ok9 rfl ?_
 unfold c9
 rw [rep6]
 dsimp only [argE,Cf.v,cfgV,bdV]
 refine W.assoc (W.assoc (W.assoc (W.assoc (W.assoc (W.assoc (W.assoc (W.assoc (W.cut (fun y:Cf × Brd × V=>[(7,.ptr 40 0 0),(10,.ptr 192 0 0),(11,.ptr 200 0 0),(12,.ptr 264 0 0)]) (fun y=>HpT9 y.1 y.2.1 y.2.2 [] (0,0)) (fun y=>y.1.Ok∧y.2.1.Ok∧y.2.1.fits 400 = true∧VW y.2.2 (linV y.2.1.a.tail)∧y.2.2.atom = true) 300 ?_ ?_))))))))
 ·rintro ⟨x,Y,av⟩ n ⟨h1,h2,h3,h4,h5⟩ hn
  exact k9_l x h1 Y h2 h3 av h4 h5 n (by omega)
 intro Gk hG
 refine W.run ?_
 refine W.pc0R hk rfl ⟨_,awC,aw_ok,by decide,by decide,rfl⟩ ?_
 rintro r ⟨x,hX,_,_,rfl⟩
 refine ⟨_,rfl,?_⟩
 have c3:=c2 x hX
 have hBx:=hB x hX
 clear c2 hB hk
 generalize runB x (polysM x l) [] b6 = B at c3 hBx
 have c4:PureC Tryz.prog 13 [bdV B,.int .i64 400] (fun r=>r = .tup [bdV (cutB 400 B),bdV (cutB 400 B)]):=k13 B (LnA.at hBx.a) 400 (by omega)
 have hcY:=cutB_ok hBx.a (m:=400) (by omega)
 generalize cutB 400 B = Y at c4 hcY
 have c5:=k34 x hX Y hcY.1 hcY.2
 clear hBx
 have hal:=hcY.1.2.2.1.1
 have hac:=linC_len Y.a
 by_cases h0:0 < Y.a.length
 ·refine W.run ?_
  refine W.kc hG (x,Y,.sl ((linC Y.a).drop 4) (Y.a.length - 1)) ⟨hX,hcY.1,hcY.2,?_,rfl⟩ (by omega) ?_
  ·dsimp only
   rw [linC_tail,← List.length_tail]
   exact .refl _
  ·exact HS.p (HS.p (HS.p (HS.p (HS.emp _))))
 ·have h1 : Y.a = [] := List.length_eq_zero_iff.1 (by omega)
  refine W.run ?_
  refine W.kc hG (x,Y,.nils) ⟨hX,hcY.1,hcY.2,?_,rfl⟩ (by omega) ?_
  ·dsimp only
   rw [h1]
   exact .nils
  ·exact HS.p (HS.p (HS.p (HS.p (HS.emp _))))
def tys9:List Ty:=tysD
theorem law9:∀ xs,Ty.okArgs tys9 xs→PureC Tryz.prog 9 xs (fun r=>r = .bool true):=by
 intro xs h
 obtain ⟨c,l,b,rfl,hc,hl,hx,hb⟩:=okArgs_D h
 exact k9 c hc l hl hx b hb
end Go.Dp
