/- The law's polys: a polynomial, or none, for each hall. -/
import Derived.Test.YtlbjgnkjicifhaaGreatDwL4
namespace Go.Dp
open Go.RowKit Go.Proofs
attribute [local irreducible] wp wpOps wpOp1 CallW CallT kSeq kBlk kLoop kReg retP retR kAsg kRound kRf kCut kItr kItr2
set_option linter.unusedVariables false
set_option linter.unusedSimpArgs false
def polyX (c:Cf) (l:List (List Int)) (h k:Nat):Int:=if k < (polyAt l h).length then (polyAt l h).getD k 0 % 18446744073709551616 % c.P else ((h:Int)+k) % c.P
def polyR (c:Cf) (l:List (List Int)) (h:Nat):List Int:=if 0 < (polyAt l h).length then (List.range (c.B+1).toNat).map (polyX c l h) else []
def polysM (c:Cf) (l:List (List Int)):List (List Int):=(List.range c.H.toNat).map (polyR c l)
def rO (r:List Int):Ob:={ cells:=r.map (V.int .i64),sz:=1,ver:=r.length,nl:=if r.length = 0 then 1 else 0 }
def rR (p:Nat × List Int):V:=.ref p.1 p.2.length 0 p.2.length
def HpW (B:Hp) (rows:List (Nat × List Int)) (lo n:Nat):Hp:=rows.foldl (fun H p=>H.put p.1 (rO p.2)) B
def BW (rows:List (Nat × List Int)) (lo n:Nat):Prop:=(rows.map Prod.fst).Nodup∧∀ p∈rows,lo < p.1∧p.1 < n
theorem HpW_snoc {B:Hp} {rows:List (Nat × List Int)} {lo n n':Nat} {p:Nat × List Int}:HpW B (rows++[p]) lo n' = (HpW B rows lo n).put p.1 (rO p.2):=by
 unfold HpW;rw [List.foldl_append];rfl
theorem HpW_at0 {i:Nat}:∀ (rows:List (Nat × List Int)) (B:Hp),(∀ p∈rows,p.1≠i)→rows.foldl (fun H p=>H.put p.1 (rO p.2)) B i = B i
 | [],B,_=>rfl
 | p::rows,B,h=>by
  rw [List.foldl_cons,HpW_at0 rows _ fun q hq=>h q (by simp [hq]),put_ne (Ne.symm (h p (by simp)))]
theorem HpW_put0 {i:Nat} {ob:Ob}:∀ (rows:List (Nat × List Int)) (B:Hp),(∀ p∈rows,p.1≠i)→(rows.foldl (fun H p=>H.put p.1 (rO p.2)) B).put i ob = rows.foldl (fun H p=>H.put p.1 (rO p.2)) (B.put i ob)
 | [],B,_=>rfl
 | p::rows,B,h=>by
  rw [List.foldl_cons,List.foldl_cons,HpW_put0 rows _ fun q hq=>h q (by simp [hq]),put_comm (h p (by simp))]
section
variable {B:Hp} {rows:List (Nat × List Int)} {lo n i:Nat} {ob:Ob}
@[go_sem] theorem HpW_at (hb:BW rows lo n) (hi:i≤lo∨n≤i):HpW B rows lo n i = B i :=
 HpW_at0 rows B fun p hp e=>by have:=hb.2 p hp;omega
@[go_sem] theorem HpW_put (hb:BW rows lo n) (hi:i≤lo∨n≤i):(HpW B rows lo n).put i ob = HpW (B.put i ob) rows lo n :=
 HpW_put0 rows B fun p hp e=>by have:=hb.2 p hp;omega
theorem HpW_HS {B':Hp} (h:HS B B'):HS (HpW B rows lo n) (HpW B' rows lo n):=by
 unfold HpW
 induction rows generalizing B B' with
 | nil=>exact h
 | cons p rows ih =>
  rw [List.foldl_cons,List.foldl_cons]
  exact ih fun j x e=>by
   simp only [Hp.put] at e ⊢
   split
   ·rename_i hc;rw [if_pos hc] at e;exact e
   ·rename_i hc;rw [if_neg hc] at e;exact h j x e
end
theorem BW.snoc {rows:List (Nat × List Int)} {lo n n':Nat} {p:Nat × List Int} (h:BW rows lo n) (hp:n≤p.1∧p.1 < n') (hlo:lo < n):BW (rows++[p]) lo n':=by
 refine ⟨?_,fun q hq=>?_⟩
 ·rw [List.map_append]
  refine List.nodup_append.2 ⟨h.1,by simp,fun a ha b hb=>?_⟩
  obtain ⟨q,hq,rfl⟩:=List.mem_map.1 ha
  have:=h.2 q hq
  simp only [List.map_cons,List.map_nil,List.mem_singleton] at hb
  omega
 ·rcases List.mem_append.1 hq with hq | hq
  ·have:=h.2 q hq;omega
  ·rw [List.mem_singleton.1 hq];omega
theorem HpW_row0:∀ (rows:List (Nat × List Int)),(rows.map Prod.fst).Nodup→∀ B:Hp,∀ p∈rows,rows.foldl (fun H p=>H.put p.1 (rO p.2)) B p.1 = some (rO p.2)
 | [],_,B,p,hp=>by cases hp
 | q::rows,hn,B,p,hp=>by
  have hn':=List.nodup_cons.1 hn
  rw [List.foldl_cons]
  rcases List.mem_cons.1 hp with rfl | hp
  ·rw [HpW_at0 rows _ fun r hr e=>hn'.1 (List.mem_map.2 ⟨r,hr,e⟩),put_same]
  ·exact HpW_row0 rows hn'.2 _ p hp
theorem mapS_rR {k:Nat}:∀ (rows:List (Nat × List Int)) (H:Hp),(rows.map Prod.fst).Nodup→(∀ p∈rows,H p.1 = some (rO p.2))→∃ H',mapS (frz (k+1)) (rows.map rR) H = some (rows.map (fun p=>slI p.2),H')∧∀ i,(∀ p∈rows,p.1≠i)→H' i = H i
 | [],H,_,_=>⟨H,rfl,fun _ _=>rfl⟩
 | p::rows,H,hn,h=>by
  have hn':=List.nodup_cons.1 hn
  have h0:=h p (by simp)
  have hmk:H.mark p.1 (0+p.2.length * 1) = H.put p.1 { rO p.2 with fz:=max (rO p.2).fz (0+p.2.length * 1) }:=by unfold Hp.mark;rw [h0]
  obtain ⟨H',hH',ho⟩:=mapS_rR (k:=k) rows (H.mark p.1 (0+p.2.length * 1)) hn'.2 (fun q hq=>by
   rw [hmk,put_ne fun e=>hn'.1 (List.mem_map.2 ⟨q,hq,e⟩)]
   exact h q (by simp [hq]))
  refine ⟨H',?_,fun i hi=>by rw [ho i fun q hq=>hi q (by simp [hq]),hmk,put_ne (Ne.symm (hi p (by simp)))]⟩
  have e:frz (k+1) (rR p) H = some (slI p.2,H.mark p.1 (0+p.2.length * 1)):=by
   have hq:=frzRef_some (n:=k) (o:=p.1) (ver:=p.2.length) (off:=0) (len:=p.2.length) (H:=H) (ob:=rO p.2) ⟨rfl,by simp [rO],rfl⟩
   unfold rR
   rw [frz_ref,h0,hq]
   simp only [rO,List.drop_zero,Nat.mul_one,Nat.zero_add]
   rw [List.take_of_length_le (by simp),mapS_int1]
   rfl
  rw [List.map_cons,mapS,e]
  simp only [Option.bind_some,hH',Option.map_some,List.map_cons]
set_option maxRecDepth 10000 in
set_option maxHeartbeats 2000000 in
theorem k21 (c:Cf) (hc:c.Ok) (l:List (List Int)) (hl:l.length < 2 ^ 63) (hx:∀ p∈l,p.length < 2 ^ 63∧∀ n∈p,B64 n):PureC Tryz.prog 21 [c.v,.sl (l.map slI) l.length] (fun r=>r = .own ((polysM c l).map slI) c.H.toNat 1):=by
 have hr:=hc.rng
 have hP:=hc.1.hP
 clear hc
 refine pureC_of_wp (.s 1) mixed ok21 rfl ?_
 unfold c21
 dsimp only [argE,Cf.v,cfgV]
 refine W.run ?_
 refine W.loop (fun y:Nat × List (Nat × List Int) × Nat=>⟨[(1,.sl (l.map slI) l.length),(2,.ptr 0 0 0),(5,.ref 16 y.1 0 y.1),(6,.int .i64 (y.1:Int))],HpW ((Hp.put (fun _=>none) 0 { cells:=[.int .i64 c.R,.int .i64 c.P,.int .i64 c.G,.int .i64 c.H,.int .i64 c.B,.int .i64 c.K],sz:=6 }).put 16 { cells:=y.2.1.map rR,sz:=1,ver:=y.1,nl:=if y.1 = 0 then 1 else 0 }) y.2.1 16 y.2.2,y.2.2⟩)
  (fun y=>y.1≤c.H.toNat∧y.2.1.length = y.1∧y.2.1.map Prod.snd = (List.range y.1).map (polyR c l)∧BW y.2.1 16 y.2.2∧32≤y.2.2) (fun y=>c.H.toNat - y.1) (0,[],32) ⟨by dsimp only;omega,rfl,rfl,⟨List.nodup_nil,fun p hp=>by cases hp⟩,by dsimp only;omega⟩ ?_ rfl (HS.refl _) rfl
 rintro ⟨h,rows,n⟩ ⟨h1,h2,h3,h4,h5⟩
 dsimp only at h1 h2 h3 h4 h5 ⊢
 have hrl:(rows.map rR).length = h:=by rw [List.length_map];exact h2
 by_cases hh:h < c.H.toNat
 ·refine W.run ?_
  have hpa:h < l.length→polyAt l h = l.getD h []:=fun _=>rfl
  have hps:∀ k,(List.range (k+1)).map (polyX c l h) = (List.range k).map (polyX c l h)++[polyX c l h k]:=fun k=>by rw [List.range_succ,List.map_append];rfl
  refine W.lp (fun k:Nat=>[(1,.sl (l.map slI) l.length),(2,.ptr 0 0 0),(5,.ref 16 h 0 h),(6,.int .i64 (h:Int)),(7,.ref (n+32) k 0 k),(8,.int .i64 (k:Int))]) (fun k=>HpW (((Hp.put (fun _=>none) 0 { cells:=[.int .i64 c.R,.int .i64 c.P,.int .i64 c.G,.int .i64 c.H,.int .i64 c.B,.int .i64 c.K],sz:=6 }).put 16 { cells:=rows.map rR,sz:=1,ver:=h,nl:=if h = 0 then 1 else 0 }).put (n+32) { cells:=((List.range k).map (polyX c l h)).map (V.int .i64),sz:=1,ver:=k,nl:=if k = 0 then 1 else 0 }) rows 16 n)
   (fun k=>k≤if 0 < (polyAt l h).length then (c.B+1).toNat else 0) (fun k=>(c.B+1).toNat - k) 0 rfl (HS.refl _) (Nat.zero_le _) ?_
  rintro k nx hk hnx
  have hkl:((List.range k).map (polyX c l h)).length = k:=by simp
  have hsu:=hps k
  have hrow:k = (if 0 < (polyAt l h).length then (c.B+1).toNat else 0)→(List.range k).map (polyX c l h) = polyR c l h:=fun e=>by
   unfold polyR
   by_cases hz:0 < (polyAt l h).length
   ·rw [if_pos hz] at e ⊢;rw [e]
   ·rw [if_neg hz] at e ⊢;rw [e];rfl
  have hfin:k = (if 0 < (polyAt l h).length then (c.B+1).toNat else 0)→∀ n',n+32 < n'→(rows++[(n+32,(List.range k).map (polyX c l h))]).length = h+1∧(rows++[(n+32,(List.range k).map (polyX c l h))]).map Prod.snd = (List.range (h+1)).map (polyR c l)∧BW (rows++[(n+32,(List.range k).map (polyX c l h))]) 16 n'∧32≤n':=fun e n' hn'=>by
   refine ⟨by rw [List.length_append,h2];rfl,?_,h4.snoc (by dsimp only;omega) (by omega),by omega⟩
   rw [List.map_append,h3,List.range_succ,List.map_append,hrow e];rfl
  clear hps
  by_cases hne:0 < (polyAt l h).length
  ·rw [if_pos hne] at hk hrow hfin
   have hhl:h < l.length:=by
    rcases Nat.lt_or_ge h l.length with h7 | h7
    ·exact h7
    ·exfalso;unfold polyAt at hne;rw [List.getD_eq_getElem?_getD,List.getElem?_eq_none h7] at hne;simp at hne
   have hpe:polyAt l h = l[h]:=by unfold polyAt;rw [List.getD_eq_getElem?_getD,List.getElem?_eq_getElem hhl];rfl
   have hxl:=(hx _ (List.getElem_mem hhl)).1
   have hne0:=hne
   rw [hpe] at hne
   by_cases hkB:k < (c.B+1).toNat
   ·by_cases hkx:k < l[h].length
    ·have hv:polyX c l h k = l[h][k] % 18446744073709551616 % c.P:=by
      unfold polyX
      rw [if_pos (by rw [hpe];exact hkx),hpe,List.getD_eq_getElem?_getD,List.getElem?_eq_getElem hkx];rfl
     have hm:=emod_rng (a:=l[h][k] % 18446744073709551616) (P:=c.P) (by omega)
     rw [hv] at hsu
     clear hfin hrow hpe hv
     generalize (List.range k).map (polyX c l h) = Rk at hsu hkl ⊢
     refine W.run ?_
     refine W.kl (k+1) rfl ?_ (by omega) ?_ (by omega)
     ·rw [hsu, List.map_append, if_neg (show ¬ k + 1 = 0 by omega)]
      exact HpW_HS (HS.skip (HS.refl _) (by simp only [Hp.put];repeat (rw [if_neg (by omega)])) _)
     ·rw [if_pos hne0];omega
    ·have hv:polyX c l h k = ((h:Int)+k) % c.P:=by
      unfold polyX
      rw [if_neg (by rw [hpe];exact hkx)]
     have hm:=emod_rng (a:=(h:Int)+k) (P:=c.P) (by omega)
     rw [hv] at hsu
     clear hfin hrow hpe hv
     generalize (List.range k).map (polyX c l h) = Rk at hsu hkl ⊢
     refine W.run ?_
     refine W.kl (k+1) rfl ?_ (by omega) ?_ (by omega)
     ·rw [hsu, List.map_append, if_neg (show ¬ k + 1 = 0 by omega)]
      exact HpW_HS (HS.skip (HS.refl _) (by simp only [Hp.put];repeat (rw [if_neg (by omega)])) _)
     ·rw [if_pos hne0];omega
   ·have hke : k = (c.B + 1).toNat := by omega
    have hf:=hfin hke
    clear hfin hrow hsu hpe
    generalize (List.range k).map (polyX c l h) = Rk at hf hkl ⊢
    refine W.run ?_
    refine W.kl0 _ ?_ ⟨(h+1,rows++[(n+32,Rk)],_),⟨by dsimp only;omega,hf _ (by dsimp only;omega)⟩,rfl,by dsimp only;omega⟩ Nat.zero_lt_one
    dsimp only
    rw [HpW_snoc (n:=n),HpW_put h4 (by omega),List.map_append,if_neg (show ¬ h+1 = 0 by omega)]
    refine HpW_HS ?_
    simp only [rO,rR,List.map_cons,List.map_nil,hkl]
    rw [if_neg (show ¬ k = 0 by omega)]
    exact HS.skip (HS.refl _) (by simp only [Hp.put];repeat (rw [if_neg (by omega)])) _
  ·rw [if_neg hne] at hk hrow hfin
   have hf:=hfin (by omega)
   have hk0:k = 0:=by omega
   clear hfin hrow hsu
   generalize (List.range k).map (polyX c l h) = Rk at hf hkl ⊢
   by_cases hhl:h < l.length
   ·have hpe : polyAt l h = l[h] := by unfold polyAt; rw [List.getD_eq_getElem?_getD, List.getElem?_eq_getElem hhl]; rfl
    rw [hpe] at hne
    clear hpe
    refine W.run ?_
    refine W.kl0 _ ?_ ⟨(h+1,rows++[(n+32,Rk)],_),⟨by dsimp only;omega,hf _ (by dsimp only;omega)⟩,rfl,by dsimp only;omega⟩ Nat.zero_lt_one
    dsimp only
    rw [HpW_snoc (n:=n),HpW_put h4 (by omega),List.map_append,if_neg (show ¬ h+1 = 0 by omega)]
    refine HpW_HS ?_
    simp only [rO,rR,List.map_cons,List.map_nil,hkl]
    rw [if_pos hk0]
    exact HS.skip (HS.refl _) (by simp only [Hp.put];repeat (rw [if_neg (by omega)])) _
   ·refine W.run ?_
    refine W.kl0 _ ?_ ⟨(h+1,rows++[(n+32,Rk)],_),⟨by dsimp only;omega,hf _ (by dsimp only;omega)⟩,rfl,by dsimp only;omega⟩ Nat.zero_lt_one
    dsimp only
    rw [HpW_snoc (n:=n),HpW_put h4 (by omega),List.map_append,if_neg (show ¬ h+1 = 0 by omega)]
    refine HpW_HS ?_
    simp only [rO,rR,List.map_cons,List.map_nil,hkl]
    rw [if_pos hk0]
    exact HS.skip (HS.refl _) (by simp only [Hp.put];repeat (rw [if_neg (by omega)])) _
 ·have hh2 : h = c.H.toNat := by omega
  refine W.run ?_
  have hro:∀ B:Hp,∀ p∈rows,HpW B rows 16 n p.1 = some (rO p.2):=fun B p hp=>HpW_row0 rows h4.1 B p hp
  have h16:∀ p∈rows,p.1≠16:=fun p hp=>by have:=h4.2 p hp;omega
  obtain ⟨H',hH',hoth⟩:=mapS_rR (k:=10) rows _ h4.1 (hro ((Hp.put (fun _=>none) 0 { cells:=[.int .i64 c.R,.int .i64 c.P,.int .i64 c.G,.int .i64 c.H,.int .i64 c.B,.int .i64 c.K],sz:=6 }).put 16 { cells:=rows.map rR,sz:=1,ver:=h }))
  have e16:HpW ((Hp.put (fun _=>none) 0 { cells:=[.int .i64 c.R,.int .i64 c.P,.int .i64 c.G,.int .i64 c.H,.int .i64 c.B,.int .i64 c.K],sz:=6 }).put 16 { cells:=rows.map rR,sz:=1,ver:=h }) rows 16 n 16 = some { cells:=rows.map rR,sz:=1,ver:=h }:=by
   rw [HpW_at h4 (by omega),put_same]
  have h16':=(hoth 16 h16).trans e16
  have hfi:fin 12 (.s 1) (.ref 16 h 0 h) (HpW ((Hp.put (fun _=>none) 0 { cells:=[.int .i64 c.R,.int .i64 c.P,.int .i64 c.G,.int .i64 c.H,.int .i64 c.B,.int .i64 c.K],sz:=6 }).put 16 { cells:=rows.map rR,sz:=1,ver:=h }) rows 16 n) = some (.own ((polysM c l).map slI) c.H.toNat 1,H'.del 16):=by
   rw [fin_sref,e16,finRefO_some (ob:={ cells:=rows.map rR,sz:=1,ver:=h }) ⟨rfl,rfl,rfl,rfl,by dsimp only;rw [hrl];omega,rfl⟩,Nat.mul_one,List.take_of_length_le (by rw [hrl];exact Nat.le_refl _),hH']
   simp only [Option.bind_some,finRef,h16',if_true]
   rw [polysM,← hh2,← h3,List.map_map];rfl
  exact W.retP rfl hfi rfl
end Go.Dp
