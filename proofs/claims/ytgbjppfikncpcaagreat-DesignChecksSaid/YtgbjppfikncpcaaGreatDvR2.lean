import Derived.Test.YtgbjppfikncpcaaGreatDvM5
namespace Go.Dp
open Go.RowKit Go.Proofs
attribute [local irreducible] wp wpOps wpOp1 CallW CallT kSeq kBlk kLoop kReg retP retR kAsg kRound kRf kCut kItr kItr2
set_option linter.unusedVariables false
set_option linter.unusedSimpArgs false
set_option maxRecDepth 10000 in
theorem k42 (l:List Int) (n:Int) (hl:l.length < 2 ^ 40):PureC Tryz.prog 42 [slI l,.int .i64 n] (fun r=>r = .bool (decide (n∈l))):=by
 refine pureC_of_wp .x mixed ok42 rfl ?_
 unfold c42
 dsimp only [argE]
 refine W.run ?_
 refine W.lp (fun i:Nat=>[(0,slI l),(1,.int .i64 n),(5,.int .i64 (i:Int))]) (fun _ _=>none) (fun i=>i≤l.length∧decide (n∈l) = decide (n∈l.drop i)) (fun i=>l.length - i) 0 rfl (HS.refl _) ⟨by omega,rfl⟩ ?_
 rintro i nx ⟨hi,hI⟩ hnx
 by_cases hil:i < l.length
 ·rw [List.drop_eq_getElem_cons hil] at hI
  by_cases he:l[i] = n
  ·rw [hI, decide_eq_true (by rw [he]; simp)]
   clear hI
   refine W.run ?_
   rfl
  ·have h2:decide (n∈l[i]::l.drop (i+1)) = decide (n∈l.drop (i+1)):=by
    rw [decide_eq_decide,List.mem_cons]
    exact ⟨fun h=>h.resolve_left fun e=>he e.symm,.inr⟩
   rw [h2] at hI
   clear h2
   refine W.run ?_
   exact W.kl (i+1) rfl (HS.refl _) (by omega) ⟨by omega,hI⟩ (by omega)
 ·rw [List.drop_of_length_le (by omega)] at hI
  rw [hI]
  clear hI
  refine W.run ?_
  rfl
theorem k23 (a b c d e a' b' c' d' e':Int):PureC Tryz.prog 23 [parV a b c d e,parV a' b' c' d' e'] (fun r=>r = .bool (decide ((a,b,c,d,e) = (a',b',c',d',e')))):=by
 refine pureC_of_wp .x mixed ok23 rfl ?_
 unfold c23
 dsimp only [argE,parV]
 by_cases h1:a = a'
 ·by_cases h2:b = b'
  ·by_cases h3:c = c'
   ·by_cases h4:d = d'
    ·by_cases h5:e = e'
     ·rw [decide_eq_true (by rw [h1, h2, h3, h4, h5])]
      refine W.run ?_
      rfl
     ·rw [decide_eq_false (fun h => h5 (by injection h with _ h; injection h with _ h; injection h with _ h; injection h))]
      refine W.run ?_
      rfl
    ·rw [decide_eq_false (fun h => h4 (by injection h with _ h; injection h with _ h; injection h with _ h; injection h))]
     refine W.run ?_
     rfl
   ·rw [decide_eq_false (fun h => h3 (by injection h with _ h; injection h with _ h; injection h))]
    refine W.run ?_
    rfl
  ·rw [decide_eq_false (fun h => h2 (by injection h with _ h; injection h))]
   refine W.run ?_
   rfl
 ·rw [decide_eq_false (fun h => h1 (by injection h))]
  refine W.run ?_
  rfl
set_option maxRecDepth 10000 in
theorem k19 (A B:List (List Int)) (hA:A.length < 2 ^ 40∧∀ a∈A,a.length < 2 ^ 40) (hB:B.length < 2 ^ 40∧∀ b∈B,b.length < 2 ^ 40):PureC Tryz.prog 19 [rowsV A,rowsV B] (fun r=>r = .bool (decide (A = B))):=by
 refine pureC_of_wp .x mixed ok19 rfl ?_
 unfold c19
 dsimp only [argE]
 by_cases hl:A.length = B.length
 ·refine W.run ?_
  refine W.lp (fun i:Nat=>[(0,rowsV A),(1,rowsV B),(5,.int .i64 (i:Int))]) (fun _ _=>none) (fun i=>i≤A.length∧A.take i = B.take i) (fun i=>A.length - i) 0 rfl (HS.refl _) ⟨by omega,by simp⟩ ?_
  rintro i nx ⟨hi,hI⟩ hnx
  by_cases hil:i < A.length
  ·have hil2 : i < B.length := by omega
   have ht:=eq_take hil hil2 hI
   have c9:=k9 A[i] B[i] (hA.2 _ (List.getElem_mem hil)) (hB.2 _ (List.getElem_mem hil2))
   by_cases he:A[i] = B[i]
   ·have h2:=ht.2 he
    rw [decide_eq_true he] at c9
    clear ht hI he
    refine W.run ?_
    exact W.kl (i+1) rfl (HS.refl _) (by omega) ⟨by omega,h2⟩ (by omega)
   ·have hne : A ≠ B := fun e => by subst e; exact he rfl
    rw [decide_eq_false he] at c9
    rw [decide_eq_false hne]
    clear ht hI hne he
    refine W.run ?_
    rfl
  ·have hE : A = B := by rwa [List.take_of_length_le (by omega), List.take_of_length_le (by omega)] at hI
   rw [decide_eq_true hE]
   clear hI hE
   refine W.run ?_
   rfl
 ·rw [decide_eq_false (fun e => hl (by rw [e]))]
  refine W.run ?_
  rfl
def rO (r:List Int):Ob:={ cells:=r.map (V.int .i64),sz:=1,ver:=r.length,nl:=if r.length = 0 then 1 else 0 }
def rR (p:Nat × List Int):V:=.ref p.1 p.2.length 0 p.2.length
def HpW (B:Hp) (rows:List (Nat × List Int)) (lo n:Nat):Hp:=rows.foldl (fun H p=>H.put p.1 (rO p.2)) B
def BW (rows:List (Nat × List Int)) (lo n:Nat):Prop:=(rows.map Prod.fst).Nodup∧∀ p∈rows,lo < p.1∧p.1 < n
theorem HpW_snoc {B:Hp} {rows:List (Nat × List Int)} {lo n n':Nat} {p:Nat × List Int}:HpW B (rows++[p]) lo n' = (HpW B rows lo n).put p.1 (rO p.2):=by
 unfold HpW;rw [List.foldl_append];rfl
theorem HpW_at0 {i:Nat}:∀ (rows:List (Nat × List Int)) (B:Hp),(∀ p∈rows,p.1≠i)→rows.foldl (fun H p=>H.put p.1 (rO p.2)) B i = B i
 | [],B,_=>rfl
 | p::rows,B,h=>by
  rw [List.foldl_cons,HpW_at0 rows _ fun q hq=>h q (by simp [hq]),put_ne (Ne.symm (h p (by simp)))]
theorem HpW_put0 {i:Nat} {ob:Ob}:∀ (rows:List (Nat × List Int)) (B:Hp),(∀ p∈rows,p.1≠i)→(rows.foldl (fun H p=>H.put p.1 (rO p.2)) B).put i ob = rows.foldl (fun H p=>H.put p.1 (rO p.2)) (B.put i ob)
 | [],B,_=>rfl
 | p::rows,B,h=>by
  rw [List.foldl_cons,List.foldl_cons,HpW_put0 rows _ fun q hq=>h q (by simp [hq]),put_comm (h p (by simp))]
section
variable {B:Hp} {rows:List (Nat × List Int)} {lo n i:Nat} {ob:Ob}
@[go_sem] theorem HpW_at (hb:BW rows lo n) (hi:i≤lo∨n≤i):HpW B rows lo n i = B i :=
 HpW_at0 rows B fun p hp e=>by have:=hb.2 p hp;omega
@[go_sem] theorem HpW_put (hb:BW rows lo n) (hi:i≤lo∨n≤i):(HpW B rows lo n).put i ob = HpW (B.put i ob) rows lo n :=
 HpW_put0 rows B fun p hp e=>by have:=hb.2 p hp;omega
theorem HpW_HS {B':Hp} (h:HS B B'):HS (HpW B rows lo n) (HpW B' rows lo n):=by
 unfold HpW
 induction rows generalizing B B' with
 | nil=>exact h
 | cons p rows ih =>
  rw [List.foldl_cons,List.foldl_cons]
  exact ih fun j x e=>by
   simp only [Hp.put] at e ⊢
   split
   ·rename_i hc;rw [if_pos hc] at e;exact e
   ·rename_i hc;rw [if_neg hc] at e;exact h j x e
end
theorem BW.snoc {rows:List (Nat × List Int)} {lo n n':Nat} {p:Nat × List Int} (h:BW rows lo n) (hp:n≤p.1∧p.1 < n') (hlo:lo < n):BW (rows++[p]) lo n':=by
 refine ⟨?_,fun q hq=>?_⟩
 ·rw [List.map_append]
  refine List.nodup_append.2 ⟨h.1,by simp,fun a ha b hb=>?_⟩
  obtain ⟨q,hq,rfl⟩:=List.mem_map.1 ha
  have:=h.2 q hq
  simp only [List.map_cons,List.map_nil,List.mem_singleton] at hb
  omega
 ·rcases List.mem_append.1 hq with hq | hq
  ·have:=h.2 q hq;omega
  ·rw [List.mem_singleton.1 hq];omega
theorem HpW_row0:∀ (rows:List (Nat × List Int)),(rows.map Prod.fst).Nodup→∀ B:Hp,∀ p∈rows,rows.foldl (fun H p=>H.put p.1 (rO p.2)) B p.1 = some (rO p.2)
 | [],_,B,p,hp=>by cases hp
 | q::rows,hn,B,p,hp=>by
  have hn':=List.nodup_cons.1 hn
  rw [List.foldl_cons]
  rcases List.mem_cons.1 hp with rfl | hp
  ·rw [HpW_at0 rows _ fun r hr e=>hn'.1 (List.mem_map.2 ⟨r,hr,e⟩),put_same]
  ·exact HpW_row0 rows hn'.2 _ p hp
theorem mapS_rR {k:Nat}:∀ (rows:List (Nat × List Int)) (H:Hp),(rows.map Prod.fst).Nodup→(∀ p∈rows,H p.1 = some (rO p.2))→∃ H',mapS (frz (k+1)) (rows.map rR) H = some (rows.map (fun p=>slI p.2),H')∧∀ i,(∀ p∈rows,p.1≠i)→H' i = H i
 | [],H,_,_=>⟨H,rfl,fun _ _=>rfl⟩
 | p::rows,H,hn,h=>by
  have hn':=List.nodup_cons.1 hn
  have h0:=h p (by simp)
  have hmk:H.mark p.1 (0+p.2.length * 1) = H.put p.1 { rO p.2 with fz:=max (rO p.2).fz (0+p.2.length * 1) }:=by unfold Hp.mark;rw [h0]
  obtain ⟨H',hH',ho⟩:=mapS_rR (k:=k) rows (H.mark p.1 (0+p.2.length * 1)) hn'.2 (fun q hq=>by
   rw [hmk,put_ne fun e=>hn'.1 (List.mem_map.2 ⟨q,hq,e⟩)]
   exact h q (by simp [hq]))
  refine ⟨H',?_,fun i hi=>by rw [ho i fun q hq=>hi q (by simp [hq]),hmk,put_ne (Ne.symm (hi p (by simp)))]⟩
  have e:frz (k+1) (rR p) H = some (slI p.2,H.mark p.1 (0+p.2.length * 1)):=by
   have hq:=frzRef_some (n:=k) (o:=p.1) (ver:=p.2.length) (off:=0) (len:=p.2.length) (H:=H) (ob:=rO p.2) ⟨rfl,by simp [rO],rfl⟩
   unfold rR
   rw [frz_ref,h0,hq]
   simp only [rO,List.drop_zero,Nat.mul_one,Nat.zero_add]
   rw [List.take_of_length_le (by simp),mapS_int1]
   rfl
  rw [List.map_cons,mapS,e]
  simp only [Option.bind_some,hH',Option.map_some,List.map_cons]
theorem frz_rowsW {B:Hp} {rows:List (Nat × List Int)} {lo n o ver nq k:Nat} (hb:BW rows lo n) (ho:o≤lo∨n≤o) (hB:B o = some { cells:=rows.map rR,sz:=1,ver:=ver,nl:=nq }):∃ H',frz (k+2) (.ref o ver 0 rows.length) (HpW B rows lo n) = some (rowsV (rows.map Prod.snd),H'):=by
 have hro:∀ p∈rows,HpW B rows lo n p.1 = some (rO p.2):=fun p hp=>HpW_row0 rows hb.1 B p hp
 obtain ⟨H',hH',_⟩:=mapS_rR (k:=k) rows _ hb.1 hro
 refine ⟨H'.mark o (0+rows.length * 1),?_⟩
 have e1:HpW B rows lo n o = some { cells:=rows.map rR,sz:=1,ver:=ver,nl:=nq }:=by rw [HpW_at hb ho,hB]
 have hq:=frzRef_some (n:=k+1) (o:=o) (ver:=ver) (off:=0) (len:=rows.length) (H:=HpW B rows lo n) (ob:={ cells:=rows.map rR,sz:=1,ver:=ver,nl:=nq }) ⟨rfl,by simp,rfl⟩
 rw [frz_ref,e1,hq]
 simp only [List.drop_zero,Nat.mul_one]
 rw [List.take_of_length_le (by simp),hH']
 simp only [Option.map_some]
 have e3:(rows.map Prod.snd).map slI = rows.map fun p=>slI p.2:=by rw [List.map_map];rfl
 show _ = some (V.sl ((rows.map Prod.snd).map slI) (rows.map Prod.snd).length,_)
 rw [e3,List.length_map]
def compK (b:List Int) (k:Nat):List Int:=((List.range k).map fun x:Nat=>(x:Int)).filter fun x=>!decide (x∈b)
theorem compK_succ {b:List Int} {k:Nat}:compK b (k+1) = compK b k++if (k:Int)∈b then [] else [(k:Int)]:=by
 unfold compK
 rw [List.range_succ,List.map_append,List.filter_append]
 congr 1
 by_cases h:(k:Int)∈b <;> simp [h]
theorem compK_len {b:List Int} {k:Nat}:(compK b k).length≤k:=by
 unfold compK
 have:=List.length_filter_le (fun x=>!decide (x∈b)) ((List.range k).map fun x:Nat=>(x:Int))
 rw [List.length_map,List.length_range] at this
 exact this
def compM (v:Nat) (bs:List (List Int)):List (List Int):=bs.map fun b=>compK b v
set_option maxRecDepth 10000 in
set_option maxHeartbeats 2000000 in
theorem k28 (v:Nat) (hv:v≤200) (bs:List (List Int)) (hl:bs.length≤2000) (hb:∀ b∈bs,b.length < 2 ^ 40):PureC Tryz.prog 28 [.int .i64 (v:Int),rowsV bs] (fun r=>r = rowsV (compM v bs)):=by
 refine pureC_of_wp .x mixed ok28 rfl ?_
 unfold c28
 dsimp only [argE]
 refine W.run ?_
 refine W.loop (fun y:Nat × List (Nat × List Int) × Nat=>⟨[(0,.int .i64 (v:Int)),(1,rowsV bs),(5,.ref 8 y.1 0 y.1),(6,.int .i64 (y.1:Int))],HpW (Hp.put (fun _=>none) 8 { cells:=y.2.1.map rR,sz:=1,ver:=y.1,nl:=if y.1 = 0 then 1 else 0 }) y.2.1 8 y.2.2,y.2.2⟩)
  (fun y=>y.1≤bs.length∧y.2.1.length = y.1∧y.2.1.map Prod.snd = compM v (bs.take y.1)∧BW y.2.1 8 y.2.2∧24≤y.2.2) (fun y=>bs.length - y.1) (0,[],24) ⟨by dsimp only;omega,rfl,rfl,⟨List.nodup_nil,fun p hp=>by cases hp⟩,by dsimp only;omega⟩ ?_ rfl (HS.refl _) rfl
 rintro ⟨i,rows,n⟩ ⟨h1,h2,h3,h4,h5⟩
 dsimp only at h1 h2 h3 h4 h5 ⊢
 have hrl:(rows.map rR).length = i:=by rw [List.length_map];exact h2
 by_cases hh:i < bs.length
 ·have hbi:=hb _ (List.getElem_mem hh)
  refine W.run ?_
  refine W.lp (fun x:Nat=>[(0,.int .i64 (v:Int)),(1,rowsV bs),(5,.ref 8 i 0 i),(6,.int .i64 (i:Int)),(7,.ref (n+32) (compK bs[i] x).length 0 (compK bs[i] x).length),(8,.int .i64 (x:Int))]) (fun x=>HpW ((Hp.put (fun _=>none) 8 { cells:=rows.map rR,sz:=1,ver:=i,nl:=if i = 0 then 1 else 0 }).put (n+32) (rO (compK bs[i] x))) rows 8 n) (fun x=>x≤v) (fun x=>v - x) 0 rfl (HS.refl _) (Nat.zero_le _) ?_
  rintro x nx hx hnx
  have hkl:=compK_len (b:=bs[i]) (k:=x)
  by_cases hxv:x < v
  ·have hs:=compK_succ (b:=bs[i]) (k:=x)
   have c42:=k42 bs[i] (x:Int) hbi
   generalize compK bs[i] x = R at hs hkl ⊢
   dsimp only [rO]
   by_cases hm:(x:Int)∈bs[i]
   ·rw [if_pos hm,List.append_nil] at hs
    rw [decide_eq_true hm] at c42
    clear hm
    refine W.run ?_
    exact W.kl (x+1) (by rw [hs];rfl) (by rw [hs];exact HS.refl _) (by omega) (by omega) (by omega)
   ·rw [if_neg hm] at hs
    rw [decide_eq_false hm] at c42
    clear hm
    refine W.run ?_
    refine W.kl (x+1) (by rw [hs,List.length_append];rfl) ?_ (by omega) (by omega) (by omega)
    rw [hs]
    rw [List.length_append,List.length_singleton,List.map_append,if_neg (show ¬ R.length+1 = 0 by omega)]
    exact HpW_HS (HS.skip (HS.refl _) (by repeat rw [put_ne (by omega)]) _)
  ·have hxe : x = v := by omega
   subst hxe
   have hf:(rows++[(n+32,compK bs[i] x)]).map Prod.snd = compM x (bs.take (i+1)):=by
    rw [List.map_append,h3,← List.take_append_getElem hh]
    unfold compM
    rw [List.map_append];rfl
   generalize compK bs[i] x = R at hkl hf ⊢
   dsimp only [rO]
   refine W.run ?_
   refine W.kl0 _ ?_ ⟨(i+1,rows++[(n+32,R)],_),⟨by dsimp only;omega,by rw [List.length_append,h2];rfl,hf,h4.snoc (by dsimp only;omega) (by omega),by dsimp only;omega⟩,rfl,by dsimp only;omega⟩ Nat.zero_lt_one
   dsimp only
   rw [HpW_snoc (n:=n),HpW_put h4 (by omega),List.map_append,if_neg (show ¬ i+1 = 0 by omega)]
   refine HpW_HS ?_
   simp only [rO,rR,List.map_cons,List.map_nil]
   exact HS.skip (HS.refl _) (by repeat rw [put_ne (by omega)]) _
 ·have hie : i = bs.length := by omega
  rw [hie,List.take_length] at h3
  refine W.run ?_
  obtain ⟨H',hf⟩:=frz_rowsW (k:=10) (o:=8) (ver:=i) (nq:=if i = 0 then 1 else 0) h4 (by omega) put_same
  rw [h2,h3] at hf
  exact W.retP rfl (by rw [fin_x];exact hf) rfl
end Go.Dp
namespace Go.Dp
open Go.RowKit Go.Proofs
attribute [local irreducible] wp wpOps wpOp1 CallW CallT kSeq kBlk kLoop kReg retP retR kAsg kRound kRf kCut kItr kItr2
set_option linter.unusedVariables false
set_option linter.unusedSimpArgs false
def dualK (bs:List (List Int)) (x:Nat) (k:Nat):List Int:=((List.range k).filter fun i=>decide ((x:Int)∈bs.getD i [])).map fun i:Nat=>(i:Int)
theorem dualK_succ {bs:List (List Int)} {x k:Nat} (h:k < bs.length):dualK bs x (k+1) = dualK bs x k++if (x:Int)∈bs[k] then [(k:Int)] else []:=by
 unfold dualK
 rw [List.range_succ,List.filter_append,List.map_append]
 congr 1
 have e:=getD_at (d:=([]:List Int)) h
 by_cases hm:(x:Int)∈bs[k]
 ·rw [if_pos hm,List.filter_cons,e,if_pos (by simp [hm])];rfl
 ·rw [if_neg hm,List.filter_cons,e,if_neg (by simp [hm])];rfl
theorem dualK_len {bs:List (List Int)} {x k:Nat}:(dualK bs x k).length≤k:=by
 unfold dualK
 rw [List.length_map]
 have:=List.length_filter_le (fun i=>decide ((x:Int)∈bs.getD i [])) (List.range k)
 rw [List.length_range] at this
 exact this
def dualM (v:Nat) (bs:List (List Int)) (k:Nat):List (List Int):=(List.range v).map fun x=>dualK bs x k
set_option maxRecDepth 10000 in
set_option maxHeartbeats 2000000 in
theorem k27 (v:Nat) (hv:v≤200) (bs:List (List Int)) (hl:bs.length≤2000) (hb:∀ b∈bs,b.length < 2 ^ 40):PureC Tryz.prog 27 [.int .i64 (v:Int),rowsV bs] (fun r=>r = rowsV (dualM v bs bs.length)):=by
 refine pureC_of_wp .x mixed ok27 rfl ?_
 unfold c27
 dsimp only [argE]
 refine W.run ?_
 refine W.loop (fun y:Nat × List (Nat × List Int) × Nat=>⟨[(0,.int .i64 (v:Int)),(1,rowsV bs),(5,.ref 8 y.1 0 y.1),(6,.int .i64 (y.1:Int))],HpW (Hp.put (fun _=>none) 8 { cells:=y.2.1.map rR,sz:=1,ver:=y.1,nl:=if y.1 = 0 then 1 else 0 }) y.2.1 8 y.2.2,y.2.2⟩)
  (fun y=>y.1≤v∧y.2.1.length = y.1∧y.2.1.map Prod.snd = dualM y.1 bs bs.length∧BW y.2.1 8 y.2.2∧24≤y.2.2) (fun y=>v - y.1) (0,[],24) ⟨by dsimp only;omega,rfl,rfl,⟨List.nodup_nil,fun p hp=>by cases hp⟩,by dsimp only;omega⟩ ?_ rfl (HS.refl _) rfl
 rintro ⟨i,rows,n⟩ ⟨h1,h2,h3,h4,h5⟩
 dsimp only at h1 h2 h3 h4 h5 ⊢
 have hrl:(rows.map rR).length = i:=by rw [List.length_map];exact h2
 by_cases hh:i < v
 ·refine W.run ?_
  refine W.lp (fun x:Nat=>[(0,.int .i64 (v:Int)),(1,rowsV bs),(5,.ref 8 i 0 i),(6,.int .i64 (i:Int)),(7,.ref (n+24) (dualK bs i x).length 0 (dualK bs i x).length),(8,.int .i64 (x:Int))]) (fun x=>HpW ((Hp.put (fun _=>none) 8 { cells:=rows.map rR,sz:=1,ver:=i,nl:=if i = 0 then 1 else 0 }).put (n+24) (rO (dualK bs i x))) rows 8 n) (fun x=>x≤bs.length) (fun x=>bs.length - x) 0 rfl (HS.refl _) (Nat.zero_le _) ?_
  rintro x nx hx hnx
  have hkl:=dualK_len (bs:=bs) (x:=i) (k:=x)
  by_cases hxv:x < bs.length
  ·have hbi:=hb _ (List.getElem_mem hxv)
   have hs:=dualK_succ (x:=i) hxv
   have c42:=k42 bs[x] (i:Int) hbi
   generalize dualK bs i x = R at hs hkl ⊢
   dsimp only [rO]
   by_cases hm:(i:Int)∈bs[x]
   ·rw [if_pos hm] at hs
    rw [decide_eq_true hm] at c42
    clear hm
    refine W.run ?_
    refine W.kl (x+1) (by rw [hs,List.length_append];rfl) ?_ (by omega) (by omega) (by omega)
    rw [hs]
    rw [List.length_append,List.length_singleton,List.map_append,if_neg (show ¬ R.length+1 = 0 by omega)]
    exact HpW_HS (HS.skip (HS.refl _) (by repeat rw [put_ne (by omega)]) _)
   ·rw [if_neg hm,List.append_nil] at hs
    rw [decide_eq_false hm] at c42
    clear hm
    refine W.run ?_
    exact W.kl (x+1) (by rw [hs];rfl) (by rw [hs];exact HS.refl _) (by omega) (by omega) (by omega)
  ·have hxe : x = bs.length := by omega
   subst hxe
   have hf:(rows++[(n+24,dualK bs i bs.length)]).map Prod.snd = dualM (i+1) bs bs.length:=by
    rw [List.map_append,h3]
    unfold dualM
    rw [List.range_succ,List.map_append];rfl
   generalize dualK bs i bs.length = R at hkl hf ⊢
   dsimp only [rO]
   refine W.run ?_
   refine W.kl0 _ ?_ ⟨(i+1,rows++[(n+24,R)],_),⟨by dsimp only;omega,by rw [List.length_append,h2];rfl,hf,h4.snoc (by dsimp only;omega) (by omega),by dsimp only;omega⟩,rfl,by dsimp only;omega⟩ Nat.zero_lt_one
   dsimp only
   rw [HpW_snoc (n:=n),HpW_put h4 (by omega),List.map_append,if_neg (show ¬ i+1 = 0 by omega)]
   refine HpW_HS ?_
   simp only [rO,rR,List.map_cons,List.map_nil]
   exact HS.skip (HS.refl _) (by repeat rw [put_ne (by omega)]) _
 ·have hie : i = v := by omega
  rw [hie] at h3
  refine W.run ?_
  obtain ⟨H',hf⟩:=frz_rowsW (k:=10) (o:=8) (ver:=i) (nq:=if i = 0 then 1 else 0) h4 (by omega) put_same
  rw [h2,h3] at hf
  exact W.retP rfl (by rw [fin_x];exact hf) rfl
theorem fin_pair {H H':Hp} {u r:V} {e:Int} (h:frz 11 u H = some (r,H')):fin 12 (.l [.x,.x]) (.tup [u,.int .i64 e]) H = some (.tup [r,.int .i64 e],H'):=by
 rw [fin_ltup]
 simp only [finL,List.headD_cons,List.tail_cons,fin_x,h,frz_int,Option.bind_some,Option.map_some]
theorem k26e (v:Int) (hv:-2 ^ 63≤v∧v < 2 ^ 63) (bs:List (List Int)) (hl:bs.length < 2 ^ 40) (hb:∀ b∈bs,b.length < 2 ^ 40∧∀ n∈b,-2 ^ 63≤n∧n < 2 ^ 63) (hE:chkE v bs≠0):PureC Tryz.prog 26 [.int .i64 v,rowsV bs] (fun r=>r = .tup [.nils,.int .i64 (chkE v bs)]):=by
 have c1:=k21 v hv bs hl hb
 unfold chkV at c1
 rw [if_neg hE] at c1
 refine pureC_of_wp (.l [.x,.x]) mixed ok26 rfl ?_
 unfold c26
 dsimp only [argE,parV] at c1 ⊢
 refine W.run ?_
 rfl
theorem k25e (v:Int) (hv:-2 ^ 63≤v∧v < 2 ^ 63) (bs:List (List Int)) (hl:bs.length < 2 ^ 40) (hb:∀ b∈bs,b.length < 2 ^ 40∧∀ n∈b,-2 ^ 63≤n∧n < 2 ^ 63) (hE:chkE v bs≠0):PureC Tryz.prog 25 [.int .i64 v,rowsV bs] (fun r=>r = .tup [.nils,.int .i64 (chkE v bs)]):=by
 have c1:=k21 v hv bs hl hb
 unfold chkV at c1
 rw [if_neg hE] at c1
 refine pureC_of_wp (.l [.x,.x]) mixed ok25 rfl ?_
 unfold c25
 dsimp only [argE,parV] at c1 ⊢
 refine W.run ?_
 rfl
theorem k24e (v:Int) (hv:-2 ^ 63≤v∧v < 2 ^ 63) (bs:List (List Int)) (hl:bs.length < 2 ^ 40) (hb:∀ b∈bs,b.length < 2 ^ 40∧∀ n∈b,-2 ^ 63≤n∧n < 2 ^ 63) (hE:chkE v bs≠0):PureC Tryz.prog 24 [.int .i64 v,rowsV bs] (fun r=>r = .tup [.nils,.int .i64 (chkE v bs)]):=by
 have c1:=k21 v hv bs hl hb
 unfold chkV at c1
 rw [if_neg hE] at c1
 refine pureC_of_wp (.l [.x,.x]) mixed ok24 rfl ?_
 unfold c24
 dsimp only [argE,parV] at c1 ⊢
 refine W.run ?_
 rfl
set_option maxRecDepth 10000 in
set_option maxHeartbeats 2000000 in
theorem k25 (v:Nat) (bs:List (List Int)) (hl:bs.length < 2 ^ 40) (hb:∀ b∈bs,b.length < 2 ^ 40∧∀ n∈b,-2 ^ 63≤n∧n < 2 ^ 63) (hv:v≤200) (hl2:bs.length≤2000) (hE:chkE (v:Int) bs = 0):PureC Tryz.prog 25 [.int .i64 (v:Int),rowsV bs] (fun r=>r = .tup [rowsV (compM v bs),.int .i64 0]):=by
 have c1:=k21 (v:Int) (by omega) bs hl hb
 unfold chkV at c1
 rw [hE,if_pos rfl] at c1
 refine pureC_of_wp (.l [.x,.x]) mixed ok25 rfl ?_
 unfold c25
 dsimp only [argE,parV] at c1 ⊢
 refine W.run ?_
 clear c1 hE
 refine W.loop (fun y:Nat × List (Nat × List Int) × Nat=>⟨[(0,.int .i64 (v:Int)),(8,.ref 104 y.1 0 y.1),(22,rowsV bs),(23,.int .i64 (bs.length:Int)),(24,.int .i64 (y.1:Int))],HpW (Hp.put (fun _=>none) 104 { cells:=y.2.1.map rR,sz:=1,ver:=y.1,nl:=if y.1 = 0 then 1 else 0 }) y.2.1 104 y.2.2,y.2.2⟩)
  (fun y=>y.1≤bs.length∧y.2.1.length = y.1∧y.2.1.map Prod.snd = compM v (bs.take y.1)∧BW y.2.1 104 y.2.2∧120≤y.2.2) (fun y=>bs.length - y.1) (0,[],136) ⟨by dsimp only;omega,rfl,rfl,⟨List.nodup_nil,fun p hp=>by cases hp⟩,by dsimp only;omega⟩ ?_ rfl ?hs rfl
 case hs=>exact HS.p (HS.emp _)
 rintro ⟨i,rows,n⟩ ⟨h1,h2,h3,h4,h5⟩
 dsimp only at h1 h2 h3 h4 h5 ⊢
 have hrl:(rows.map rR).length = i:=by rw [List.length_map];exact h2
 by_cases hh:i < bs.length
 ·have hbi:=(hb _ (List.getElem_mem hh)).1
  refine W.run ?_
  refine W.lp (fun x:Nat=>[(0,.int .i64 (v:Int)),(8,.ref 104 i 0 i),(10,slI bs[i]),(11,.ref (n+32) (compK bs[i] x).length 0 (compK bs[i] x).length),(22,rowsV bs),(23,.int .i64 (bs.length:Int)),(24,.int .i64 (i:Int)),(28,.int .i64 (v:Int)),(29,.int .i64 (x:Int))]) (fun x=>HpW ((Hp.put (fun _=>none) 104 { cells:=rows.map rR,sz:=1,ver:=i,nl:=if i = 0 then 1 else 0 }).put (n+32) (rO (compK bs[i] x))) rows 104 n) (fun x=>x≤v) (fun x=>v - x) 0 rfl (HS.refl _) (Nat.zero_le _) ?_
  rintro x nx hx hnx
  have hkl:=compK_len (b:=bs[i]) (k:=x)
  by_cases hxv:x < v
  ·have hs:=compK_succ (b:=bs[i]) (k:=x)
   have c45:=k45 bs[i] (x:Int) hbi
   generalize compK bs[i] x = R at hs hkl ⊢
   dsimp only [rO]
   by_cases hm:(x:Int)∈bs[i]
   ·rw [if_pos hm,List.append_nil] at hs
    rw [decide_eq_true hm] at c45
    clear hm
    refine W.run ?_
    exact W.kl (x+1) (by rw [hs];rfl) (by rw [hs];exact HS.refl _) (by omega) (by omega) (by omega)
   ·rw [if_neg hm] at hs
    rw [decide_eq_false hm] at c45
    clear hm
    refine W.run ?_
    refine W.kl (x+1) (by rw [hs,List.length_append];rfl) ?_ (by omega) (by omega) (by omega)
    rw [hs]
    rw [List.length_append,List.length_singleton,List.map_append,if_neg (show ¬ R.length+1 = 0 by omega)]
    exact HpW_HS (HS.skip (HS.refl _) (by repeat rw [put_ne (by omega)]) _)
  ·have hxe : x = v := by omega
   subst hxe
   have hf:(rows++[(n+32,compK bs[i] x)]).map Prod.snd = compM x (bs.take (i+1)):=by
    rw [List.map_append,h3,← List.take_append_getElem hh]
    unfold compM
    rw [List.map_append];rfl
   generalize compK bs[i] x = R at hkl hf ⊢
   dsimp only [rO]
   refine W.run ?_
   refine W.kl0 _ ?_ ⟨(i+1,rows++[(n+32,R)],_),⟨by dsimp only;omega,by rw [List.length_append,h2];rfl,hf,h4.snoc (by dsimp only;omega) (by omega),by dsimp only;omega⟩,rfl,by dsimp only;omega⟩ Nat.zero_lt_one
   dsimp only
   rw [HpW_snoc (n:=n),HpW_put h4 (by omega),List.map_append,if_neg (show ¬ i+1 = 0 by omega)]
   refine HpW_HS ?_
   simp only [rO,rR,List.map_cons,List.map_nil]
   exact HS.skip (HS.refl _) (by repeat rw [put_ne (by omega)]) _
 ·have hie : i = bs.length := by omega
  rw [hie,List.take_length] at h3
  refine W.run ?_
  obtain ⟨H',hf⟩:=frz_rowsW (k:=9) (o:=104) (ver:=i) (nq:=if i = 0 then 1 else 0) h4 (by omega) put_same
  rw [h2,h3] at hf
  exact W.retP rfl (fin_pair hf) rfl
end Go.Dp
