import Derived.Test.YtlbjgnkjicifhaaGreatDwC15
namespace Go.Dp
open Go.RowKit Go.Proofs
attribute [local irreducible] wp wpOps wpOp1 CallW CallT kSeq kBlk kLoop kReg retP retR kAsg kRound kRf kCut kItr kItr2
set_option linter.unusedVariables false
set_option linter.unusedSimpArgs false
theorem k112_2:PureC Tryz.prog 112 [.sl [.int .i64 (-1)] 1,.int .i64 2] (fun r=>r = .own ((List.replicate 2 (-1:Int)).map (V.int .i64)) 2 1):=pureC_of_runS (.s 1) tab_ok 100 (by kernel_rfl)
theorem k112_3:PureC Tryz.prog 112 [.sl [.int .i64 (-1)] 1,.int .i64 3] (fun r=>r = .own ((List.replicate 3 (-1:Int)).map (V.int .i64)) 3 1):=pureC_of_runS (.s 1) tab_ok 100 (by kernel_rfl)
theorem k112_4:PureC Tryz.prog 112 [.sl [.int .i64 (-1)] 1,.int .i64 4] (fun r=>r = .own ((List.replicate 4 (-1:Int)).map (V.int .i64)) 4 1):=pureC_of_runS (.s 1) tab_ok 100 (by kernel_rfl)
theorem k112_5:PureC Tryz.prog 112 [.sl [.int .i64 (-1)] 1,.int .i64 5] (fun r=>r = .own ((List.replicate 5 (-1:Int)).map (V.int .i64)) 5 1):=pureC_of_runS (.s 1) tab_ok 100 (by kernel_rfl)
theorem k112_6:PureC Tryz.prog 112 [.sl [.int .i64 (-1)] 1,.int .i64 6] (fun r=>r = .own ((List.replicate 6 (-1:Int)).map (V.int .i64)) 6 1):=pureC_of_runS (.s 1) tab_ok 100 (by kernel_rfl)
theorem k112_7:PureC Tryz.prog 112 [.sl [.int .i64 (-1)] 1,.int .i64 7] (fun r=>r = .own ((List.replicate 7 (-1:Int)).map (V.int .i64)) 7 1):=pureC_of_runS (.s 1) tab_ok 100 (by kernel_rfl)
theorem k112_8:PureC Tryz.prog 112 [.sl [.int .i64 (-1)] 1,.int .i64 8] (fun r=>r = .own ((List.replicate 8 (-1:Int)).map (V.int .i64)) 8 1):=pureC_of_runS (.s 1) tab_ok 100 (by kernel_rfl)
theorem k112_9:PureC Tryz.prog 112 [.sl [.int .i64 (-1)] 1,.int .i64 9] (fun r=>r = .own ((List.replicate 9 (-1:Int)).map (V.int .i64)) 9 1):=pureC_of_runS (.s 1) tab_ok 100 (by kernel_rfl)
theorem k112_10:PureC Tryz.prog 112 [.sl [.int .i64 (-1)] 1,.int .i64 10] (fun r=>r = .own ((List.replicate 10 (-1:Int)).map (V.int .i64)) 10 1):=pureC_of_runS (.s 1) tab_ok 100 (by kernel_rfl)
theorem k112_11:PureC Tryz.prog 112 [.sl [.int .i64 (-1)] 1,.int .i64 11] (fun r=>r = .own ((List.replicate 11 (-1:Int)).map (V.int .i64)) 11 1):=pureC_of_runS (.s 1) tab_ok 100 (by kernel_rfl)
theorem k112_12:PureC Tryz.prog 112 [.sl [.int .i64 (-1)] 1,.int .i64 12] (fun r=>r = .own ((List.replicate 12 (-1:Int)).map (V.int .i64)) 12 1):=pureC_of_runS (.s 1) tab_ok 100 (by kernel_rfl)
theorem k112_13:PureC Tryz.prog 112 [.sl [.int .i64 (-1)] 1,.int .i64 13] (fun r=>r = .own ((List.replicate 13 (-1:Int)).map (V.int .i64)) 13 1):=pureC_of_runS (.s 1) tab_ok 100 (by kernel_rfl)
theorem k112_14:PureC Tryz.prog 112 [.sl [.int .i64 (-1)] 1,.int .i64 14] (fun r=>r = .own ((List.replicate 14 (-1:Int)).map (V.int .i64)) 14 1):=pureC_of_runS (.s 1) tab_ok 100 (by kernel_rfl)
theorem k112_15:PureC Tryz.prog 112 [.sl [.int .i64 (-1)] 1,.int .i64 15] (fun r=>r = .own ((List.replicate 15 (-1:Int)).map (V.int .i64)) 15 1):=pureC_of_runS (.s 1) tab_ok 100 (by kernel_rfl)
theorem k112_16:PureC Tryz.prog 112 [.sl [.int .i64 (-1)] 1,.int .i64 16] (fun r=>r = .own ((List.replicate 16 (-1:Int)).map (V.int .i64)) 16 1):=pureC_of_runS (.s 1) tab_ok 100 (by kernel_rfl)
theorem k112 (H:Int) (h:2≤H∧H≤16):PureC Tryz.prog 112 [.sl [.int .i64 (-1)] 1,.int .i64 H] (fun r=>r = .own ((List.replicate H.toNat (-1:Int)).map (V.int .i64)) H.toNat 1):=by
 have hk:H = 2∨H = 3∨H = 4∨H = 5∨H = 6∨H = 7∨H = 8∨H = 9∨H = 10∨H = 11∨H = 12∨H = 13∨H = 14∨H = 15∨H = 16:=by omega
 rcases hk with rfl | rfl | rfl | rfl | rfl | rfl | rfl | rfl | rfl | rfl | rfl | rfl | rfl | rfl | rfl
 ·exact k112_2
 ·exact k112_3
 ·exact k112_4
 ·exact k112_5
 ·exact k112_6
 ·exact k112_7
 ·exact k112_8
 ·exact k112_9
 ·exact k112_10
 ·exact k112_11
 ·exact k112_12
 ·exact k112_13
 ·exact k112_14
 ·exact k112_15
 ·exact k112_16
def HpM (B:Hp):List Nat→List (List Int)→Hp
 | id::ids,r::rows=>(HpM B ids rows).put id { cells:=r.map (V.int .i64),sz:=1 }
 | _,_=>B
theorem HpM_other {B:Hp}:∀ {ids:List Nat} {rows:List (List Int)} {i:Nat},i ∉ ids→HpM B ids rows i = B i
 | [],_,i,_=>rfl
 | _::_,[],i,_=>rfl
 | id::ids,r::rows,i,h=>by
  simp only [List.mem_cons,not_or] at h
  simp only [HpM];rw [put_ne h.1,HpM_other h.2]
theorem HpM_put {B:Hp} {ob:Ob}:∀ {ids:List Nat} {rows:List (List Int)} {i:Nat},i ∉ ids→(HpM B ids rows).put i ob = HpM (B.put i ob) ids rows
 | [],_,i,_=>rfl
 | _::_,[],i,_=>rfl
 | id::ids,r::rows,i,h=>by
  simp only [List.mem_cons,not_or] at h
  simp only [HpM];rw [put_comm (Ne.symm h.1),HpM_put h.2]
theorem HpM_get {B:Hp}:∀ {ids:List Nat} {rows:List (List Int)} {k:Nat} (h1:k < ids.length) (h2:k < rows.length),ids.Nodup→HpM B ids rows ids[k] = some { cells:=rows[k].map (V.int .i64),sz:=1 }
 | id::ids,r::rows,0,_,_,_=>by simp only [HpM,List.getElem_cons_zero];rw [put_same]
 | id::ids,r::rows,k+1,h1,h2,hn=>by
  have hn':=List.nodup_cons.1 hn
  have h1':k < ids.length:=by simpa using h1
  have:ids[k]≠id:=fun e=>hn'.1 (e ▸ List.getElem_mem h1')
  simp only [HpM,List.getElem_cons_succ];rw [put_ne this];exact HpM_get h1' (by simpa using h2) hn'.2
theorem HpM_set {B:Hp} {r':List Int}:∀ {ids:List Nat} {rows:List (List Int)} {k:Nat} (h1:k < ids.length) (h2:k < rows.length),ids.Nodup→(HpM B ids rows).put ids[k] { cells:=r'.map (V.int .i64),sz:=1 } = HpM B ids (rows.set k r')
 | id::ids,r::rows,0,_,_,_=>by simp only [HpM,List.getElem_cons_zero,List.set_cons_zero];rw [put_put]
 | id::ids,r::rows,k+1,h1,h2,hn=>by
  have hn':=List.nodup_cons.1 hn
  have h1':k < ids.length:=by simpa using h1
  have:ids[k]≠id:=fun e=>hn'.1 (e ▸ List.getElem_mem h1')
  simp only [HpM,List.getElem_cons_succ,List.set_cons_succ];rw [put_comm (Ne.symm this),HpM_set h1' (by simpa using h2) hn'.2]
theorem HpM_snoc {B:Hp} {r:List Int} {id:Nat}:∀ {ids:List Nat} {rows:List (List Int)},ids.length = rows.length→id ∉ ids→HpM B (ids++[id]) (rows++[r]) = (HpM B ids rows).put id { cells:=r.map (V.int .i64),sz:=1 }
 | [],[],_,_=>rfl
 | i::ids,r'::rows,hl,h=>by
  simp only [List.mem_cons,not_or] at h
  simp only [List.cons_append,HpM];rw [HpM_snoc (by simpa using hl) h.2,put_comm h.1]
 | [],_::_,hl,_=>by simp at hl
 | _::_,[],hl,_=>by simp at hl
theorem zerosV_rep (v:V):∀ n,zerosV [v] n = List.replicate n v
 | 0=>rfl
 | n+1=>by rw [zerosV,zerosV_rep v n,List.replicate_succ];rfl
attribute [go_sem] HpM_other
def tab2 (n:Nat) (f:Nat→Nat→Int):List (List Int):=(List.range n).map fun t=>(List.range n).map (f t)
def rfs (ids:List Nat) (n:Nat):List V:=ids.map fun id=>V.ref id 0 0 n
@[go_sem] theorem rfs_len (ids:List Nat) (n:Nat):(rfs ids n).length = ids.length:=by simp [rfs]
theorem rfs_next {ids:List Nat} {H id:Nat} (h:ids.length < H):List.take ids.length (rfs ids H++List.replicate (H - ids.length) V.nils)++[V.ref id 0 0 H]++List.drop (ids.length+1) (rfs ids H++List.replicate (H - ids.length) V.nils) = rfs (ids++[id]) H++List.replicate (H - (ids++[id]).length) V.nils:=by
 have e:ids.length = (rfs ids H).length:=(rfs_len ids H).symm
 rw [List.take_append_of_le_length (by omega),List.take_of_length_le (by omega),List.drop_append,List.drop_eq_nil_of_le (by omega),List.drop_replicate,rfs_len]
 simp only [List.nil_append,List.length_append,List.length_cons,List.length_nil,rfs,List.map_append,List.map_cons,List.map_nil,List.append_assoc]
 congr 3;omega
def HpR (c:Cf) (ids:List Nat) (rows:List (List Int)):Hp:=HpM ((Hp.put (fun _=>none) 0 { cells:=[.int .i64 c.R,.int .i64 c.P,.int .i64 c.G,.int .i64 c.H,.int .i64 c.B,.int .i64 c.K],sz:=6 }).put 32 { cells:=rfs ids c.H.toNat++List.replicate (c.H.toNat - ids.length) .nils,sz:=1 }) ids rows
def losC:List (Int × Int)→List V
 | []=>[]
 | p::l=>.int .i64 p.1::.int .i64 p.2::losC l
@[go_sem] theorem losC_len:∀ l,(losC l).length = 2 * l.length
 | []=>rfl
 | p::l=>by simp [losC,losC_len l];omega
@[go_sem] theorem losC_get:∀ {l:List (Int × Int)} {i:Nat} (h:i < l.length),List.take 2 (List.drop (i * 2) (losC l)) = [V.int .i64 l[i].1,V.int .i64 l[i].2]
 | p::l,0,h=>by simp [losC]
 | p::l,i+1,h=>by
  have:=losC_get (l:=l) (i:=i) (by simpa using h)
  rw [show (i+1) * 2 = 2+i * 2 by omega,← List.drop_drop]
  simpa [losC] using this
abbrev losV (l:List (Int × Int)):V:=.sl (losC l) l.length
def lstQ (a b:Int) (p:Int × Int):Bool:=decide (a = p.1) && decide (b = p.2)
set_option maxRecDepth 10000 in
theorem k164 (L:List (Int × Int)) (hL:L.length < 2 ^ 40) (a b:Int):PureC Tryz.prog 164 [losV L,.agg [.int .i64 a,.int .i64 b]] (fun r=>r = .int .i64 (idxI (lstQ a b) L 0)):=by
 refine pureC_of_wp .x mixed ok164 rfl ?_
 unfold c164
 dsimp only [argE]
 refine W.run ?_
 refine W.lp (fun i:Nat=>[(0,losV L),(3,.ptr 0 0 0),(7,.int .i64 (L.length:Int)),(8,.int .i64 (i:Int))]) (fun _=>Hp.put (fun _=>none) 0 { cells:=[.int .i64 a,.int .i64 b],sz:=2 }) (fun i=>i≤L.length∧idxI (lstQ a b) L 0 = idxI (lstQ a b) (L.drop i) i) (fun i=>L.length - i) 0 rfl (HS.refl _) ⟨by omega,rfl⟩ ?_
 rintro i nx ⟨h1,h2⟩ hnx
 by_cases hi:i < L.length
 ·rw [idxI_drop hi] at h2
  by_cases he:a = L[i].1
  ·by_cases he2:b = L[i].2
   ·rw [lstQ,decide_eq_true he,decide_eq_true he2] at h2
    refine W.run ?_
    rw [h2];rfl
   ·rw [lstQ,decide_eq_false he2,Bool.and_false] at h2
    refine W.run ?_
    exact W.kl (i+1) rfl (HS.refl _) (by omega) ⟨by omega,by simpa using h2⟩ (by omega)
  ·rw [lstQ,decide_eq_false he,Bool.false_and] at h2
   refine W.run ?_
   exact W.kl (i+1) rfl (HS.refl _) (by omega) ⟨by omega,by simpa using h2⟩ (by omega)
 ·have hi2 : i = L.length := by omega
  subst hi2
  rw [List.drop_length] at h2
  refine W.run ?_
  rw [h2];rfl
theorem k113 (L:List (Int × Int)) (hL:L.length < 2 ^ 40) (a b:Int):PureC Tryz.prog 113 [losV L,.agg [.int .i64 a,.int .i64 b]] (fun r=>r = .bool (L.any (lstQ a b))):=by
 have c1:=k164 L hL a b
 have h:=(idxI_any (q:=lstQ a b) L 0).1
 refine pureC_of_wp .x mixed ok113 rfl ?_
 unfold c113
 dsimp only [argE]
 cases hx:L.any (lstQ a b)
 ·have : ¬ 0 ≤ idxI (lstQ a b) L 0 := fun e => by have := h.1 e; rw [hx] at this; cases this
  clear h
  refine W.run ?_
  rfl
 ·have:0≤idxI (lstQ a b) L 0:=h.2 hx
  clear h
  refine W.run ?_
  rfl
def polyAt (polys:List (List Int)) (k:Nat):List Int:=polys.getD k []
def shF (c:Cf) (polys:List (List Int)) (lost:List (Int × Int)) (t k:Nat):Int :=
 if (polyAt polys k).length≠0∧t≠k∧lost.any (lstQ ((k:Int)+1) ((t:Int)+1)) = false then valM c.P ((t:Int)+1) (polyAt polys k) else -1
theorem tab2_len (n:Nat) (f:Nat→Nat→Int):(tab2 n f).length = n:=by simp [tab2]
theorem tab2_get {n k:Nat} {f:Nat→Nat→Int} (h:k < (tab2 n f).length):(tab2 n f)[k] = (List.range n).map (f k):=by simp [tab2]
def updF (f:Nat→Nat→Int) (t k:Nat) (v:Int):Nat→Nat→Int:=fun a b=>if a = t∧b = k then v else f a b
theorem tab2_set {n t k:Nat} {f:Nat→Nat→Int} {v:Int} (ht:t < n) (hk:k < n):(tab2 n f).set t (((List.range n).map (f t)).set k v) = tab2 n (updF f t k v):=by
 apply List.ext_getElem
 ·simp [tab2]
 ·intro a h1 h2
  simp only [tab2,List.length_set,List.length_map,List.length_range] at h1
  simp only [tab2,List.getElem_set,List.getElem_map,List.getElem_range]
  split
  ·rename_i e;subst e
   apply List.ext_getElem
   ·simp
   ·intro b h3 h4
    simp only [List.length_set,List.length_map,List.length_range] at h3
    simp only [List.getElem_set,List.getElem_map,List.getElem_range,updF]
    by_cases e:k = b
    ·subst e;simp
    ·rw [if_neg e,if_neg (by omega)]
  ·rename_i e
   apply List.map_congr_left
   intro b _
   simp only [updF];rw [if_neg (by omega)]
def HpT (c:Cf) (ids:List Nat) (f:Nat→Nat→Int):Hp:=HpM ((Hp.put (fun _=>none) 0 { cells:=[.int .i64 c.R,.int .i64 c.P,.int .i64 c.G,.int .i64 c.H,.int .i64 c.B,.int .i64 c.K],sz:=6 }).put 32 { cells:=rfs ids c.H.toNat,sz:=1 }) ids (tab2 c.H.toNat f)
@[go_sem] theorem rfs_at {ids:List Nat} {n k:Nat} (h:k < ids.length):(rfs ids n)[k]? = some (.ref ids[k] 0 0 n):=by simp [rfs,h]
attribute [go_sem] tab2_len
@[go_sem] theorem HpM_getT {B:Hp} {ids:List Nat} {n k:Nat} {f:Nat→Nat→Int} (h1:k < ids.length) (h2:k < n) (hn:ids.Nodup):HpM B ids (tab2 n f) ids[k] = some { cells:=((List.range n).map (f k)).map (V.int .i64),sz:=1 }:=by
 have h3:k < (tab2 n f).length:=by rw [tab2_len];exact h2
 rw [HpM_get h1 h3 hn,tab2_get]
theorem HpM_setT {B:Hp} {ids:List Nat} {n t k:Nat} {f:Nat→Nat→Int} {v:Int} (h1:t < ids.length) (h2:t < n) (h3:k < n) (hn:ids.Nodup) :
  (HpM B ids (tab2 n f)).put ids[t] { cells:=(List.take k ((List.range n).map (f t))).map (V.int .i64)++[.int .i64 v]++(List.drop (k+1) ((List.range n).map (f t))).map (V.int .i64),sz:=1 } = HpM B ids (tab2 n (updF f t k v)):=by
 rw [List.map_take,List.map_drop,put_set (by simpa using h3),← List.map_set,HpM_set h1 (by rw [tab2_len];exact h2) hn,tab2_set h2 h3]
theorem mapS_rows {k m:Nat}:∀ (ids:List Nat) (rows:List (List Int)) (H:Hp),ids.Nodup→rows.length = ids.length→(∀ j (h1:j < ids.length) (h2:j < rows.length),H ids[j] = some { cells:=rows[j].map (V.int .i64),sz:=1 }∧rows[j].length = m)→∃ H',mapS (frz (k+1)) (rfs ids m) H = some (rows.map slI,H')
 | [],[],H,_,_,_=>⟨H,rfl⟩
 | [],_::_,_,_,hl,_=>by simp at hl
 | _::_,[],_,_,hl,_=>by simp at hl
 | id::ids,r::rows,H,hn,hl,h=>by
  have hn':=List.nodup_cons.1 hn
  have h0:=h 0 (by simp) (by simp)
  simp only [List.getElem_cons_zero] at h0
  obtain ⟨H', hH'⟩ := mapS_rows (k := k) (m := m) ids rows (H.mark id m) hn'.2 (by simpa using hl) (fun j h1 h2 => by
   have:=h (j+1) (by simpa using h1) (by simpa using h2)
   simp only [List.getElem_cons_succ] at this
   refine ⟨?_,this.2⟩
   have hne:ids[j]≠id:=fun e=>hn'.1 (e ▸ List.getElem_mem h1)
   rw [← this.1]
   unfold Hp.mark
   rw [h0.1]
   exact put_ne hne)
  refine ⟨H',?_⟩
  have e:frz (k+1) (.ref id 0 0 m) H = some (slI r,H.mark id m):=by
   have hq:=frzRef_some (n:=k) (o:=id) (ver:=0) (off:=0) (len:=m) (H:=H) (ob:={ cells:=r.map (V.int .i64),sz:=1 }) ⟨rfl,by simp [h0.2],rfl⟩
   rw [frz_ref,h0.1,hq]
   simp only [List.drop_zero,Nat.mul_one,Nat.zero_add]
   rw [List.take_of_length_le (by simp [h0.2]),mapS_int1]
   rw [← h0.2];rfl
  show mapS (frz (k+1)) (.ref id 0 0 m::rfs ids m) H = _
  simp only [mapS,e,Option.bind_some,hH',Option.map_some,List.map_cons]
theorem frz_rows {c:Cf} {ids:List Nat} {f:Nat→Nat→Int} (hl:ids.length = c.H.toNat) (hn:ids.Nodup) (h32:32 ∉ ids):∃ H',frz 12 (.ref 32 0 0 c.H.toNat) (HpT c ids f) = some (.sl ((tab2 c.H.toNat f).map slI) c.H.toNat,H'):=by
 obtain ⟨H', hH'⟩ := mapS_rows (k := 10) (m := c.H.toNat) ids (tab2 c.H.toNat f) (HpT c ids f) hn (by rw [tab2_len, hl]) (fun j h1 h2 => by
  unfold HpT
  rw [HpM_get h1 h2 hn]
  exact ⟨rfl,by rw [tab2_get];simp⟩)
 have h3:HpT c ids f 32 = some { cells:=rfs ids c.H.toNat,sz:=1 }:=by
  unfold HpT;rw [HpM_other h32,put_same]
 have hq:=frzRef_some (n:=11) (o:=32) (ver:=0) (off:=0) (len:=c.H.toNat) (H:=HpT c ids f) (ob:={ cells:=rfs ids c.H.toNat,sz:=1 }) ⟨rfl,by simp [rfs_len,hl],rfl⟩
 refine ⟨H'.mark 32 (0+c.H.toNat * 1),?_⟩
 rw [frz_ref,h3,hq]
 simp only [List.drop_zero,Nat.mul_one,Nat.zero_add]
 rw [List.take_of_length_le (by rw [rfs_len,hl];exact Nat.le_refl _),hH']
 rfl
theorem tab2_congr {n:Nat} {f g:Nat→Nat→Int} (h:∀ t k,t < n→k < n→f t k = g t k):tab2 n f = tab2 n g :=
 List.map_congr_left fun t ht=>List.map_congr_left fun k hk=>h t k (List.mem_range.1 ht) (List.mem_range.1 hk)
set_option maxRecDepth 10000 in
set_option maxHeartbeats 1000000 in
theorem k55 (c:Cf) (hc:c.Ok) (polys:List (List Int)) (hpl:(polys.length:Int) = c.H) (hp:∀ p∈polys,p.length < 2 ^ 20∧(p.length≠0→polyE c.P p = 0)) (lost:List (Int × Int)) (hlost:lost.length < 2 ^ 40):PureC Tryz.prog 55 [c.v,.sl (polys.map slI) polys.length,losV lost] (fun r=>r = .sl ((tab2 c.H.toNat (shF c polys lost)).map slI) c.H.toNat):=by
 have hr:=hc.rng
 obtain ⟨pv,hpv⟩:∃ pv,pv = V.sl (polys.map slI) polys.length:=⟨_,rfl⟩
 rw [← hpv]
 obtain ⟨lv,hlv⟩:∃ lv,lv = losV lost:=⟨_,rfl⟩
 rw [← hlv]
 have c1:Opn (PureC Tryz.prog 112 [.sl [.int .i64 (-1)] 1,.int .i64 c.H] (fun r=>r = .own ((List.replicate c.H.toNat (-1:Int)).map (V.int .i64)) c.H.toNat 1)):=k112 c.H (by omega)
 have hne:((List.replicate c.H.toNat (-1:Int)).map (V.int .i64)).isEmpty = false:=by
  cases h:c.H.toNat with
  | zero=>omega
  | succ n=>rfl
 refine pureC_of_wp .x mixed ok55 rfl ?_
 unfold c55
 dsimp only [argE,Cf.v,cfgV]
 refine W.run ?_
 rw [zerosV_rep]
 refine W.loop (fun z:Nat × List Nat × Nat=>⟨[(1,pv),(2,lv),(3,.ptr 0 0 0),(7,.ref 32 0 0 c.H.toNat),(19,.int .i64 c.H),(20,.int .i64 (z.1:Int))],HpR c z.2.1 (List.replicate z.1 (List.replicate c.H.toNat (-1))),z.2.2⟩)
  (fun z=>z.1≤c.H.toNat∧z.2.1.length = z.1∧z.2.1.Nodup∧72≤z.2.2∧∀ id∈z.2.1,32 < id∧id < z.2.2) (fun z=>c.H.toNat - z.1) (0,[],72) ⟨by dsimp only;omega,rfl,List.nodup_nil,by dsimp only;omega,by simp⟩ ?_ rfl (HS.refl _) rfl
 rintro ⟨k,ids,n⟩ ⟨hk,hl,hnd,h72,hid⟩
 dsimp only at hk hl hnd h72 hid ⊢
 have h0:0 ∉ ids:=fun h=>by have:=hid 0 h;omega
 have h32:32 ∉ ids:=fun h=>by have:=hid 32 h;omega
 by_cases hlt:k < c.H.toNat
 ·have hcl : (rfs ids c.H.toNat ++ List.replicate (c.H.toNat - ids.length) V.nils).length = c.H.toNat := by simp [rfs]; omega
  unfold HpR
  refine W.run ?_
  have hni:n+88 ∉ ids:=fun h=>by have:=hid _ h;omega
  refine W.kl0 (HpR c (ids++[n+88]) (List.replicate (k+1) (List.replicate c.H.toNat (-1)))) ?_ ⟨(k+1,ids++[n+88],_),⟨by dsimp only;omega,by simp [hl],List.nodup_append.2 ⟨hnd,by simp,fun a ha b hb=>by rw [List.mem_singleton.1 hb];exact fun e=>hni (e ▸ ha)⟩,by dsimp only;omega,?_⟩,rfl,by dsimp only;omega⟩ Nat.zero_lt_one
  ·unfold HpR
   rw [List.replicate_succ',HpM_snoc (by simp [hl]) hni,hne,HpM_put h32,put_put]
   subst hl
   rw [rfs_next hlt]
   exact HS.put rfl (HS.skip (HS.refl _) (by rw [HpM_other (fun h=>by have:=hid _ h;omega),put_ne (by omega),put_ne (by omega)]) _)
  ·intro id h
   dsimp only
   rcases List.mem_append.1 h with h | h
   ·have:=hid _ h;omega
   ·rw [List.mem_singleton.1 h];omega
 ·have hkH : k = c.H.toNat := by omega
  subst hkH
  have hrow:List.replicate c.H.toNat (List.replicate c.H.toNat (-1:Int)) = tab2 c.H.toNat (fun _ _=>-1):=by
   apply List.ext_getElem
   ·simp [tab2]
   ·intro a h1 h2
    simp only [tab2,List.getElem_replicate,List.getElem_map,List.map_const',List.length_range]
  have hcell:rfs ids c.H.toNat++List.replicate (c.H.toNat - ids.length) V.nils = rfs ids c.H.toNat:=by rw [hl,Nat.sub_self];simp
  unfold HpR
  rw [hrow,hcell]
  clear hrow hcell c1 hne
  subst hpv
  refine W.run ?_
  subst hlv
  refine W.lp (fun y:Nat × (Nat→Nat→Int)=>[(2,losV lost),(3,.ptr 0 0 0),(7,.ref 32 0 0 c.H.toNat),(31,.sl (polys.map slI) polys.length),(32,.int .i64 (polys.length:Int)),(33,.int .i64 (y.1:Int))]) (fun y=>HpT c ids y.2)
   (fun y=>y.1≤polys.length∧∀ t k,t < c.H.toNat→k < c.H.toNat→y.2 t k = if k < y.1 then shF c polys lost t k else -1) (fun y=>polys.length - y.1) (0,fun _ _=>-1) rfl (HS.refl _) ⟨by dsimp only;omega,fun t k _ _=>by simp⟩ ?_
  rintro ⟨i,f⟩ nx ⟨hi,hf⟩ hnx
  dsimp only at hi hf ⊢
  by_cases hip:i < polys.length
  ·have hpi:=hp polys[i] (List.getElem_mem hip)
   have hpa:polyAt polys i = polys[i]:=by unfold polyAt;rw [List.getD_eq_getElem?_getD,List.getElem?_eq_getElem hip];rfl
   have hfree:∀ j,nx≤j→HpT c ids f j = none:=fun j hj=>by
    unfold HpT
    rw [HpM_other (fun h=>by have:=hid _ h;omega),put_ne (by omega),put_ne (by omega)]
   by_cases hz:polys[i].length = 0
   ·unfold HpT
    refine W.run ?_
    refine W.kl (i+1,f) rfl (HS.refl _) (by omega) ⟨by dsimp only;omega,fun t k ht hk=>?_⟩ (by dsimp only;omega)
    dsimp only
    rw [hf t k ht hk]
    by_cases hki:k = i
    ·subst hki
     rw [if_neg (by omega),if_pos (by omega),shF,hpa,if_neg (by omega)]
    ·by_cases hlt2:k < i
     ·rw [if_pos hlt2,if_pos (by omega)]
     ·rw [if_neg hlt2,if_neg (by omega)]
   ·obtain ⟨S,hS⟩:∃ S,S = shM c.P polys[i] c.H.toNat:=⟨_,rfl⟩
    have c2:PureC Tryz.prog 105 [grp c.R c.P c.G,slI polys[i],.int .i64 c.H] (fun r=>r = .tup [.own (S.map (V.int .i64)) c.H.toNat 1,.int .i64 0]):=by
     have:=k105 hc.1 polys[i] _ rfl (by omega) (hpi.2 hz) c.H.toNat (by omega)
     rw [hS]
     rwa [show ((c.H.toNat:Nat):Int) = c.H by omega] at this
    have hSl:S.length = c.H.toNat:=by rw [hS,shM_len]
    have hSg:∀ (k:Nat) (h:k < S.length),S[k] = valM c.P ((k:Int)+1) polys[i]:=fun k h=>by subst hS;rw [shM_get]
    clear hS
    unfold HpT
    refine W.run ?_
    refine W.lp (fun y:Nat × (Nat→Nat→Int)=>[(2,losV lost),(3,.ptr 0 0 0),(7,.ref 32 0 0 c.H.toNat),(9,.int .i64 (i:Int)),(31,.sl (polys.map slI) polys.length),(32,.int .i64 (polys.length:Int)),(33,.int .i64 (i:Int)),(50,.sl (S.map (V.int .i64)) c.H.toNat),(51,.int .i64 c.H),(52,.int .i64 (y.1:Int))]) (fun y=>HpT c ids y.2)
     (fun y=>y.1≤c.H.toNat∧∀ t k,t < c.H.toNat→k < c.H.toNat→y.2 t k = if k < i∨(k = i∧t < y.1) then shF c polys lost t k else -1) (fun y=>c.H.toNat - y.1) (0,f) rfl (HS.refl _) ⟨by dsimp only;omega,fun t k ht hk=>by dsimp only;rw [hf t k ht hk];by_cases h:k < i;rw [if_pos h,if_pos (.inl h)];rw [if_neg h,if_neg (by omega)]⟩ ?_
    rintro ⟨j,g⟩ nx2 ⟨hj,hg⟩ hnx2
    dsimp only at hj hg ⊢
    by_cases hjl:j < c.H.toNat
    ·have c3:=k113 lost hlost ((i:Int)+1) ((j:Int)+1)
     have hiH:i < c.H.toNat:=by omega
     have hsj:=hSg j (by omega)
     have hjS:j < S.length:=by omega
     have hnext:∀ t k,t < c.H.toNat→k < c.H.toNat→(if k < i∨(k = i∧t < j+1) then shF c polys lost t k else -1) = if t = j∧k = i then shF c polys lost j i else g t k:=fun t k ht hk=>by
      rw [hg t k ht hk]
      by_cases h1:t = j∧k = i
      ·obtain ⟨rfl,rfl⟩:=h1
       rw [if_pos (by omega),if_pos ⟨rfl,rfl⟩]
      ·rw [if_neg h1]
       by_cases h2:k < i∨(k = i∧t < j)
       ·rw [if_pos h2,if_pos (by omega)]
       ·rw [if_neg h2,if_neg (by omega)]
     have hold:shF c polys lost j i = -1→∀ t k,t < c.H.toNat→k < c.H.toNat→g t k = if k < i∨(k = i∧t < j+1) then shF c polys lost t k else -1:=fun he t k ht hk=>by
      rw [hnext t k ht hk]
      by_cases h1:t = j∧k = i
      ·rw [if_pos h1,he,hg t k ht hk,if_neg (by omega)]
      ·rw [if_neg h1]
     clear hg hf hSg hp
     by_cases hji:j = i
     ·have he := hold (by rw [shF, if_neg (fun h => h.2.1 hji)])
      unfold HpT
      refine W.run ?_
      exact W.kl (j+1,g) rfl (HS.refl _) (by omega) ⟨by dsimp only;omega,he⟩ (by dsimp only;omega)
     ·cases hin:lost.any (lstQ ((i:Int)+1) ((j:Int)+1))
      ·rw [hin] at c3
       have hv:shF c polys lost j i = S[j]:=by rw [shF,hpa,if_pos ⟨hz,hji,hin⟩,hsj]
       clear hold
       unfold HpT
       refine W.run ?_
       refine W.kl (j+1,updF g j i S[j]) rfl ?_ (by omega) ⟨by dsimp only;omega,fun t k ht hk=>?_⟩ (by dsimp only;omega)
       ·dsimp only
        rw [← HpM_setT (by omega) hjl hiH hnd]
        exact HS.refl _
       ·rw [hnext t k ht hk,hv];rfl
      ·rw [hin] at c3
       have he:=hold (by rw [shF,if_neg (fun h=>by rw [hin] at h;exact absurd h.2.2 (by simp))])
       unfold HpT
       refine W.run ?_
       exact W.kl (j+1,g) rfl (HS.refl _) (by omega) ⟨by dsimp only;omega,he⟩ (by dsimp only;omega)
    ·have hjH : j = c.H.toNat := by omega
     subst hjH
     unfold HpT
     refine W.run ?_
     refine W.kl (i+1,g) rfl (HS.refl _) (by omega) ⟨by dsimp only;omega,fun t k ht hk=>?_⟩ (by dsimp only;omega)
     dsimp only
     rw [hg t k ht hk]
     by_cases h1:k < i+1
     ·rw [if_pos h1,if_pos (by omega)]
     ·rw [if_neg h1,if_neg (by omega)]
  ·have hil : i = polys.length := by omega
   subst hil
   have hfz:=frz_rows (c:=c) (f:=f) hl hnd h32
   have hft:tab2 c.H.toNat f = tab2 c.H.toNat (shF c polys lost):=tab2_congr fun t k ht hk=>by rw [hf t k ht hk,if_pos (by omega)]
   rw [hft] at hfz
   obtain ⟨H',hfz⟩:=hfz
   unfold HpT at hfz ⊢
   refine W.run ?_
   exact W.retP rfl (by rw [fin_x];exact hfz) rfl
end Go.Dp
