import Derived.Test.YtgbjppfikncpcaaGreatDvK9
namespace Go.Dp
open Go.RowKit Go.Proofs
attribute [local irreducible] wp wpOps wpOp1 CallW CallT kSeq kBlk kLoop kReg retP retR kAsg kRound kRf kCut kItr kItr2
set_option linter.unusedVariables false
set_option linter.unusedSimpArgs false
def lastI (b:List Int) (i:Nat):Int:=if i = 0 then -1 else b.getD (i - 1) 0
theorem lastI_succ {b:List Int} {i:Nat} (h:i < b.length):lastI b (i+1) = b[i]:=by unfold lastI;rw [if_neg (by omega),Nat.add_sub_cancel,getD_at h]
set_option maxRecDepth 10000 in
theorem k44 (b:List Int) (v:Int) (hb:b.length < 2 ^ 40):PureC Tryz.prog 44 [.int .i64 v,.sl (b.map (V.int .i64)) b.length] (fun r=>r = .bool (riseB v (-1) b)):=by
 refine pureC_of_wp .x mixed ok44 rfl ?_
 unfold c44
 dsimp only [argE]
 refine W.run ?_
 refine W.lp (fun i:Nat=>[(0,.int .i64 v),(1,.sl (b.map (V.int .i64)) b.length),(5,.int .i64 (i:Int))]) (fun _ _=>none) (fun i=>i≤b.length∧riseB v (-1) b = riseB v (lastI b i) (b.drop i)∧-1≤lastI b i) (fun i=>b.length - i) 0 rfl (HS.refl _) ⟨by omega,rfl,by unfold lastI;simp⟩ ?_
 rintro i nx ⟨hi,hr,hl⟩ hnx
 by_cases hil:i < b.length
 ·rw [riseB_drop hil] at hr
  by_cases h0:b[i] < 0
  ·rw [decide_eq_true (by omega : b[i] ≤ lastI b i), Bool.true_or, Bool.not_true, Bool.false_and] at hr
   rw [hr]
   clear hr
   refine W.run ?_
   rfl
  ·by_cases h2:v≤b[i]
   ·rw [decide_eq_true h2,Bool.or_true,Bool.not_true,Bool.false_and] at hr
    rw [hr]
    clear hr
    refine W.run ?_
    rfl
   ·have hs:=lastI_succ hil
    rcases i with _ | i
    ·rw [decide_eq_false (by unfold lastI; rw [if_pos rfl]; omega), decide_eq_false h2, Bool.or_self, Bool.not_false, Bool.true_and, ← hs] at hr
     refine W.run ?_
     exact W.kl 1 rfl (HS.refl _) (by omega) ⟨by omega,hr,by rw [show lastI b 1 = b[0] from hs];omega⟩ (by omega)
    ·have hs2 : lastI b (i + 1) = b[i] := lastI_succ (by omega)
     rw [hs2] at hr hl
     have et:(((i+1:Nat):Int) - 1).toNat = i:=by omega
     by_cases h1:b[i+1]≤b[i]
     ·rw [decide_eq_true h1,Bool.true_or,Bool.not_true,Bool.false_and] at hr
      rw [hr]
      clear hr
      refine W.run ?_
      simp only [et]
      refine W.run ?_
      rfl
     ·rw [decide_eq_false h1,decide_eq_false h2,Bool.or_self,Bool.not_false,Bool.true_and,← hs] at hr
      refine W.run ?_
      simp only [et]
      refine W.run ?_
      exact W.kl (i+2) rfl (HS.refl _) (by omega) ⟨by omega,hr,by rw [hs];omega⟩ (by omega)
 ·rw [List.drop_of_length_le (by omega)] at hr
  rw [hr]
  clear hr
  refine W.run ?_
  rfl
noncomputable def chkW (v:Int) (bs:List (List Int)):V :=
 if chkE v bs = 0 then parV v bs.length ((bs.length:Int) * (bs.headD []).length / v) (bs.headD []).length (allP bs bs.length 1) else parV 0 0 0 0 0
def rowC (v:Nat) (ids:List Nat):List V:=ids.map (fun id=>V.ref id 0 0 v)++List.replicate (v - ids.length) .nils
theorem zerosV_rep (z:V):∀ n,zerosV [z] n = List.replicate n z
 | 0=>rfl
 | n+1=>by rw [zerosV,zerosV_rep z n,List.replicate_succ];rfl
theorem rowT_0 {V' x:Nat}:(rowT (fun _=>0) V' x).cells = zerosV [V.int .i64 0] V':=by
 unfold rowT
 rw [zerosV_rep]
 exact (List.map_const' ..).trans (by rw [List.length_range])
@[go_sem] theorem HpV_in {B:Hp} {os:List (Nat × Ob)} {lo n id:Nat} {ob:Ob} (hb:BV os lo n) (hm:(id,ob)∈os):HpV B os lo n id = some ob:=HpV_obj hb hm
theorem rowT_len {F:Nat→Int} {V' x:Nat}:(rowT F V' x).cells.length = V':=by unfold rowT;rw [List.length_map,List.length_range]
theorem rowT_at {F:Nat→Int} {V' x y:Nat} (h:y < (rowT F V' x).cells.length):(rowT F V' x).cells[y] = .int .i64 (F (x * 200+y)):=by
 have hl:y < V':=by rw [rowT_len] at h;exact h
 have e:(rowT F V' x).cells[y]? = some (.int .i64 (F (x * 200+y))):=by
  unfold rowT
  dsimp only
  rw [List.getElem?_map,List.getElem?_range hl];rfl
 rw [List.getElem?_eq_getElem h] at e
 exact Option.some.inj e
theorem rowT_z {V' x:Nat}:({ cells:=zerosV [V.int .i64 0] V',sz:=1 }:Ob) = rowT (fun _=>0) V' x:=by rw [← rowT_0 (x:=x)];rfl
theorem idsOk.snoc {ids:List Nat} {lo n n' id:Nat} (h:idsOk ids lo n) (hi:n≤id∧id < n') (hlo:lo < n):idsOk (ids++[id]) lo n':=by
 refine ⟨List.nodup_append.2 ⟨h.1,by simp,fun a ha b hb=>?_⟩,fun i hi2=>?_⟩
 ·have:=h.2 a ha
  rw [List.mem_singleton] at hb
  omega
 ·rcases List.mem_append.1 hi2 with hi2 | hi2
  ·have:=h.2 i hi2;omega
  ·rw [List.mem_singleton.1 hi2];omega
theorem rowC_0 {V':Nat}:rowC V' [] = zerosV [V.nils] V':=by unfold rowC;rw [zerosV_rep];rfl
theorem rowC_len {V':Nat} {ids:List Nat} (h:ids.length≤V'):(rowC V' ids).length = V':=by unfold rowC;simp;omega
theorem rowC_set {V' id:Nat} {ids:List Nat} (h:ids.length < V'):(rowC V' ids).set ids.length (.ref id 0 0 V') = rowC V' (ids++[id]):=by
 unfold rowC
 rw [List.set_append_right _ _ (by simp),List.length_map,Nat.sub_self,List.map_append,List.append_assoc,List.length_append,List.length_singleton]
 obtain ⟨k,hk⟩:∃ k,V' - ids.length = k+1:=⟨V' - ids.length - 1,by omega⟩
 rw [hk,List.replicate_succ,show V' - (ids.length+1) = k by omega];rfl
theorem rowC_at {V' x:Nat} {ids:List Nat} (h:ids.length = V') (hx:x < (rowC V' ids).length) (hi:x < ids.length):(rowC V' ids)[x] = .ref ids[x] 0 0 V':=by
 have e:(rowC V' ids)[x]? = some (.ref ids[x] 0 0 V'):=by
  unfold rowC
  rw [List.getElem?_append_left (by rw [List.length_map];exact hi),List.getElem?_map,List.getElem?_eq_getElem hi];rfl
 rw [List.getElem?_eq_getElem hx] at e
 exact Option.some.inj e
set_option maxRecDepth 10000 in
set_option maxHeartbeats 4000000 in
theorem k22 (v:Int) (hv:-2 ^ 63≤v∧v < 2 ^ 63) (bs:List (List Int)) (hl:bs.length < 2 ^ 40) (hb:∀ b∈bs,b.length < 2 ^ 40∧∀ n∈b,-2 ^ 63≤n∧n < 2 ^ 63):PureC Tryz.prog 22 [.int .i64 v,rowsV bs] (fun r=>r = .tup [chkW v bs,.int .i64 (chkE v bs)]):=by
 refine pureC_of_wp (.l [.x,.x]) mixed ok22 rfl ?_
 unfold c22 chkW
 dsimp only [argE,parV]
 by_cases h1:v < 3
 ·have e : chkE v bs = 1 := by unfold chkE; rw [if_pos (.inl h1)]
  rw [e,if_neg (by omega)]
  refine W.run ?_
  rfl
 by_cases h2:200 < v
 ·have e : chkE v bs = 1 := by unfold chkE; rw [if_pos (.inr h2)]
  rw [e,if_neg (by omega)]
  refine W.run ?_
  rfl
 obtain ⟨V',rfl⟩:∃ V':Nat,v = V':=⟨v.toNat,by omega⟩
 have e1:chkE (V':Int) bs = if 2000 < bs.length then 2
  else if bs.length = 0∨(bs.headD []).length < 2∨(V':Int)≤(bs.headD []).length then 60
  else if (bs.all (goodB (V':Int) (bs.headD []).length)) = false then 60
  else if @decide (PairsOk V' (allP bs bs.length) (allP bs bs.length 1)) (Classical.propDecidable _) = false then 60
  else if allP bs bs.length 1 = 0 then 60 else 0:=by unfold chkE;rw [if_neg (by omega),Int.toNat_natCast]
 by_cases h3:2000 < bs.length
 ·rw [if_pos h3] at e1
  rw [e1,if_neg (by omega)]
  refine W.run ?_
  rfl
 rw [if_neg h3] at e1
 by_cases h5:bs.length = 0
 ·rw [if_pos (.inl h5)] at e1
  rw [e1,if_neg (by omega)]
  refine W.run ?_
  rfl
 obtain ⟨b0,bs',rfl⟩:∃ b0 bs',bs = b0::bs':=by
  cases bs with
  | nil=>exact absurd rfl h5
  | cons b0 bs'=>exact ⟨b0,bs',rfl⟩
 have hb0:=(hb b0 (by simp)).1
 have hbl:=h3
 rw [List.length_cons] at hbl
 by_cases h6:b0.length < 2
 ·rw [if_pos (.inr (.inl h6))] at e1
  rw [e1,if_neg (by omega)]
  refine W.run ?_
  rfl
 by_cases h7:(V':Int)≤b0.length
 ·rw [if_pos (.inr (.inr h7))] at e1
  rw [e1,if_neg (by omega)]
  refine W.run ?_
  rfl
 refine W.run ?_
 obtain ⟨bs,hbs⟩:∃ bs,bs = b0::bs':=⟨_,rfl⟩
 obtain ⟨K,hK⟩:∃ K,K = b0.length:=⟨_,rfl⟩
 have hbl2:bs.length = bs'.length+1:=by rw [hbs];rfl
 have hhd:((b0::bs').headD []).length = K:=by rw [hK];rfl
 rw [hhd,← hbs] at e1
 rw [hhd]
 rw [if_neg (by omega)] at e1
 rw [← hbs] at h3 h5 hb hl ⊢
 rw [← hK] at hb0 h6 h7 ⊢
 rw [← hbl2] at hbl
 clear hbs hK hhd
 have hKv:(K:Int) < (V':Int)∧2≤K∧K < 200:=by omega
 have bad:(∃ i,∃ h:i < bs.length,goodB (V':Int) K bs[i] = false)→chkE (V':Int) bs = 60:=by
  rintro ⟨i,hi,hg⟩
  rw [e1,if_pos]
  cases ha:bs.all (goodB (V':Int) K)
  ·rfl
  ·rw [List.all_eq_true] at ha
   rw [ha _ (List.getElem_mem hi)] at hg;cases hg
 rw [← rowC_0]
 refine W.loop (fun z:List Nat × Nat=>⟨[(0,.int .i64 (V':Int)),(1,rowsV bs),(4,.ptr 0 0 0),(6,.int .i64 (K:Int)),(7,.ref 216 0 0 V'),(8,.int .i64 (z.1.length:Int))],HpV ((Hp.put (fun _=>none) 0 { cells:=[.int .i64 0,.int .i64 0,.int .i64 0,.int .i64 0,.int .i64 0],sz:=5 }).put 216 { cells:=rowC V' z.1,sz:=1 }) (osT (fun _=>0) V' 0 z.1) 216 z.2,z.2⟩)
  (fun z=>z.1.length≤V'∧idsOk z.1 216 z.2∧216 < z.2) (fun z=>V' - z.1.length) ([],_) ⟨by dsimp only;simp,⟨List.nodup_nil,fun i h=>by cases h⟩,by dsimp only;omega⟩ ?_ rfl (HS.refl _) rfl
 rintro ⟨ids,nx⟩ ⟨hil,hids,hnx⟩
 dsimp only at hil hids hnx ⊢
 have hbv:=hids.bv (F:=fun _=>0) (v:=V') (x:=0)
 have hcl:=rowC_len hil
 by_cases hi:ids.length < V'
 ·refine W.run ?_
  rw [set_td (show ids.length < (rowC V' ids).length by omega),rowC_set hi]
  refine W.kl0 (HpV ((Hp.put (fun _=>none) 0 { cells:=[.int .i64 0,.int .i64 0,.int .i64 0,.int .i64 0,.int .i64 0],sz:=5 }).put 216 { cells:=rowC V' (ids++[nx+24+24]),sz:=1 }) (osT (fun _=>0) V' 0 (ids++[nx+24+24])) 216 (nx+96)) ?_ ⟨(ids++[nx+24+24],nx+96),⟨by simp;omega,hids.snoc (by omega) hnx,by dsimp only;omega⟩,by rw [List.length_append];rfl,by simp;omega⟩ Nat.zero_lt_one
  rw [osT_app,HpV_snoc (n:=nx),HpV_put hbv (by dsimp only;omega),← rowT_z]
  exact HS.refl _
 ·have hie : ids.length = V' := by omega
  have hVv:V'≤200:=by omega
  refine W.run ?_
  have hT0:osT (fun _=>0) V' 0 ids = osT (allP bs 0) V' 0 ids:=rfl
  rw [hT0]
  refine W.lp (fun n:Nat=>[(0,.int .i64 (V':Int)),(1,rowsV bs),(4,.ptr 0 0 0),(6,.int .i64 (K:Int)),(7,.ref 216 0 0 V'),(9,.int .i64 (n:Int))]) (fun n=>HpV ((Hp.put (fun _=>none) 0 { cells:=[.int .i64 0,.int .i64 0,.int .i64 0,.int .i64 0,.int .i64 0],sz:=5 }).put 216 { cells:=rowC V' ids,sz:=1 }) (osT (allP bs n) V' 0 ids) 216 nx) (fun n=>n≤bs.length∧∀ i (h:i < bs.length),i < n→goodB (V':Int) K bs[i] = true) (fun n=>bs.length - n) 0 rfl (HS.refl _) ⟨by omega,fun i _ h=>absurd h (Nat.not_lt_zero _)⟩ ?_
  clear hT0 hi hil hbv
  rintro n nx1 ⟨hn,hgood⟩ hnx1
  have hbv:=hids.bv (F:=allP bs n) (v:=V') (x:=0)
  by_cases hnl:n < bs.length
  ·have hbn:=hb bs[n] (List.getElem_mem hnl)
   by_cases hlen:bs[n].length = K
   ·have c44 := k44 bs[n] (V' : Int) (by omega)
    cases hr:riseB (V':Int) (-1) bs[n]
    ·have hE := bad ⟨n, hnl, by unfold goodB; rw [hr, Bool.and_false]⟩
     rw [hr] at c44
     clear bad hgood e1
     rw [hE,if_neg (by omega)]
     refine W.run ?_
     rfl
    ·rw [hr] at c44
     have hbd:∀ q,0≤allP bs n q∧allP bs n q≤80000000:=fun q=>by
      have h:=allP_bd (bs:=bs) (K:=200) q n hn fun i hi hin=>by
       have:=hgood i hi hin
       unfold goodB at this
       rw [Bool.and_eq_true,decide_eq_true_eq] at this
       omega
      omega
     have hsc:=allP_succ hnl
     have hg1:goodB (V':Int) K bs[n] = true:=by unfold goodB;rw [hr,decide_eq_true hlen];rfl
     have hrg:=riseB_rng hr
     clear hr bad e1
     have hnext:∀ i (h:i < bs.length),i < n+1→goodB (V':Int) K bs[i] = true:=fun i h hi=>by
      by_cases e:i = n
      ·subst e;exact hg1
      ·exact hgood i h (by omega)
     clear hgood hg1
     refine W.run ?_
     obtain ⟨b,hbe⟩:∃ b,b = bs[n]:=⟨_,rfl⟩
     rw [← hbe] at hlen hsc hrg hbn c44
     generalize allP bs n = F0 at hbd hsc hbv ⊢
     refine W.lp (fun i:Nat=>[(0,.int .i64 (V':Int)),(1,rowsV bs),(4,.ptr 0 0 0),(6,.int .i64 (K:Int)),(7,.ref 216 0 0 V'),(9,.int .i64 (n:Int)),(10,.int .i64 (i:Int))]) (fun i=>HpV ((Hp.put (fun _=>none) 0 { cells:=[.int .i64 0,.int .i64 0,.int .i64 0,.int .i64 0,.int .i64 0],sz:=5 }).put 216 { cells:=rowC V' ids,sz:=1 }) (osT (blkP F0 b i) V' 0 ids) 216 nx) (fun i=>i≤b.length) (fun i=>b.length - i) 0 rfl (HS.refl _) (by omega) ?_
     clear hbv c44
     rintro i nx2 hi hnx2
     by_cases hil:i < b.length
     ·have hsi:=blkP_succ (F:=F0) hil
      have hx:=hrg b[i] (List.getElem_mem hil)
      have hbi:=fun q=>blkP_bd (F:=F0) (b:=b) q i
      generalize blkP F0 b i = F1 at hsi hbi ⊢
      refine W.run ?_
      refine W.lp (fun j:Nat=>[(0,.int .i64 (V':Int)),(1,rowsV bs),(4,.ptr 0 0 0),(6,.int .i64 (K:Int)),(7,.ref 216 0 0 V'),(9,.int .i64 (n:Int)),(10,.int .i64 (i:Int)),(11,.int .i64 (j:Int))]) (fun j=>HpV ((Hp.put (fun _=>none) 0 { cells:=[.int .i64 0,.int .i64 0,.int .i64 0,.int .i64 0,.int .i64 0],sz:=5 }).put 216 { cells:=rowC V' ids,sz:=1 }) (osT (rowP F1 b b[i] j) V' 0 ids) 216 nx) (fun j=>j≤i) (fun j=>i - j) 0 rfl (HS.refl _) (by omega) ?_
      rintro j nx3 hj hnx3
      by_cases hji:j < i
      ·have hsj := rowP_succ (F := F1) (x := b[i]) (show j < b.length by omega)
       have hy:=hrg b[j] (List.getElem_mem (by omega))
       have hbj:=fun q=>rowP_bd (F:=F1) (b:=b) (x:=b[i]) q j
       have q1:=hbd (b[j].toNat * 200+b[i].toNat)
       have q2:=hbi (b[j].toNat * 200+b[i].toNat)
       have q3:=hbj (b[j].toNat * 200+b[i].toNat)
       have hii:(i:Int) * i≤200 * 200:=Int.mul_le_mul (by omega) (by omega) (by omega) (by omega)
       clear hbd hbi hbj hrg
       generalize rowP F1 b b[i] j = F2 at hsj q3 ⊢
       have hw:0≤F2 (b[j].toNat * 200+b[i].toNat)∧F2 (b[j].toNat * 200+b[i].toNat)≤90000000:=by omega
       clear q1 q2 q3 hii
       have hbv:=hids.bv (F:=F2) (v:=V') (x:=0)
       have hjV:b[j].toNat < ids.length:=by omega
       have hat:=rowC_at hie (show b[j].toNat < (rowC V' ids).length by omega) hjV
       have hmem:(ids[b[j].toNat],({ cells:=(rowT F2 V' b[j].toNat).cells,sz:=1 }:Ob))∈osT F2 V' 0 ids:=by
        have:=osT_mem (F:=F2) (v:=V') (x:=0) hjV
        rw [Nat.zero_add] at this;exact this
       have hrl:(rowT F2 V' b[j].toNat).cells.length = V':=rowT_len
       have hra:=rowT_at (F:=F2) (V':=V') (x:=b[j].toNat) (y:=b[i].toNat) (by omega)
       have hset:=rowT_set (F:=F2) (x:=b[j].toNat) hVv (show b[i].toNat < V' by omega)
       have hinc:=HpT_inc (B:=(Hp.put (fun _=>none) 0 { cells:=[.int .i64 0,.int .i64 0,.int .i64 0,.int .i64 0,.int .i64 0],sz:=5 }).put 216 { cells:=rowC V' ids,sz:=1 }) (F:=F2) (y:=b[i].toNat) hids hVv hjV (show b[i].toNat < V' by omega)
       refine W.run ?_
       rw [← hbe]
       refine W.run ?_
       rw [← hbe]
       refine W.run ?_
       rw [hat]
       refine W.run ?_
       rw [hra]
       refine W.run ?_
       rw [set_td (show b[i].toNat < (rowT F2 V' b[j].toNat).cells.length by omega),hset]
       refine W.kl (j+1) rfl ?_ (by omega) (by omega) (by omega)
       rw [hsj,← hinc]
       exact HS.refl _
      ·have hje : j = i := by omega
       subst hje
       refine W.run ?_
       exact W.kl (j+1) rfl (by rw [hsi];exact HS.refl _) (by omega) (by omega) (by omega)
     ·have hie2 : i = b.length := by omega
      subst hie2
      refine W.run ?_
      exact W.kl (n+1) rfl (by rw [hsc];exact HS.refl _) (by omega) ⟨by omega,hnext⟩ (by omega)
   ·have hE := bad ⟨n, hnl, by unfold goodB; rw [decide_eq_false hlen, Bool.false_and]⟩
    clear bad hgood e1
    rw [hE,if_neg (by omega)]
    refine W.run ?_
    rfl
  ·have hne : n = bs.length := by omega
   subst hne
   have hall:bs.all (goodB (V':Int) K) = true:=List.all_eq_true.2 fun b hb=>by
    obtain ⟨i,hi,rfl⟩:=List.getElem_of_mem hb
    exact hgood i hi hi
   rw [hall,if_neg (by simp)] at e1
   have hbd:∀ q,0≤allP bs bs.length q∧allP bs bs.length q≤80000000:=fun q=>by
    have h:=allP_bd (bs:=bs) (K:=200) q bs.length hn fun i hi hin=>by
     have:=hgood i hi hin
     unfold goodB at this
     rw [Bool.and_eq_true,decide_eq_true_eq] at this
     omega
    omega
   clear hall hgood bad
   have hL1:=hbd 1
   generalize allP bs bs.length = F at e1 hbd hL1 hbv ⊢
   have bad2:¬ PairsOk V' F (F 1)→chkE (V':Int) bs = 60:=fun h=>by rw [e1,if_pos (by rw [@decide_eq_false _ (Classical.propDecidable _) h])]
   have good2:PairsOk V' F (F 1)→chkE (V':Int) bs = if F 1 = 0 then 60 else 0:=fun h=>by rw [e1,if_neg (by rw [@decide_eq_true _ (Classical.propDecidable _) h];simp)]
   have bad3:F 1 = 0→chkE (V':Int) bs = 60:=fun h=>by
    by_cases hp:PairsOk V' F (F 1)
    ·rw [good2 hp,if_pos h]
    ·exact bad2 hp
   clear e1
   have hmem:∀ x (hx:x < ids.length),(ids[x],({ cells:=(rowT F V' x).cells,sz:=1 }:Ob))∈osT F V' 0 ids:=fun x hx=>by
    have:=osT_mem (F:=F) (v:=V') (x:=0) hx
    rw [Nat.zero_add] at this;exact this
   have hm0:=hmem 0 (by omega)
   have hat0:=rowC_at hie (show 0 < (rowC V' ids).length by omega) (by omega)
   have hrl0:(rowT F V' 0).cells.length = V':=rowT_len
   have hra0:(rowT F V' 0).cells[1]'(by omega) = .int .i64 (F 1):=by rw [rowT_at]
   refine W.run ?_
   rw [hat0]
   refine W.run ?_
   rw [hra0]
   refine W.run ?_
   clear hm0 hat0 hra0 hrl0
   by_cases h0:F 1 = 0
   ·have hE:=bad3 h0
    clear bad2 good2 bad3
    rw [hE,if_neg (by omega)]
    refine W.lp (fun x:Nat=>[(0,.int .i64 (V':Int)),(1,rowsV bs),(4,.ptr 0 0 0),(6,.int .i64 (K:Int)),(7,.ref 216 0 0 V'),(14,.int .i64 (F 1)),(15,.int .i64 (x:Int))]) (fun _=>HpV ((Hp.put (fun _=>none) 0 { cells:=[.int .i64 0,.int .i64 0,.int .i64 0,.int .i64 0,.int .i64 0],sz:=5 }).put 216 { cells:=rowC V' ids,sz:=1 }) (osT F V' 0 ids) 216 nx) (fun x=>x = 0) (fun _=>0) 0 rfl (HS.refl _) rfl ?_
    rintro x ny rfl hny
    refine W.run ?_
    refine W.lp (fun y:Nat=>[(0,.int .i64 (V':Int)),(1,rowsV bs),(4,.ptr 0 0 0),(6,.int .i64 (K:Int)),(7,.ref 216 0 0 V'),(14,.int .i64 (F 1)),(15,.int .i64 ((0:Nat):Int)),(16,.int .i64 (y:Int))]) (fun _=>HpV ((Hp.put (fun _=>none) 0 { cells:=[.int .i64 0,.int .i64 0,.int .i64 0,.int .i64 0,.int .i64 0],sz:=5 }).put 216 { cells:=rowC V' ids,sz:=1 }) (osT F V' 0 ids) 216 nx) (fun y=>y = 1) (fun _=>0) 1 rfl (HS.refl _) rfl ?_
    rintro y ny2 rfl hny2
    have hm0:=hmem 0 (by omega)
    have hat0:=rowC_at hie (show 0 < (rowC V' ids).length by omega) (by omega)
    have hrl0:(rowT F V' 0).cells.length = V':=rowT_len
    have hra0:(rowT F V' 0).cells[1]'(by omega) = .int .i64 (F 1):=by rw [rowT_at]
    refine W.run ?_
    rw [hat0]
    refine W.run ?_
    rw [hra0]
    refine W.run ?_
    rfl
   ·refine W.lp (fun x : Nat => [(0, .int .i64 (V' : Int)), (1, rowsV bs), (4, .ptr 0 0 0), (6, .int .i64 (K : Int)), (7, .ref 216 0 0 V'), (14, .int .i64 (F 1)), (15, .int .i64 (x : Int))]) (fun _ => HpV ((Hp.put (fun _ => none) 0 { cells := [.int .i64 0, .int .i64 0, .int .i64 0, .int .i64 0, .int .i64 0], sz := 5 }).put 216 { cells := rowC V' ids, sz := 1 }) (osT F V' 0 ids) 216 nx) (fun x => x ≤ V' ∧ ∀ x' y : Nat, x' < x → x' < y → y < V' → F (x' * 200 + y) = F 1) (fun x => V' - x) 0 rfl (HS.refl _) ⟨by omega, fun x' y h => absurd h (Nat.not_lt_zero _)⟩ ?_
    rintro x ny ⟨hx,hP⟩ hny
    by_cases hxv:x < V'
    ·refine W.run ?_
     refine W.lp (fun y:Nat=>[(0,.int .i64 (V':Int)),(1,rowsV bs),(4,.ptr 0 0 0),(6,.int .i64 (K:Int)),(7,.ref 216 0 0 V'),(14,.int .i64 (F 1)),(15,.int .i64 (x:Int)),(16,.int .i64 (y:Int))]) (fun _=>HpV ((Hp.put (fun _=>none) 0 { cells:=[.int .i64 0,.int .i64 0,.int .i64 0,.int .i64 0,.int .i64 0],sz:=5 }).put 216 { cells:=rowC V' ids,sz:=1 }) (osT F V' 0 ids) 216 nx) (fun y=>(x < y∧y≤V')∧∀ y':Nat,x < y'→y' < y→F (x * 200+y') = F 1) (fun y=>V' - y) (x+1) rfl (HS.refl _) ⟨by omega,fun y' h1 h2=>by omega⟩ ?_
     rintro y ny2 ⟨⟨hy1,hy2⟩,hPy⟩ hny2
     by_cases hyv:y < V'
     ·have hm0 := hmem x (by omega)
      have hat0:=rowC_at hie (show x < (rowC V' ids).length by omega) (by omega)
      have hrl0:(rowT F V' x).cells.length = V':=rowT_len
      have hra0:(rowT F V' x).cells[y]'(by omega) = .int .i64 (F (x * 200+y)):=rowT_at _
      by_cases hF:F (x * 200+y) = F 1
      ·have hP3:∀ y':Nat,x < y'→y' < y+1→F (x * 200+y') = F 1:=fun y' h1 h2=>by
        by_cases e:y' = y
        ·subst e;exact hF
        ·exact hPy y' h1 (by omega)
       clear hP hPy bad2 good2 bad3 hmem
       refine W.run ?_
       rw [hat0]
       refine W.run ?_
       rw [hra0]
       refine W.run ?_
       exact W.kl (y+1) rfl (HS.refl _) (by omega) ⟨by omega,hP3⟩ (by omega)
      ·have hE:=bad2 fun h=>hF (h x y hy1 hyv)
       rw [hE,if_neg (by omega)]
       clear hP hPy bad2 good2 bad3 hmem
       refine W.run ?_
       rw [hat0]
       refine W.run ?_
       rw [hra0]
       refine W.run ?_
       rfl
     ·have hP2:∀ x' y':Nat,x' < x+1→x' < y'→y' < V'→F (x' * 200+y') = F 1:=fun x' y' h1 h2 h3=>by
       by_cases e:x' = x
       ·subst e;exact hPy y' h2 (by omega)
       ·exact hP x' y' (by omega) h2 h3
      clear hP hPy bad2 good2 bad3 hmem
      refine W.run ?_
      exact W.kl (x+1) rfl (HS.refl _) (by omega) ⟨by omega,hP2⟩ (by omega)
    ·have hE := good2 fun x' y h1 h2 => hP x' y (by omega) h1 h2
     rw [if_neg h0] at hE
     rw [hE,if_pos rfl]
     clear hP bad2 good2 bad3 hmem
     have q1:=mul_abs_bd (a:=(bs.length:Int)) (b:=(K:Int)) (A:=2000) (B:=200) (by omega) (by omega)
     have q2:0≤(bs.length:Int) * (K:Int):=Int.mul_nonneg (by omega) (by omega)
     refine W.run ?_
     rfl
theorem eq_take {α:Type} {A B:List α} {i:Nat} (ha:i < A.length) (hb:i < B.length) (h:A.take i = B.take i):A.take (i+1) = B.take (i+1)↔A[i] = B[i]:=by
 rw [← List.take_append_getElem ha,← List.take_append_getElem hb,h]
 constructor
 ·intro e
  have:=List.append_cancel_left e
  exact (List.cons.inj this).1
 ·intro e;rw [e]
set_option maxRecDepth 10000 in
theorem k9 (A B:List Int) (hA:A.length < 2 ^ 40) (hB:B.length < 2 ^ 40):PureC Tryz.prog 9 [.sl (A.map (V.int .i64)) A.length,.sl (B.map (V.int .i64)) B.length] (fun r=>r = .bool (decide (A = B))):=by
 refine pureC_of_wp .x mixed ok9 rfl ?_
 unfold c9
 dsimp only [argE]
 by_cases hl:A.length = B.length
 ·refine W.run ?_
  refine W.lp (fun i:Nat=>[(0,.sl (A.map (V.int .i64)) A.length),(1,.sl (B.map (V.int .i64)) B.length),(5,.int .i64 (i:Int))]) (fun _ _=>none) (fun i=>i≤A.length∧A.take i = B.take i) (fun i=>A.length - i) 0 rfl (HS.refl _) ⟨by omega,by simp⟩ ?_
  rintro i nx ⟨hi,hI⟩ hnx
  by_cases hil:i < A.length
  ·have ht := eq_take hil (by omega : i < B.length) hI
   by_cases he:A[i] = B[i]
   ·have h2:=ht.2 he
    clear ht hI
    refine W.run ?_
    exact W.kl (i+1) rfl (HS.refl _) (by omega) ⟨by omega,h2⟩ (by omega)
   ·have hne : A ≠ B := fun e => by subst e; exact he rfl
    rw [decide_eq_false hne]
    clear ht hI hne
    refine W.run ?_
    rfl
  ·have hE : A = B := by rwa [List.take_of_length_le (by omega), List.take_of_length_le (by omega)] at hI
   rw [decide_eq_true hE]
   clear hI hE
   refine W.run ?_
   rfl
 ·rw [decide_eq_false (fun e => hl (by rw [e]))]
  refine W.run ?_
  rfl
def idxI (x:Int):List Int→Int→Int
 | [],_=>-1
 | a::l,n=>if x = a then n else idxI x l (n+1)
theorem idxI_drop {x:Int} {A:List Int} {i:Nat} (h:i < A.length):idxI x (A.drop i) (i:Int) = if x = A[i] then (i:Int) else idxI x (A.drop (i+1)) ((i:Int)+1):=by
 rw [List.drop_eq_getElem_cons h];rfl
theorem idxI_any {x:Int}:∀ (A:List Int) (n:Int),0≤n→(0≤idxI x A n↔x∈A)
 | [],n,h=>by simp [idxI]
 | a::l,n,h=>by
  unfold idxI
  split
  ·rename_i e;simp [e,h]
  ·rename_i e
   rw [idxI_any l (n+1) (by omega)]
   simp [e]
set_option maxRecDepth 10000 in
theorem k62 (A:List Int) (x:Int) (hA:A.length < 2 ^ 40):PureC Tryz.prog 62 [.sl (A.map (V.int .i64)) A.length,.int .i64 x] (fun r=>r = .int .i64 (idxI x A 0)):=by
 refine pureC_of_wp .x mixed ok62 rfl ?_
 unfold c62
 dsimp only [argE]
 refine W.run ?_
 refine W.lp (fun i:Nat=>[(0,.sl (A.map (V.int .i64)) A.length),(1,.int .i64 x),(7,.int .i64 (A.length:Int)),(8,.int .i64 (i:Int))]) (fun _ _=>none) (fun i=>i≤A.length∧idxI x A 0 = idxI x (A.drop i) i) (fun i=>A.length - i) 0 rfl (HS.refl _) ⟨by omega,rfl⟩ ?_
 rintro i nx ⟨h1,h2⟩ hnx
 by_cases hi:i < A.length
 ·rw [idxI_drop hi] at h2
  by_cases he:x = A[i]
  ·rw [if_pos he] at h2
   refine W.run ?_
   rw [h2]
  ·rw [if_neg he] at h2
   refine W.run ?_
   exact W.kl (i+1) rfl (HS.refl _) (by omega) ⟨by omega,h2⟩ (by omega)
 ·have hi2 : i = A.length := by omega
  subst hi2
  rw [List.drop_length] at h2
  refine W.run ?_
  rw [h2];rfl
theorem k45 (A:List Int) (x:Int) (hA:A.length < 2 ^ 40):PureC Tryz.prog 45 [.sl (A.map (V.int .i64)) A.length,.int .i64 x] (fun r=>r = .bool (decide (x∈A))):=by
 have c1:=k62 A x hA
 have h:=idxI_any (x:=x) A 0 (by omega)
 refine pureC_of_wp .x mixed ok45 rfl ?_
 unfold c45
 dsimp only [argE]
 by_cases hx:x∈A
 ·have:0≤idxI x A 0:=h.2 hx
  clear h
  refine W.run ?_
  rw [decide_eq_true hx]
 ·have:¬ 0≤idxI x A 0:=fun e=>hx (h.1 e)
  clear h
  refine W.run ?_
  rw [decide_eq_false hx]
theorem primesL_le {n:Nat} (hn:0 < n) {p:Nat} (hp:p∈primesL n):p≤n:=Nat.le_of_dvd hn ((primesL_ok hn).1 p hp).2.1
def okPl (L:List Int):Prop:=(2≤L.length∧L.Nodup)∧∀ x∈L,-1≤x∧x≤1000000
theorem okPl.add {L:List Int} (h:okPl L) {N i:Nat} (hN:0 < N∧N≤1000000):okPl (addA L ((primesL N).take i)):=by
 obtain ⟨⟨h1,h2⟩,h3⟩:=h
 refine ⟨⟨?_,addA_nodup h2⟩,fun x hx=>?_⟩
 ·exact Nat.le_trans h1 (nodup_len h2 fun x hx=>addA_mem.2 (.inl hx))
 ·rcases addA_mem.1 hx with hx | ⟨p,hp,rfl⟩
  ·exact h3 x hx
  ·have:=primesL_le hN.1 (List.mem_of_mem_take hp);omega
end Go.Dp
namespace Go.Dp
open Go.RowKit
set_option linter.unusedVariables false
set_option linter.unusedSimpArgs false
def sumN (f:Nat→Int):Nat→Int
 | 0=>0
 | n+1=>sumN f n+f n
theorem sumN_congr {f g:Nat→Int}:∀ {n:Nat},(∀ i,i < n→f i = g i)→sumN f n = sumN g n
 | 0,_=>rfl
 | n+1,h=>by rw [sumN,sumN,sumN_congr fun i hi=>h i (by omega),h n (by omega)]
theorem sumN_inc {f g:Nat→Int} {a:Nat} (ha:g a = f a+1) (h:∀ i,i≠a→g i = f i):∀ n,sumN g n = sumN f n+if a < n then 1 else 0
 | 0=>by simp [sumN]
 | n+1=>by
  rw [sumN,sumN,sumN_inc ha h n]
  by_cases e:n = a
  ·subst e
   rw [ha,if_neg (by omega),if_pos (by omega)];omega
  ·rw [h n e]
   split <;> split <;> omega
def sumT (F:Nat→Int) (v:Nat):Int:=sumN (fun y=>sumN (fun x=>F (x * 200+y)) y) v
theorem sumN_incN {f g:Nat→Int} {a n:Nat} (hn:a < n) (ha:g a = f a+1) (h:∀ i,i < n→i≠a→g i = f i):sumN g n = sumN f n+1:=by
 have h1:sumN g n = sumN (fun i=>if i < n then g i else f i) n:=sumN_congr fun i hi=>by rw [if_pos hi]
 rw [h1, sumN_inc (f := f) (a := a) (by rw [if_pos hn]; exact ha) (fun i hi => by
  split
  ·rename_i hin;exact h i hin hi
  ·rfl) n,if_pos hn]
theorem sumT_inc {F:Nat→Int} {v x y:Nat} (hv:v≤200) (hx:x < y) (hy:y < v):sumT (incF F (x * 200+y)) v = sumT F v+1:=by
 unfold sumT
 refine sumN_incN hy ?_ fun i hi hiy=>?_
 ·refine sumN_incN hx ?_ fun j hj hjx=>?_
  ·unfold incF;rw [if_pos rfl]
  ·unfold incF;rw [if_neg (by omega)]
 ·refine sumN_congr fun j hj=>?_
  unfold incF
  rw [if_neg (by omega)]
theorem rowP_sum {F:Nat→Int} {b:List Int} {v i:Nat} (hv:v≤200) (hi:i < b.length) (hr:riseB (v:Int) (-1) b = true):∀ j,j≤i→sumT (rowP F b b[i] j) v = sumT F v+j
 | 0,_=>by simp [rowP]
 | j+1,hj=>by
  have h1:=riseB_rng hr b[i] (List.getElem_mem hi)
  have h2:=riseB_rng hr (b[j]'(by omega)) (List.getElem_mem _)
  have h3:=List.pairwise_iff_getElem.1 (riseB_pw hr) j i (by omega) hi (by omega)
  rw [rowP_succ (by omega),sumT_inc hv (by omega) (by omega),rowP_sum hv hi hr j (by omega)]
  omega
theorem blkP_sum {F:Nat→Int} {b:List Int} {v:Nat} (hv:v≤200) (hr:riseB (v:Int) (-1) b = true):∀ i,i≤b.length→2 * sumT (blkP F b i) v = 2 * sumT F v+i * ((i:Int) - 1)
 | 0,_=>by simp [blkP]
 | i+1,hi=>by
  rw [blkP_succ (by omega),rowP_sum hv (by omega) hr i (Nat.le_refl _),Int.mul_add,blkP_sum hv hr i (by omega)]
  have e1:(i:Int) * ((i:Int) - 1) = (i:Int) * i - i:=by rw [Int.mul_sub,Int.mul_one]
  have e2:((i+1:Nat):Int) * (((i+1:Nat):Int) - 1) = (i:Int) * i+i:=by
   rw [show (((i+1:Nat):Int) - 1) = i by omega,Int.natCast_add,Int.add_mul];simp
  rw [e1,e2];omega
theorem allP_sum {bs:List (List Int)} {v K:Nat} (hv:v≤200) (hg:∀ b∈bs,goodB (v:Int) K b = true):∀ n,n≤bs.length→2 * sumT (allP bs n) v = n * ((K:Int) * ((K:Int) - 1))
 | 0,_=>by
  have:∀ n,sumN (fun y=>sumN (fun x=>(fun _:Nat=>(0:Int)) (x * 200+y)) y) n = 0:=by
   intro n
   induction n with
   | zero=>rfl
   | succ n ih =>
    rw [sumN,ih]
    have:∀ m,sumN (fun _:Nat=>(0:Int)) m = 0:=by
     intro m
     induction m with
     | zero=>rfl
     | succ m ih=>rw [sumN,ih];rfl
    rw [this];rfl
  have h0:sumT (allP bs 0) v = 0:=this v
  rw [h0];simp
 | n+1,hn=>by
  have h:=hg _ (List.getElem_mem (show n < bs.length by omega))
  unfold goodB at h
  rw [Bool.and_eq_true,decide_eq_true_eq] at h
  rw [allP_succ (by omega),blkP_sum hv h.2 _ (Nat.le_refl _),allP_sum hv hg n (by omega),h.1,Int.natCast_add,Int.add_mul]
  simp
theorem pairs_sum {F:Nat→Int} {l:Int} {v:Nat} (h:PairsOk v F l):∀ n,n≤v→2 * sumT F n = n * ((n:Int) - 1) * l
 | 0,_=>by simp [sumT,sumN]
 | n+1,hn=>by
  have ih:=pairs_sum h n (by omega)
  have hr:∀ m,m≤n→sumN (fun x=>F (x * 200+n)) m = m * l:=by
   intro m
   induction m with
   | zero=>intro _;simp [sumN]
   | succ m ih2 =>
    intro hm
    rw [sumN,ih2 (by omega),h m n (by omega) (by omega),Int.natCast_add,Int.add_mul];simp
  have e:sumT F (n+1) = sumT F n+n * l:=by
   unfold sumT;rw [sumN,hr n (Nat.le_refl _)]
  rw [e,Int.mul_add,ih,show (((n+1:Nat):Int) - 1) = n by omega,Int.natCast_add]
  have e1:(n:Int) * ((n:Int) - 1) * l = (n:Int) * n * l - n * l:=by rw [Int.mul_sub,Int.mul_one,Int.sub_mul]
  have e2:((n:Int)+((1:Nat):Int)) * (n:Int) * l = (n:Int) * n * l+n * l:=by rw [Int.add_mul,Int.add_mul];simp
  rw [e1,e2];omega
theorem same_R {bs:List (List Int)} {v K:Nat} {l:Int} (hv:2≤v∧v≤200) (hK:2≤K) (hg:∀ b∈bs,goodB (v:Int) K b = true) (hp:PairsOk v (allP bs bs.length) l):l * ((v:Int) - 1) / ((K:Int) - 1) = (bs.length:Int) * K / v:=by
 have h1:=allP_sum hv.2 hg bs.length (Nat.le_refl _)
 have h2:=pairs_sum hp v (Nat.le_refl _)
 have h3:(v:Int) * (l * ((v:Int) - 1)) = ((K:Int) - 1) * ((bs.length:Int) * K):=by
  have a:(v:Int) * (l * ((v:Int) - 1)) = v * ((v:Int) - 1) * l:=by rw [Int.mul_comm l,Int.mul_assoc]
  have b:((K:Int) - 1) * ((bs.length:Int) * K) = bs.length * ((K:Int) * ((K:Int) - 1)):=by rw [Int.mul_comm,Int.mul_assoc]
  rw [a,b,← h2,h1]
 have h4:l * ((v:Int) - 1) / ((K:Int) - 1) = ((v:Int) * (l * ((v:Int) - 1))) / ((v:Int) * ((K:Int) - 1)):=(Int.mul_ediv_mul_of_pos _ _ (by omega)).symm
 rw [h4,h3,Int.mul_comm (v:Int)]
 exact Int.mul_ediv_mul_of_pos _ _ (by omega)
end Go.Dp
