import Derived.Test.YtlbjgnkjicifhaaGreatDwL14
import Derived.Test.YtlbjgnkjicifhaaGreatDwJ4
import Derived.Test.YtlbjgnkjicifhaaGreatDwL4
import Derived.Test.YtlbjgnkjicifhaaGreatDwQ0
import Derived.Test.YtlbjgnkjicifhaaGreatDwL13
import Derived.Test.YtlbjgnkjicifhaaGreatDpCut
namespace Go.Dp
open Go.RowKit Go.Proofs
attribute [local irreducible] wp wpOps wpOp1 CallW CallT kSeq kBlk kLoop kReg retP retR kAsg kRound kRf kCut kItr kItr2
set_option linter.unusedVariables false
set_option linter.unusedSectionVars false
set_option linter.unusedSimpArgs false
theorem cut64_lt {l:List (List Int)}:∀ p∈cut64 l,p.length < 2 ^ 20:=fun p hp=>by
 obtain ⟨q,_,rfl⟩:=List.mem_map.1 hp
 rw [List.length_take];omega
set_option maxRecDepth 10000 in
set_option maxHeartbeats 4000000 in
theorem k3 (c:Cf) (hw:B64 c.R∧B64 c.P∧B64 c.G∧B64 c.H∧B64 c.B∧B64 c.K) (l:List (List Int)) (hl:l.length < 2 ^ 63) (hx:∀ p∈l,p.length < 2 ^ 63∧∀ n∈p,B64 n) (b:Brd) (hb:LnA b.d∧LnA b.c∧LnA b.a∧LnA b.r):PureC Tryz.prog 3 [c.v,.sl (l.map slI) l.length,bdV b] (fun r=>r = .bool true):=by
 have hk:=k12 c hw 5 (by omega)
 have c1:PureC Tryz.prog 13 [bdV b,.int .i64 8] (fun r=>r = .tup [bdV (cutB 8 b),bdV (cutB 8 b)]):=k13 b (LnA.at hb) 8 (by omega)
 have hcb:=cutB_ok hb (m:=8) (by omega)
 have hf:=fits_mono (cutB_fit hb (m:=8)) (show (8:Int)≤100 by omega)
 have c2:=fun i (hi:i < l.length)=>k14 ⟨0,0,0,l[i]⟩ (hx _ (List.getElem_mem hi)).1
 generalize cutB 8 b = Y at c1 hcb hf
 have hal:=hcb.1.2.2.1.1
 have hLl:(lostA Y.a).length = Y.a.length:=by simp [lostA]
 refine pureC_of_wp .x mixed ok3 rfl ?_
 unfold c3
 rw [rep6]
 dsimp only [argE,Cf.v,cfgV,bdV]
 refine W.assoc (W.assoc (W.assoc (W.assoc (W.assoc (W.assoc (W.cutN (fun y:Cf × Nat=>[(1,.sl (l.map slI) l.length),(7,.ptr 40 0 0),(8,.ptr 96 0 0),(9,.ptr 104 0 0),(10,.ref 128 (lostA Y.a).length 0 (lostA Y.a).length),(12,.ref y.2 (cut64 (l.take 8)).length 0 (cut64 (l.take 8)).length)]) (fun y=>HC3 y.1 Y (lostA Y.a) (lostA Y.a).length 0 (cut64 (l.take 8)) (some (y.2,(cut64 (l.take 8)).length,if (cut64 (l.take 8)).length = 0 then 1 else 0,0))) (fun y n=>y.1.Ok∧(128 < y.2∧y.2 < n)∧144≤n) ?_ ?_))))))
 ·rintro ⟨x,id⟩ n ⟨hX,hid,hn⟩
  exact k3_b x hX l hl hx Y hcb.1 hf (lostA Y.a) (by omega) _ (cut64 (l.take 8)) cut64_lt (by simp [cut64];omega) id _ _ n hid hn
 intro Gk hG
 refine W.run ?_
 refine W.pc0R hk rfl ⟨_,awC,aw_ok,by decide,by decide,rfl⟩ ?_
 rintro r ⟨x,hX,_,_,rfl⟩
 refine ⟨_,rfl,?_⟩
 clear hk hf
 refine W.run ?_
 refine W.lp (fun i:Nat=>[(1,.sl (l.map slI) l.length),(7,.ptr 40 0 0),(8,.ptr 96 0 0),(9,.ptr 104 0 0),(10,.ref 128 (lostA (Y.a.take i)).length 0 (lostA (Y.a.take i)).length),(11,.int .i64 (i:Int))])
  (fun i=>(((Hp.put (fun _=>none) 40 { cells:=[.int .i64 x.R,.int .i64 x.P,.int .i64 x.G,.int .i64 x.H,.int .i64 x.B,.int .i64 x.K],sz:=6 }).put 96 { cells:=[linV Y.d,linV Y.c,linV Y.a,linV Y.r],sz:=4 }).put 104 { cells:=[linV Y.d,linV Y.c,linV Y.a,linV Y.r],sz:=4 }).put 128 { cells:=losC (lostA (Y.a.take i)),sz:=2,ver:=(lostA (Y.a.take i)).length,nl:=if (lostA (Y.a.take i)).length = 0 then 1 else 0 }) (fun i=>i≤Y.a.length) (fun i=>Y.a.length - i) 0 rfl (HS.p (HS.p (HS.p (HS.p (HS.emp _))))) (by omega) ?_
 rintro i nx hi hnx
 have hll:(lostA (Y.a.take i)).length = i:=by unfold lostA;rw [List.length_map,List.length_take];omega
 have hlc:=losC_len (lostA (Y.a.take i))
 by_cases hil:i < Y.a.length
 ·have hs:=lostA_succ hil
  clear c2 hG hcb hX
  generalize lostA (Y.a.take i) = L at hs hll hlc ⊢
  refine W.run ?_
  refine W.kl (i+1) (by rw [hs,List.length_append];rfl) ?_ (by omega) (by omega) (by omega)
  rw [hs,losC_snoc,List.length_append,List.length_singleton,if_neg (by omega)]
  exact HS.skip (HS.refl _) (by simp only [Hp.put];repeat (rw [if_neg (by omega)])) _
 ·have hie : i = Y.a.length := by omega
  rw [hie,List.take_length] at hll hlc ⊢
  clear hil hi hie
  have hkeep:∃ L,L = lostA Y.a:=⟨_,rfl⟩
  obtain ⟨L,hL⟩:=hkeep
  rw [← hL] at hll hlc hG hLl ⊢
  refine W.run ?_
  refine W.lp (fun i:Nat=>[(1,.sl (l.map slI) l.length),(7,.ptr 40 0 0),(8,.ptr 96 0 0),(9,.ptr 104 0 0),(10,.ref 128 L.length 0 L.length),(12,.ref (nx+40) (cut64 (l.take i)).length 0 (cut64 (l.take i)).length),(13,.int .i64 (i:Int))])
   (fun i=>((((Hp.put (fun _=>none) 40 { cells:=[.int .i64 x.R,.int .i64 x.P,.int .i64 x.G,.int .i64 x.H,.int .i64 x.B,.int .i64 x.K],sz:=6 }).put 96 { cells:=[linV Y.d,linV Y.c,linV Y.a,linV Y.r],sz:=4 }).put 104 { cells:=[linV Y.d,linV Y.c,linV Y.a,linV Y.r],sz:=4 }).put 128 { cells:=losC L,sz:=2,ver:=L.length,nl:=if L.length = 0 then 1 else 0 }).put (nx+40) { cells:=(cut64 (l.take i)).map slI,sz:=1,ver:=(cut64 (l.take i)).length,nl:=if (cut64 (l.take i)).length = 0 then 1 else 0 }) (fun i=>i≤l.length∧i≤8) (fun i=>l.length - i) 0 rfl (HS.refl _) (by omega) ?_
  rintro i nx2 ⟨hi,hi8⟩ hnx2
  have hql:(cut64 (l.take i)).length = i:=by unfold cut64;rw [List.length_map,List.length_take];omega
  by_cases hil:i < l.length∧i < 8
  ·obtain ⟨hi1,hi2⟩:=hil
   have hs:=cut64_succ hi1
   have c3:PureC Tryz.prog 14 [.agg [.int .i64 0,.int .i64 0,.int .i64 0,slI l[i]]] (fun r=>r = .agg [.int .i64 0,.int .i64 0,.int .i64 0,slI (l[i].take 64)]):=c2 i hi1
   clear c2 hG hcb hX
   generalize cut64 (l.take i) = Q at hs hql ⊢
   generalize l[i].take 64 = A at c3 hs
   refine W.run ?_
   refine W.kl (i+1) (by rw [hs,List.length_append];rfl) ?_ (by omega) ⟨Nat.succ_le_of_lt hi1,by omega⟩ (by omega)
   rw [hs,List.map_append,List.length_append,List.length_singleton,if_neg (show ¬ Q.length+1 = 0 by omega)]
   exact HS.skip (HS.refl _) (by simp only [Hp.put];repeat (rw [if_neg (by omega)])) _
  ·have hQ:cut64 (l.take i) = cut64 (l.take 8):=by
    by_cases h:i < 8
    ·rw [List.take_of_length_le (by omega),List.take_of_length_le (by omega)]
    ·rw [show i = 8 by omega]
   rw [hQ] at hql ⊢
   clear hQ c2
   have hGx:=hG
   clear hG
   generalize cut64 (l.take 8) = Q at hGx hql ⊢
   by_cases h:i < l.length
   all_goals
    refine W.run ?_
    exact W.kcN hGx (x,nx+40) ⟨hX,⟨by dsimp only;omega,by dsimp only;omega⟩,by omega⟩ (by dsimp only [HC3];first | exact HS.refl _ | (rw [if_neg (show ¬ Q.length = 0 by omega)];exact HS.refl _))
def tys3:List Ty:=tysD
theorem law3:∀ xs,Ty.okArgs tys3 xs→PureC Tryz.prog 3 xs (fun r=>r = .bool true):=by
 intro xs h
 obtain ⟨c,l,b,rfl,hc,hl,hx,hb⟩:=okArgs_D h
 exact k3 c hc l hl hx b hb
end Go.Dp
namespace Go.Dp
open Go.RowKit Go.Proofs
set_option linter.unusedVariables false
set_option linter.unusedSimpArgs false
structure Hon (c:Cf) (polys:List (List Int)) (lost:List (Int × Int)) (b:Brd):Prop where
 hc:c.Ok
 len:(polys.length:Int) = c.H
 ok:∀ q∈polys,q.length≠0→(q.length:Int) = c.B+1∧polyE c.P q = 0
 hb:b.Ok
 hf:b.fits 100 = true
 own:∀ k,k < 4→∀ x∈b.at k,∀ i,i < polys.length→(polyAt polys i).length≠0→x.hall≠(i:Int)+1
theorem run_at (c:Cf) (polys:List (List Int)) (lost:List (Int × Int)) (b:Brd) {p:Nat} (hp:p < 4):(runB c polys lost b).at p = b.at p++(List.range polys.length).flatMap (pollH c polys lost (runB c polys lost b) p):=by
 rw [runB_at c polys lost b hp,runX_fst c polys lost b hp]
 congr 2
 funext h
 exact pollH_congr fun k hk hk3=>by rw [rfB_at c polys lost b (by omega) (by omega),if_pos hk,runB_at c polys lost b (by omega)]
theorem poll_hall {c:Cf} {polys:List (List Int)} {lost:List (Int × Int)} {b:Brd} {p i:Nat} {x:Ln} (h:x∈pollH c polys lost b p i):x.hall = (i:Int)+1∧(polyAt polys i).length≠0:=by
 unfold pollH at h
 split at h
 ·cases h
 ·rename_i hz
  refine ⟨?_,hz⟩
  match p with
  | 0=>rw [postM,List.mem_singleton] at h;rw [h]
  | 1 =>
   simp only [postM,List.mem_flatMap] at h
   obtain ⟨k,_,h⟩:=h
   unfold post1 at h
   split at h
   ·rw [List.mem_singleton] at h;rw [h]
   ·cases h
  | 2 =>
   simp only [postM,List.mem_flatMap] at h
   obtain ⟨k,_,h⟩:=h
   unfold post2 at h
   split at h
   ·rw [List.mem_singleton] at h;rw [h]
   ·cases h
  | p+3 =>
   simp only [postM,List.mem_append,List.mem_flatMap] at h
   rcases h with h | ⟨k,_,h⟩
   ·unfold pre3 at h
    split at h
    ·rw [List.mem_singleton] at h;rw [h]
    ·cases h
   ·unfold post3 at h
    split at h
    ·split at h
     ·rw [List.mem_singleton] at h;rw [h]
     ·split at h
      ·rw [List.mem_singleton] at h;rw [h]
      ·cases h
    ·cases h
theorem find_flat {f:Nat→List Ln} {q:Ln→Bool} {i:Nat} {x:Ln}:∀ {n:Nat},i < n→(∀ j,j < n→j≠i→∀ y∈f j,q y = false)→(f i).find? q = some x→((List.range n).flatMap f).find? q = some x
 | n+1,hi,h1,h2=>by
  rw [List.range_succ,List.flatMap_append,List.find?_append]
  by_cases h:i < n
  ·rw [find_flat h (fun j hj hji=>h1 j (by omega) hji) h2];rfl
  ·have e : i = n := by omega
   subst e
   have h0:((List.range i).flatMap f).find? q = none:=List.find?_eq_none.2 fun y hy=>by
    obtain ⟨j,hj,hy⟩:=List.mem_flatMap.1 hy
    rw [List.mem_range] at hj
    rw [h1 j (by omega) (by omega) y hy];simp
   rw [h0,List.flatMap_singleton,h2];rfl
theorem polyAt_mem {polys:List (List Int)} {i:Nat} (hi:i < polys.length):polyAt polys i∈polys:=by
 unfold polyAt;rw [List.getD_eq_getElem?_getD,List.getElem?_eq_getElem hi];exact List.getElem_mem hi
theorem Hon.pollIs {c : Cf} {polys : List (List Int)} {lost : List (Int × Int)} {b : Brd} (H : Hon c polys lost b) {p i:Nat} (hz:(polyAt polys i).length≠0) (B:Brd):pollH c polys lost B p i = postM c B ((i:Int)+1) (polyAt polys i) (rowG c polys lost i) p:=by
 unfold pollH;rw [if_neg hz]
theorem oth_mem' {c : Cf} {polys : List (List Int)} {lost : List (Int × Int)} {b : Brd} (H : Hon c polys lost b) {hall k:Int}:k∈oth c hall↔(1≤k∧k≤c.H.toNat)∧k≠hall:=by
 unfold oth hallsL
 rw [List.mem_filter,rngH_mem,decide_eq_true_eq]
section
variable {c:Cf} {polys:List (List Int)} {lost:List (Int × Int)} {b:Brd} (H:Hon c polys lost b)
include H
theorem Hon.pE:∀ q∈polys,q.length≠0→polyE c.P q = 0:=fun q hq hz=>(H.ok q hq hz).2
theorem Hon.n16:polys.length≤16:=by have:=H.hc.rng;have:=H.len;omega
theorem Hon.bOk:(runB c polys lost b).Ok:=runB_ok H.hc H.pE H.n16 lost H.hb H.hf
theorem Hon.findIt {p i:Nat} (hp:p < 4) (hi:i < polys.length) (hz:(polyAt polys i).length≠0) {q:Ln→Bool} (hq:∀ x,q x = true→x.hall = (i:Int)+1) {x:Ln} (hx:(pollH c polys lost (runB c polys lost b) p i).find? q = some x):((runB c polys lost b).at p).find? q = some x:=by
 have hno:∀ y:Ln,y.hall≠(i:Int)+1→q y = false:=fun y hy=>by
  cases h:q y
  ·rfl
  ·exact absurd (hq y h) hy
 rw [run_at c polys lost b hp,List.find?_append]
 have h0:(b.at p).find? q = none:=List.find?_eq_none.2 fun y hy=>by rw [hno y (H.own p hp y hy i hi hz)];simp
 rw [h0,find_flat hi (fun j _ hji y hy=>hno y (by have:=(poll_hall hy).1;omega)) hx];rfl
theorem Hon.deal {i:Nat} (hi:i < polys.length) (hz:(polyAt polys i).length≠0):(runB c polys lost b).deal c ((i:Int)+1) = some (comM c.R c.G (polyAt polys i)):=by
 have hok:=H.ok _ (polyAt_mem hi) hz
 have hln:=H.len
 have hl:(comM c.R c.G (polyAt polys i)).length = (polyAt polys i).length:=by simp [comM]
 have hq:qDeal c ((i:Int)+1) ⟨(i:Int)+1,1,0,comM c.R c.G (polyAt polys i)⟩ = true:=by
  simp [qDeal,cntB,isHallB,hl];omega
 have hf := H.findIt (p := 0) (q := qDeal c ((i : Int) + 1)) (by omega) hi hz (fun x hx => by simp only [qDeal, Bool.and_eq_true, decide_eq_true_eq] at hx; exact hx.2) (x := ⟨(i : Int) + 1, 1, 0, comM c.R c.G (polyAt polys i)⟩) (by
  rw [H.pollIs hz]
  simp only [postM,List.find?_cons,hq])
 change ((runB c polys lost b).d).find? (qDeal c ((i:Int)+1)) = _ at hf
 unfold Brd.deal dealL
 rw [hf]
 simp only
 rw [if_pos]
 rw [List.all_eq_true]
 intro n hn
 simp only [comM,List.mem_map] at hn
 obtain ⟨a,_,rfl⟩:=hn
 exact hasB_pow H.hc.1 a
theorem Hon.polyOf {i:Nat} (hi:i < polys.length) (hz:(polyAt polys i).length≠0):PolyOf c (comM c.R c.G (polyAt polys i)) (polyAt polys i) :=
 ⟨rfl,by simp [comM],fun a ha=>polyE_rng (H.ok _ (polyAt_mem hi) hz).2 a ha⟩
theorem Hon.answer {i:Nat} (hi:i < polys.length) (hz:(polyAt polys i).length≠0) {k:Int} (hcm:(runB c polys lost b).compl c k ((i:Int)+1) = true):ansL c (runB c polys lost b) ((i:Int)+1) k = some ⟨(i:Int)+1,3,k,[valM c.P k (polyAt polys i)]⟩:=by
 have hr:=H.hc.rng
 have hln:=H.len
 have hk:(1≤k∧k≤c.H)∧k≠(i:Int)+1:=by
  unfold Brd.compl at hcm
  rw [Bool.and_eq_true,List.any_eq_true] at hcm
  obtain ⟨_,x,_,hx⟩:=hcm
  simp only [qCompl,Bool.and_eq_true,decide_eq_true_eq] at hx
  have h1:=cntB_hall hx.1.1
  have h2:=cntB_other hx.1.1
  omega
 have hq:qAns c ((i:Int)+1) k ⟨(i:Int)+1,3,k,[valM c.P k (polyAt polys i)]⟩ = true:=by
  simp [qAns,cntB,isHallB];omega
 refine H.findIt (p:=2) (q:=qAns c ((i:Int)+1) k) (by omega) hi hz (fun x hx=>by simp only [qAns,Bool.and_eq_true,decide_eq_true_eq] at hx;exact hx.1.2) ?_
 rw [H.pollIs hz]
 simp only [postM]
 have hmem:k∈oth c ((i:Int)+1):=(oth_mem' H).2 ⟨by omega,hk.2⟩
 have key:∀ l:List Int,k∈l→(l.flatMap (post2 c (runB c polys lost b) ((i:Int)+1) (polyAt polys i))).find? (qAns c ((i:Int)+1) k) = some ⟨(i:Int)+1,3,k,[valM c.P k (polyAt polys i)]⟩:=by
  intro l
  induction l with
  | nil=>intro h;cases h
  | cons a l ih =>
   intro h
   rw [List.flatMap_cons,List.find?_append]
   by_cases e:a = k
   ·subst e
    rw [post2,if_pos hcm]
    simp only [List.find?_cons,hq]
    rfl
   ·have hn:(post2 c (runB c polys lost b) ((i:Int)+1) (polyAt polys i) a).find? (qAns c ((i:Int)+1) k) = none:=List.find?_eq_none.2 fun y hy=>by
     unfold post2 at hy
     split at hy
     ·rw [List.mem_singleton] at hy
      rw [hy]
      simp [qAns,e]
     ·cases hy
    rw [hn,ih ((List.mem_cons.1 h).resolve_left (fun e2=>e e2.symm))];rfl
 exact key _ hmem
theorem Hon.ansB {i:Nat} (hi:i < polys.length) (hz:(polyAt polys i).length≠0) {k:Int} (hcm:(runB c polys lost b).compl c k ((i:Int)+1) = true):Go.Dp.ansB c (runB c polys lost b) ((i:Int)+1) k = true:=by
 have h:=H.answer hi hz hcm
 have hk:1≤k∧k≤c.H:=by
  unfold Brd.compl at hcm
  rw [Bool.and_eq_true,List.any_eq_true] at hcm
  obtain ⟨_,x,_,hx⟩:=hcm
  simp only [qCompl,Bool.and_eq_true,decide_eq_true_eq] at hx
  have h1:=cntB_hall hx.1.1
  omega
 unfold Go.Dp.ansB
 rw [h]
 exact fitsM_of H.hc H.bOk (H.deal hi hz) (H.polyOf hi hz) hk
theorem Hon.isIn {i:Nat} (hi:i < polys.length) (hz:(polyAt polys i).length≠0):isInM c (runB c polys lost b) ((i:Int)+1) = true:=by
 unfold isInM
 rw [H.deal hi hz,Option.isSome_some,Bool.true_and,List.all_eq_true]
 intro k _
 cases hcm:(runB c polys lost b).compl c k ((i:Int)+1)
 ·rfl
 ·rw [H.ansB hi hz hcm];rfl
end
end Go.Dp
namespace Go.Dp
open Go.RowKit Go.Proofs
set_option linter.unusedVariables false
set_option linter.unusedSimpArgs false
section
variable {c:Cf} {polys:List (List Int)} {lost:List (Int × Int)} {b:Brd} (H:Hon c polys lost b)
include H
end
end Go.Dp
namespace Go.Dp
open Go.RowKit Go.Proofs
set_option linter.unusedVariables false
set_option linter.unusedSimpArgs false
theorem sumS_all {c:Cf} {b:Brd}:∀ (l:List Int) (a r:Int × Bool),sumS c b l a = some r→∀ h∈l,(secM c b h).isSome = true
 | [],a,r,_=>fun h hh=>by cases hh
 | x::l,a,r,e=>by
  simp only [sumS] at e
  split at e
  ·rename_i n hn
   intro h hh
   rcases List.mem_cons.1 hh with rfl | hh
   ·rw [hn];rfl
   ·exact sumS_all l _ r e h hh
  ·cases e
theorem sumS_congr {c:Cf} {b b':Brd}:∀ (l:List Int) (a:Int × Bool),(∀ h∈l,secM c b h = secM c b' h)→sumS c b l a = sumS c b' l a
 | [],a,_=>rfl
 | x::l,a,h=>by
  rw [sumS,sumS,h x (by simp)]
  cases secM c b' x with
  | none=>rfl
  | some n=>exact sumS_congr l _ fun y hy=>h y (by simp [hy])
theorem sumM_some {c : Cf} (hc : c.Ok) {b:Brd} (h:(sumM c b).2 = true):∃ r,sumS c b (hallsL c (isInM c b)) (0,false) = some r:=by
 unfold sumM at h
 cases e:sumS c b (hallsL c (isInM c b)) (0,false) with
 | some r=>exact ⟨r,rfl⟩
 | none=>rw [e] at h;cases h
section
variable {c:Cf} (hc:c.Ok) {D C A R R':List Ln}
include hc
theorem sec_r (hb:Brd.Ok ⟨D,C,A,R⟩) (hb':Brd.Ok ⟨D,C,A,R'⟩) {k n m:Int} (hin:isInM c ⟨D,C,A,R⟩ k = true) (h1:secM c ⟨D,C,A,R⟩ k = some n) (h2:secM c ⟨D,C,A,R'⟩ k = some m):n = m:=by
 obtain ⟨L,hL⟩:=isIn_deal hin
 obtain ⟨a,ha⟩:=polyOf_ex hc hb hL
 rw [secM_eq hc hb hL ha] at h1
 rw [secM_eq hc hb' (A:=L) hL ha] at h2
 split at h1
 ·split at h2
  ·rw [Option.some.injEq] at h1 h2;rw [← h1,← h2]
  ·cases h2
 ·cases h1
theorem sec_more (hb:Brd.Ok ⟨D,C,A,R⟩) (hb':Brd.Ok ⟨D,C,A,R'⟩) (hs:∀ x∈R,x∈R') {k:Int} (hin:isInM c ⟨D,C,A,R⟩ k = true) (h1:(secM c ⟨D,C,A,R⟩ k).isSome = true):secM c ⟨D,C,A,R'⟩ k = secM c ⟨D,C,A,R⟩ k:=by
 obtain ⟨L,hL⟩:=isIn_deal hin
 obtain ⟨a,ha⟩:=polyOf_ex hc hb hL
 rw [secM_eq hc hb hL ha] at h1 ⊢
 rw [secM_eq hc hb' (A:=L) hL ha]
 have hany:∀ q:Ln→Bool,R.any q = true→R'.any q = true:=fun q h=>by
  obtain ⟨x,hx,h2⟩:=List.any_eq_true.1 h
  exact List.any_eq_true.2 ⟨x,hs x hx,h2⟩
 split at h1
 ·rename_i h3
  rw [if_pos h3,if_pos]
  rw [Bool.or_eq_true,decide_eq_true_eq] at h3 ⊢
  rcases h3 with h3 | h3
  ·exact .inl (hany _ h3)
  ·right
   have:(foundL c ⟨D,C,A,R⟩ k).length≤(foundL c ⟨D,C,A,R'⟩ k).length:=by
    refine nodup_len (foundL_nodup c _ k) fun x hx=>?_
    obtain ⟨h4,h5⟩:=List.mem_filter.1 hx
    refine List.mem_filter.2 ⟨h4,?_⟩
    unfold foundB at h5 ⊢
    rw [Bool.or_eq_true] at h5 ⊢
    rcases h5 with h5 | h5
    ·exact .inl h5
    ·exact .inr (hany _ h5)
   omega
 ·cases h1
theorem sum_same (hb:Brd.Ok ⟨D,C,A,R⟩) (hb':Brd.Ok ⟨D,C,A,R'⟩) (h1:(sumM c ⟨D,C,A,R⟩).2 = true) (h2:(sumM c ⟨D,C,A,R'⟩).2 = true):sumM c ⟨D,C,A,R⟩ = sumM c ⟨D,C,A,R'⟩:=by
 obtain ⟨r,hr⟩:=sumM_some hc h1
 obtain ⟨r',hr'⟩:=sumM_some hc h2
 unfold sumM
 rw [show hallsL c (isInM c ⟨D,C,A,R'⟩) = hallsL c (isInM c ⟨D,C,A,R⟩) from rfl] at hr' ⊢
 rw [sumS_congr _ _ fun k hk=>?_]
 obtain ⟨n,hn⟩:=Option.isSome_iff_exists.1 (sumS_all _ _ _ hr k hk)
 obtain ⟨m,hm⟩:=Option.isSome_iff_exists.1 (sumS_all _ _ _ hr' k hk)
 rw [hn,hm,sec_r hc hb hb' (List.mem_filter.1 hk).2 hn hm]
theorem sum_more (hb:Brd.Ok ⟨D,C,A,R⟩) (hb':Brd.Ok ⟨D,C,A,R'⟩) (hs:∀ x∈R,x∈R') (h1:(sumM c ⟨D,C,A,R⟩).2 = true):sumM c ⟨D,C,A,R'⟩ = sumM c ⟨D,C,A,R⟩:=by
 obtain ⟨r,hr⟩:=sumM_some hc h1
 unfold sumM
 rw [show hallsL c (isInM c ⟨D,C,A,R'⟩) = hallsL c (isInM c ⟨D,C,A,R⟩) from rfl]
 rw [sumS_congr (b:=⟨D,C,A,R'⟩) (b':=⟨D,C,A,R⟩) _ _ fun k hk=>?_]
 exact sec_more hc hb hb' hs (List.mem_filter.1 hk).2 (sumS_all _ _ _ hr k hk)
end
end Go.Dp
namespace Go.Dp
open Go.RowKit Go.Proofs
attribute [local irreducible] wp wpOps wpOp1 CallW CallT kSeq kBlk kLoop kReg retP retR kAsg kRound kRf kCut kItr kItr2
set_option linter.unusedVariables false
set_option linter.unusedSimpArgs false
def selL (q:Nat→Bool) (l:List Ln) (i:Nat):List Ln:=((l.take i).zipIdx.filter fun p=>q p.2).map Prod.fst
theorem selL_succ {q:Nat→Bool} {l:List Ln} {i:Nat} (hi:i < l.length):selL q l (i+1) = selL q l i++if q i then [l[i]] else []:=by
 have e:(l.take i).length = i:=by rw [List.length_take];omega
 unfold selL
 rw [← List.take_append_getElem hi,List.zipIdx_append,List.filter_append,List.map_append,e]
 congr 1
 simp only [List.zipIdx_cons,List.zipIdx_nil,Nat.zero_add]
 cases h:q i
 ·rw [List.filter_cons,if_neg (by simp [h])];rfl
 ·rw [List.filter_cons,if_pos (by simp [h])];rfl
theorem selL_sub (q:Nat→Bool) (l:List Ln) (i:Nat):∀ x∈selL q l i,x∈l:=fun x hx=>by
 unfold selL at hx
 obtain ⟨p,hp,rfl⟩:=List.mem_map.1 hx
 have h1:=(List.mem_filter.1 hp).1
 exact List.mem_of_mem_take (List.fst_mem_of_mem_zipIdx h1)
theorem selL_len (q:Nat→Bool) (l:List Ln) (i:Nat):(selL q l i).length≤l.length:=by
 unfold selL
 rw [List.length_map]
 refine Nat.le_trans (List.length_filter_le _ _) ?_
 rw [List.length_zipIdx,List.length_take];omega
def qB (k:Nat) (i:Nat):Bool:=decide (k≤i % 6) || (decide (k = 5) && decide (i % 2 = 0))
def revK (F:Brd) (k:Nat):List Ln:=selL (qB k) F.r F.r.length
def brdK (F:Brd) (R:List Ln):Brd:=⟨F.d,F.c,F.a,R⟩
theorem lnsB_sub {l m:List Ln} (hm:LnsB m) (hl:l.length < 2 ^ 20) (h:∀ x∈l,x∈m):LnsB l:=⟨hl,fun x hx=>hm.2 x (h x hx)⟩
theorem okL_sub {l m:List Ln} {k:Int} (hm:okL k m = true) (hl:(l.length:Int)≤k) (h:∀ x∈l,x∈m):okL k l = true:=by
 refine okL_all hl fun x hx hn=>?_
 rw [okL_any (h x hx) hn] at hm;cases hm
structure Bnd (c:Cf) (F P:Brd):Prop where
 hc:c.Ok
 hF:F.Ok
 hP:P.Ok
 fF:F.fits 400 = true
 fP:P.fits 6 = true
 len:F.r.length≤300
section
variable {c:Cf} {F P:Brd} (H:Bnd c F P) (k:Nat)
include H
theorem Bnd.okX:(brdK F (revK F k)).Ok:=⟨H.hF.1,H.hF.2.1,H.hF.2.2.1,lnsB_sub (l:=revK F k) H.hF.2.2.2 (by have:=selL_len (qB k) F.r F.r.length;have:=H.len;unfold revK;omega) (selL_sub _ _ _)⟩
theorem Bnd.plen:P.r.length≤6:=by
 have:=fits_at.1 H.fP 3 (by omega)
 unfold okL at this
 rw [Bool.and_eq_true,decide_eq_true_eq] at this
 have:=this.1
 simp only [Brd.at] at this;omega
theorem Bnd.okM:(brdK F (P.r++revK F k)).Ok:=by
 have h1:=H.okX k
 refine ⟨h1.1,h1.2.1,h1.2.2.1,?_,fun x hx=>?_⟩
 ·have:=selL_len (qB k) F.r F.r.length
  have:=H.len
  have:=H.plen
  show (P.r++revK F k).length < _
  rw [List.length_append];unfold revK;omega
 ·rcases List.mem_append.1 hx with hx | hx
  ·exact H.hP.2.2.2.2 x hx
  ·exact h1.2.2.2.2 x hx
theorem Bnd.fX:(brdK F (revK F k)).fits 400 = true:=by
 have h:=fits_at.1 H.fF
 have hl:=selL_len (qB k) F.r F.r.length
 have h3:okL 400 (revK F k) = true:=okL_sub (m:=F.r) (h 3 (by omega)) (by have:=H.len;unfold revK;omega) (selL_sub _ _ _)
 have h0:okL 400 F.d = true:=h 0 (by omega)
 have h1:okL 400 F.c = true:=h 1 (by omega)
 have h2:okL 400 F.a = true:=h 2 (by omega)
 simp only [Brd.fits,brdK,h0,h1,h2,h3,Bool.and_self]
theorem Bnd.fM:(brdK F (P.r++revK F k)).fits 400 = true:=by
 have h:=fits_at.1 (H.fX k)
 have hl:=selL_len (qB k) F.r F.r.length
 have hp:=fits_at.1 (fits_mono H.fP (show (6:Int)≤400 by omega)) 3 (by omega)
 have h3:okL 400 (P.r++revK F k) = true:=by
  refine okL_all (by have:=H.len;have:=H.plen;rw [List.length_append];unfold revK;omega) fun x hx hn=>?_
  rcases List.mem_append.1 hx with hx | hx
  ·have e:=okL_any (most:=400) hx hn
   exact absurd (e.symm.trans hp) (by simp)
  ·have e:=okL_any (most:=400) hx hn
   exact absurd (e.symm.trans (h 3 (by omega))) (by simp)
 have h0:okL 400 F.d = true:=h 0 (by omega)
 have h1:okL 400 F.c = true:=h 1 (by omega)
 have h2:okL 400 F.a = true:=h 2 (by omega)
 simp only [Brd.fits,brdK,h0,h1,h2,h3,Bool.and_self]
theorem Bnd.more (h:(sumM c (brdK F (revK F k))).2 = true):sumM c (brdK F (P.r++revK F k)) = sumM c (brdK F (revK F k)) :=
 sum_more H.hc (H.okX k) (H.okM k) (fun x hx=>List.mem_append_right _ hx) h
theorem Bnd.one {j:Nat} (h1:(sumM c (brdK F (P.r++revK F j))).2 = true) (h2:(sumM c (brdK F (P.r++revK F k))).2 = true):sumM c (brdK F (P.r++revK F j)) = sumM c (brdK F (P.r++revK F k)) :=
 sum_same H.hc (H.okM j) (H.okM k) h1 h2
theorem Bnd.k24X:PureC Tryz.prog 24 [c.v,bdV (brdK F (revK F k))] (fun r=>r = .tup [.int .i64 (sumQ c (brdK F (revK F k))).1,.int .i64 (sumQ c (brdK F (revK F k))).2]):=by
 have h:=k24 c H.hc _ (H.okX k)
 rw [H.fX k,if_pos rfl] at h;exact h
theorem Bnd.k24M:PureC Tryz.prog 24 [c.v,bdV (brdK F (P.r++revK F k))] (fun r=>r = .tup [.int .i64 (sumQ c (brdK F (P.r++revK F k))).1,.int .i64 (sumQ c (brdK F (P.r++revK F k))).2]):=by
 have h:=k24 c H.hc _ (H.okM k)
 rw [H.fM k,if_pos rfl] at h;exact h
end
end Go.Dp
