import Derived.Test.YtgbjppfikncpcaaGreatDsM8
import Derived.Test.YtgbjppfikncpcaaGreatDvTP
import Derived.Test.YtgbjppfikncpcaaGreatDpWk
import Derived.Test.YtgbjppfikncpcaaGreatDpCut
namespace Go.Dp
open Go.RowKit
set_option linter.unusedVariables false
set_option linter.unusedSimpArgs false
theorem nodup_len {M L:List Int} (hn:M.Nodup) (hs:∀ x∈M,x∈L):M.length≤L.length:=by
 induction M generalizing L with
 | nil=>simp
 | cons a M ih =>
  have hn':=List.nodup_cons.1 hn
  have ha:=hs a (by simp)
  have:=ih (L:=L.erase a) hn'.2 fun x hx=>(List.mem_erase_of_ne (fun (e:x = a)=>hn'.1 (by rw [← e];exact hx))).2 (hs x (List.mem_cons_of_mem _ hx))
  rw [List.length_erase_of_mem ha] at this
  have:=List.length_pos_of_mem ha
  rw [List.length_cons];omega
def addP (L:List Int) (p:Nat):List Int:=if (p:Int)∈L then L else L++[(p:Int)]
def addA (L:List Int) (ps:List Nat):List Int:=ps.foldl addP L
theorem addA_mem {x:Int}:∀ {ps:List Nat} {L:List Int},x∈addA L ps↔x∈L∨∃ p∈ps,x = (p:Int)
 | [],L=>by simp [addA]
 | p::ps,L=>by
  show x∈addA (addP L p) ps↔_
  rw [addA_mem]
  unfold addP
  split
  ·rename_i h
   constructor
   ·rintro (h1 | ⟨q,hq,h1⟩)
    ·exact .inl h1
    ·exact .inr ⟨q,List.mem_cons_of_mem _ hq,h1⟩
   ·rintro (h1 | ⟨q,hq,h1⟩)
    ·exact .inl h1
    ·rcases List.mem_cons.1 hq with rfl | hq
     ·exact .inl (h1 ▸ h)
     ·exact .inr ⟨q,hq,h1⟩
  ·rw [List.mem_append,List.mem_singleton]
   constructor
   ·rintro ((h1 | h1) | ⟨q,hq,h1⟩)
    ·exact .inl h1
    ·exact .inr ⟨p,by simp,h1⟩
    ·exact .inr ⟨q,List.mem_cons_of_mem _ hq,h1⟩
   ·rintro (h1 | ⟨q,hq,h1⟩)
    ·exact .inl (.inl h1)
    ·rcases List.mem_cons.1 hq with rfl | hq
     ·exact .inl (.inr h1)
     ·exact .inr ⟨q,hq,h1⟩
theorem addA_nodup:∀ {ps:List Nat} {L:List Int},L.Nodup→(addA L ps).Nodup
 | [],L,h=>h
 | p::ps,L,h=>by
  show (addA (addP L p) ps).Nodup
  refine addA_nodup ?_
  unfold addP
  split
  ·exact h
  ·rename_i hn
   refine List.nodup_append.2 ⟨h,by simp,fun a ha b hb=>?_⟩
   rw [List.mem_singleton] at hb
   intro e
   exact hn (hb ▸ e ▸ ha)
end Go.Dp
namespace Go.Dp
open Go.RowKit Go.Proofs
attribute [local irreducible] wp wpOps wpOp1 CallW CallT kSeq kBlk kLoop kReg retP retR kAsg kRound kRf kCut kItr kItr2
set_option linter.unusedVariables false
set_option linter.unusedSimpArgs false
theorem tdiv_abs (a:Int) {b:Int}:(a.tdiv b).natAbs≤a.natAbs:=by
 rw [Int.natAbs_tdiv];exact Nat.div_le_self _ _
@[go_sem low] theorem v_quo_t {a b:Int} (h:b≠0∧-9223372036854775808 < a∧a < 9223372036854775808):vbin .quo (.int .i64 a) (.int .i64 b) = some (.int .i64 (a.tdiv b)):=by
 have h1:=tdiv_abs a (b:=b)
 obtain ⟨h2,h3⟩:=h
 simp [vbin,vint,h2,wrap_i64 (z:=a.tdiv b) (by omega)]
theorem mul_abs_bd {a b A B:Int} (ha:-A≤a∧a≤A) (hb:-B≤b∧b≤B):-(A * B)≤a * b∧a * b≤A * B:=by
 have h1:(a * b).natAbs≤A.natAbs * B.natAbs:=by
  rw [Int.natAbs_mul]
  exact Nat.mul_le_mul (by omega) (by omega)
 have h2:A * B = ((A.natAbs * B.natAbs:Nat):Int):=by
  rw [Int.natCast_mul,Int.natAbs_of_nonneg (by omega),Int.natAbs_of_nonneg (by omega)]
 omega
end Go.Dp
namespace Go.Dp
open Go.RowKit
set_option linter.unusedVariables false
set_option linter.unusedSimpArgs false
def riseB (v:Int):Int→List Int→Bool
 | _,[]=>true
 | last,x::l=>!(decide (x≤last) || decide (v≤x)) && riseB v x l
theorem riseB_drop {v:Int} {l:List Int} {i:Nat} {last:Int} (h:i < l.length):riseB v last (l.drop i) = (!(decide (l[i]≤last) || decide (v≤l[i])) && riseB v l[i] (l.drop (i+1))):=by
 rw [List.drop_eq_getElem_cons h];rfl
theorem riseB_rng {v:Int}:∀ {l:List Int} {last:Int},riseB v last l = true→∀ x∈l,last < x∧x < v
 | [],_,_=>fun x hx=>by cases hx
 | y::l,last,h=>fun x hx=>by
  unfold riseB at h
  simp only [Bool.and_eq_true,Bool.not_eq_true',Bool.or_eq_false_iff,decide_eq_false_iff_not] at h
  rcases List.mem_cons.1 hx with rfl | hx
  ·omega
  ·have:=riseB_rng h.2 x hx;omega
theorem riseB_pw {v:Int}:∀ {l:List Int} {last:Int},riseB v last l = true→l.Pairwise (· < ·)
 | [],_,_=>List.Pairwise.nil
 | y::l,last,h=>by
  unfold riseB at h
  simp only [Bool.and_eq_true,Bool.not_eq_true',Bool.or_eq_false_iff,decide_eq_false_iff_not] at h
  exact List.pairwise_cons.2 ⟨fun x hx=>(riseB_rng h.2 x hx).1,riseB_pw h.2⟩
def incF (F:Nat→Int) (n:Nat):Nat→Int:=fun j=>if j = n then F j+1 else F j
def rowP (F:Nat→Int) (b:List Int) (x:Int):Nat→Nat→Int
 | 0=>F
 | j+1=>incF (rowP F b x j) ((b.getD j 0).toNat * 200+x.toNat)
def blkP (F:Nat→Int) (b:List Int):Nat→Nat→Int
 | 0=>F
 | i+1=>rowP (blkP F b i) b (b.getD i 0) i
def allP (bs:List (List Int)):Nat→Nat→Int
 | 0=>fun _=>0
 | n+1=>blkP (allP bs n) (bs.getD n []) (bs.getD n []).length
theorem rowP_bd {F:Nat→Int} {b:List Int} {x:Int} (n:Nat):∀ j,F n≤rowP F b x j n∧rowP F b x j n≤F n+j
 | 0=>by simp [rowP]
 | j+1=>by
  have:=rowP_bd (F:=F) (b:=b) (x:=x) n j
  unfold rowP incF
  split <;> omega
theorem blkP_bd {F:Nat→Int} {b:List Int} (n:Nat):∀ i,F n≤blkP F b i n∧blkP F b i n≤F n+i * i
 | 0=>by simp [blkP]
 | i+1=>by
  have h1:=blkP_bd (F:=F) (b:=b) n i
  have h2:=rowP_bd (F:=blkP F b i) (b:=b) (x:=b.getD i 0) n i
  unfold blkP
  have:((i+1:Nat):Int) * ((i+1:Nat):Int) = (i:Int) * i+2 * i+1:=by rw [Int.natCast_add,Int.add_mul,Int.mul_add];omega
  omega
theorem allP_bd {bs:List (List Int)} {K:Nat} (n:Nat):∀ m,m≤bs.length→(∀ i (h:i < bs.length),i < m→bs[i].length≤K)→0≤allP bs m n∧allP bs m n≤((m * (K * K):Nat):Int)
 | 0,_,_=>by simp [allP]
 | m+1,hm,hb=>by
  have h1:=allP_bd n m (by omega) fun i h hi=>hb i h (by omega)
  have hg:bs.getD m [] = bs[m]:=by rw [List.getD_eq_getElem?_getD,List.getElem?_eq_getElem (by omega),Option.getD_some]
  have h2:=blkP_bd (F:=allP bs m) (b:=bs.getD m []) n (bs.getD m []).length
  have h3:(bs.getD m []).length≤K:=by rw [hg];exact hb m (by omega) (by omega)
  have h4:(bs.getD m []).length * (bs.getD m []).length≤K * K:=Nat.mul_le_mul h3 h3
  unfold allP
  have e:(((bs.getD m []).length * (bs.getD m []).length:Nat):Int) = ((bs.getD m []).length:Int) * (bs.getD m []).length:=Int.natCast_mul _ _
  have e2:(m+1) * (K * K) = m * (K * K)+K * K:=Nat.succ_mul _ _
  rw [e2]
  omega
theorem getD_at {α:Type} {l:List α} {i:Nat} {d:α} (h:i < l.length):l.getD i d = l[i]:=by rw [List.getD_eq_getElem?_getD,List.getElem?_eq_getElem h,Option.getD_some]
theorem rowP_succ {F:Nat→Int} {b:List Int} {x:Int} {j:Nat} (h:j < b.length):rowP F b x (j+1) = incF (rowP F b x j) (b[j].toNat * 200+x.toNat):=by rw [rowP,getD_at h]
theorem blkP_succ {F:Nat→Int} {b:List Int} {i:Nat} (h:i < b.length):blkP F b (i+1) = rowP (blkP F b i) b b[i] i:=by rw [blkP,getD_at h]
theorem allP_succ {bs:List (List Int)} {n:Nat} (h:n < bs.length):allP bs (n+1) = blkP (allP bs n) bs[n] bs[n].length:=by rw [allP,getD_at h]
def PairsOk (v:Nat) (F:Nat→Int) (l:Int):Prop:=∀ x y:Nat,x < y→y < v→F (x * 200+y) = l
def goodB (v:Int) (k:Nat) (b:List Int):Bool:=decide (b.length = k) && riseB v (-1) b
noncomputable def chkE (v:Int) (bs:List (List Int)):Int :=
 if v < 3∨200 < v then 1
 else if 2000 < bs.length then 2
 else if bs.length = 0∨(bs.headD []).length < 2∨v≤(bs.headD []).length then 60
 else if (bs.all (goodB v (bs.headD []).length)) = false then 60
 else if @decide (PairsOk v.toNat (allP bs bs.length) (allP bs bs.length 1)) (Classical.propDecidable _) = false then 60
 else if allP bs bs.length 1 = 0 then 60 else 0
end Go.Dp
namespace Go.Dp
open Go.RowKit Go.Proofs
attribute [local irreducible] wp wpOps wpOp1 CallW CallT kSeq kBlk kLoop kReg retP retR kAsg kRound kRf kCut kItr kItr2
set_option linter.unusedVariables false
set_option linter.unusedSimpArgs false
set_option maxRecDepth 10000 in
theorem k43 (b:List Int) (v:Int) (hb:b.length < 2 ^ 40):PureC Tryz.prog 43 [.sl (b.map (V.int .i64)) b.length,.int .i64 v] (fun r=>r = .bool (riseB v (-1) b)):=by
 refine pureC_of_wp .x mixed ok43 rfl ?_
 unfold c43
 dsimp only [argE]
 refine W.run ?_
 refine W.lp (fun z:Nat × Int=>[(1,.int .i64 v),(5,.int .i64 z.2),(8,.sl (b.map (V.int .i64)) b.length),(9,.int .i64 (b.length:Int)),(10,.int .i64 (z.1:Int))]) (fun _ _=>none) (fun z=>z.1≤b.length∧riseB v (-1) b = riseB v z.2 (b.drop z.1)) (fun z=>b.length - z.1) (0,-1) rfl (HS.refl _) ⟨by dsimp only;omega,rfl⟩ ?_
 rintro ⟨i,last⟩ nx ⟨hi,hr⟩ hnx
 dsimp only at hi hr ⊢
 by_cases hil:i < b.length
 ·rw [riseB_drop hil] at hr
  by_cases h1:b[i]≤last
  ·rw [decide_eq_true h1,Bool.true_or,Bool.not_true,Bool.false_and] at hr
   rw [hr]
   clear hr
   refine W.run ?_
   rfl
  ·by_cases h2:v≤b[i]
   ·rw [decide_eq_true h2,Bool.or_true,Bool.not_true,Bool.false_and] at hr
    rw [hr]
    clear hr
    refine W.run ?_
    rfl
   ·rw [decide_eq_false h1,decide_eq_false h2,Bool.or_self,Bool.not_false,Bool.true_and] at hr
    refine W.run ?_
    exact W.kl (i+1,b[i]) rfl (HS.refl _) (by omega) ⟨by dsimp only;omega,hr⟩ (by dsimp only;omega)
 ·rw [List.drop_of_length_le (by omega)] at hr
  rw [hr]
  clear hr
  refine W.run ?_
  rfl
theorem set_td {cs:List V} {i:Nat} {v:V} (h:i < cs.length):List.take i cs++[v]++List.drop (i+1) cs = cs.set i v:=by
 rw [List.set_eq_take_append_cons_drop,if_pos h,List.append_assoc];rfl
def tabC (F:Nat→Int):List V:=(List.range 40000).map fun i=>V.int .i64 (F i)
theorem tabC_len {F:Nat→Int}:(tabC F).length = 40000:=by unfold tabC;rw [List.length_map,List.length_range]
theorem tabC_get {F:Nat→Int} {n:Nat} (h:n < 40000):(tabC F)[n]? = some (.int .i64 (F n)):=by
 unfold tabC;rw [List.getElem?_map,List.getElem?_range h];rfl
attribute [local go_sem] tabC_get
theorem tabC_set {F:Nat→Int} {n:Nat}:(tabC F).set n (.int .i64 (F n+1)) = tabC (incF F n):=by
 refine List.ext_getElem? fun i=>?_
 rw [List.getElem?_set]
 by_cases hi:i < 40000
 ·rw [tabC_get hi,tabC_get hi]
  unfold incF
  by_cases e:n = i
  ·subst e
   rw [if_pos rfl,if_pos (by rw [tabC_len];exact hi),if_pos rfl]
  ·rw [if_neg e,if_neg fun h=>e h.symm]
 ·have hR : ∀ G : Nat → Int, (tabC G)[i]? = none := fun G => List.getElem?_eq_none (by rw [tabC_len]; omega)
  rw [hR,hR]
  by_cases e:n = i
  ·rw [if_pos e,if_neg (by rw [tabC_len];omega)]
  ·rw [if_neg e]
theorem tabC_0:tabC (fun _=>0) = List.replicate 40000 (.int .i64 0):=by
 unfold tabC
 rw [List.map_const',List.length_range]
abbrev slI (A:List Int):V:=.sl (A.map (V.int .i64)) A.length
abbrev rowsV (bs:List (List Int)):V:=.sl (bs.map slI) bs.length
def parV (a b c d e:Int):V:=.agg [.int .i64 a,.int .i64 b,.int .i64 c,.int .i64 d,.int .i64 e]
noncomputable def chkV (v:Int) (bs:List (List Int)):V :=
 if chkE v bs = 0 then parV v bs.length (allP bs bs.length 1 * (v - 1) / (((bs.headD []).length:Int) - 1)) (bs.headD []).length (allP bs bs.length 1) else parV 0 0 0 0 0
set_option maxRecDepth 10000 in
set_option maxHeartbeats 4000000 in
theorem k21 (v:Int) (hv:-2 ^ 63≤v∧v < 2 ^ 63) (bs:List (List Int)) (hl:bs.length < 2 ^ 40) (hb:∀ b∈bs,b.length < 2 ^ 40∧∀ n∈b,-2 ^ 63≤n∧n < 2 ^ 63):PureC Tryz.prog 21 [.int .i64 v,rowsV bs] (fun r=>r = .tup [chkV v bs,.int .i64 (chkE v bs)]):=by
 refine pureC_of_wp (.l [.x,.x]) mixed ok21 rfl ?_
 unfold c21 chkV
 dsimp only [argE,parV]
 generalize h4:(40000:Nat) = N4
 by_cases h1:v < 3
 ·have e : chkE v bs = 1 := by unfold chkE; rw [if_pos (.inl h1)]
  rw [e,if_neg (by omega)]
  refine W.run ?_
  rfl
 by_cases h2:200 < v
 ·have e : chkE v bs = 1 := by unfold chkE; rw [if_pos (.inr h2)]
  rw [e,if_neg (by omega)]
  refine W.run ?_
  rfl
 have e1:chkE v bs = if 2000 < bs.length then 2
  else if bs.length = 0∨(bs.headD []).length < 2∨v≤(bs.headD []).length then 60
  else if (bs.all (goodB v (bs.headD []).length)) = false then 60
  else if @decide (PairsOk v.toNat (allP bs bs.length) (allP bs bs.length 1)) (Classical.propDecidable _) = false then 60
  else if allP bs bs.length 1 = 0 then 60 else 0:=by unfold chkE;rw [if_neg (by omega)]
 by_cases h3:2000 < bs.length
 ·rw [if_pos h3] at e1
  rw [e1,if_neg (by omega)]
  refine W.run ?_
  rfl
 rw [if_neg h3] at e1
 by_cases h5:bs.length = 0
 ·rw [if_pos (.inl h5)] at e1
  rw [e1,if_neg (by omega)]
  refine W.run ?_
  rfl
 obtain ⟨b0,bs',rfl⟩:∃ b0 bs',bs = b0::bs':=by
  cases bs with
  | nil=>exact absurd rfl h5
  | cons b0 bs'=>exact ⟨b0,bs',rfl⟩
 have hb0:=(hb b0 (by simp)).1
 have hbl:=h3
 rw [List.length_cons] at hbl
 by_cases h6:b0.length < 2
 ·rw [if_pos (.inr (.inl h6))] at e1
  rw [e1,if_neg (by omega)]
  refine W.run ?_
  rfl
 by_cases h7:v≤b0.length
 ·rw [if_pos (.inr (.inr h7))] at e1
  rw [e1,if_neg (by omega)]
  refine W.run ?_
  rfl
 refine W.run ?_
 obtain ⟨bs,hbs⟩:∃ bs,bs = b0::bs':=⟨_,rfl⟩
 obtain ⟨K,hK⟩:∃ K,K = b0.length:=⟨_,rfl⟩
 have hbl2:bs.length = bs'.length+1:=by rw [hbs];rfl
 have hhd:((b0::bs').headD []).length = K:=by rw [hK];rfl
 rw [hhd,← hbs] at e1
 rw [hhd]
 rw [if_neg (by omega)] at e1
 rw [← hbs] at h3 h5 hb hl ⊢
 rw [← hK] at hb0 h6 h7 ⊢
 rw [← hbl2] at hbl ⊢
 clear hbs hK hhd
 have hKv:(K:Int) < v∧2≤K∧K < 200:=by omega
 have bad:(∃ i,∃ h:i < bs.length,goodB v K bs[i] = false)→chkE v bs = 60:=by
  rintro ⟨i,hi,hg⟩
  rw [e1,if_pos]
  cases ha:bs.all (goodB v K)
  ·rfl
  ·rw [List.all_eq_true] at ha
   rw [ha _ (List.getElem_mem hi)] at hg;cases hg
 rw [show List.replicate N4 (V.int .i64 0) = tabC (allP bs 0) by rw [← h4];exact tabC_0.symm]
 refine W.lp (fun n:Nat=>[(0,.int .i64 v),(1,rowsV bs),(4,.ptr 0 0 0),(6,.int .i64 (K:Int)),(7,.ptr 272 0 0),(51,rowsV bs),(52,.int .i64 (bs.length:Int)),(53,.int .i64 (n:Int))]) (fun n=>(Hp.put (fun _=>none) 0 { cells:=[.int .i64 0,.int .i64 0,.int .i64 0,.int .i64 0,.int .i64 0],sz:=5 }).put 272 { cells:=tabC (allP bs n),sz:=N4 }) (fun n=>n≤bs.length∧∀ i (h:i < bs.length),i < n→goodB v K bs[i] = true) (fun n=>bs.length - n) 0 rfl (HS.refl _) ⟨by omega,fun i _ h=>absurd h (Nat.not_lt_zero _)⟩ ?_
 rintro n nx ⟨hn,hgood⟩ hnx
 by_cases hnl:n < bs.length
 ·have hbn:=hb bs[n] (List.getElem_mem hnl)
  have hgd:bs.getD n [] = bs[n]:=by rw [List.getD_eq_getElem?_getD,List.getElem?_eq_getElem hnl,Option.getD_some]
  by_cases hlen:bs[n].length = K
  ·have c43 := k43 bs[n] v (by omega)
   cases hr:riseB v (-1) bs[n]
   ·have hE := bad ⟨n, hnl, by unfold goodB; rw [hr, Bool.and_false]⟩
    rw [hr] at c43
    clear bad hgood e1
    rw [hE,if_neg (by omega)]
    refine W.run ?_
    rfl
   ·rw [hr] at c43
    have hbd:∀ q,0≤allP bs n q∧allP bs n q≤80000000:=fun q=>by
     have h:=allP_bd (bs:=bs) (K:=200) q n hn fun i hi hin=>by
      have:=hgood i hi hin
      unfold goodB at this
      rw [Bool.and_eq_true,decide_eq_true_eq] at this
      omega
     omega
    have hsc:=allP_succ hnl
    have hg1:goodB v K bs[n] = true:=by unfold goodB;rw [hr,decide_eq_true hlen];rfl
    have hrg:=riseB_rng hr
    clear hr bad e1
    have hnext:∀ i (h:i < bs.length),i < n+1→goodB v K bs[i] = true:=fun i h hi=>by
     by_cases e:i = n
     ·subst e;exact hg1
     ·exact hgood i h (by omega)
    clear hgood hg1
    refine W.run ?_
    generalize bs[n] = b at hlen c43 hsc hrg hbn hgd ⊢
    generalize allP bs n = F0 at hbd hsc ⊢
    refine W.lp (fun i:Nat=>[(0,.int .i64 v),(1,rowsV bs),(4,.ptr 0 0 0),(6,.int .i64 (K:Int)),(7,.ptr 272 0 0),(9,slI b),(51,rowsV bs),(52,.int .i64 (bs.length:Int)),(53,.int .i64 (n:Int)),(68,slI b),(69,.int .i64 (b.length:Int)),(70,.int .i64 (i:Int))]) (fun i=>(Hp.put (fun _=>none) 0 { cells:=[.int .i64 0,.int .i64 0,.int .i64 0,.int .i64 0,.int .i64 0],sz:=5 }).put 272 { cells:=tabC (blkP F0 b i),sz:=N4 }) (fun i=>i≤b.length) (fun i=>b.length - i) 0 rfl (HS.refl _) (by omega) ?_
    rintro i nx2 hi hnx2
    by_cases hil:i < b.length
    ·have hsi:=blkP_succ (F:=F0) hil
     have hx:=hrg b[i] (List.getElem_mem hil)
     have hbi:=fun q=>blkP_bd (F:=F0) (b:=b) q i
     generalize blkP F0 b i = F1 at hsi hbi ⊢
     generalize hxe:b[i] = x at hsi hx
     refine W.run ?_
     rw [hxe]
     refine W.run ?_
     refine W.lp (fun j:Nat=>[(0,.int .i64 v),(1,rowsV bs),(4,.ptr 0 0 0),(6,.int .i64 (K:Int)),(7,.ptr 272 0 0),(9,slI b),(11,.int .i64 x),(51,rowsV bs),(52,.int .i64 (bs.length:Int)),(53,.int .i64 (n:Int)),(68,slI b),(69,.int .i64 (b.length:Int)),(70,.int .i64 (i:Int)),(77,.sl ((b.take i).map (V.int .i64)) i),(78,.int .i64 (i:Int)),(79,.int .i64 (j:Int))]) (fun j=>(Hp.put (fun _=>none) 0 { cells:=[.int .i64 0,.int .i64 0,.int .i64 0,.int .i64 0,.int .i64 0],sz:=5 }).put 272 { cells:=tabC (rowP F1 b x j),sz:=N4 }) (fun j=>j≤i) (fun j=>i - j) 0 rfl (HS.refl _) (by omega) ?_
     rintro j nx3 hj hnx3
     by_cases hji:j < i
     ·have hsj := rowP_succ (F := F1) (x := x) (show j < b.length by omega)
      have hy:=hrg b[j] (List.getElem_mem (by omega))
      have hbj:=fun q=>rowP_bd (F:=F1) (b:=b) (x:=x) q j
      generalize hye:b[j] = y at hsj hy
      have q1:=hbd (y.toNat * 200+x.toNat)
      have q2:=hbi (y.toNat * 200+x.toNat)
      have q3:=hbj (y.toNat * 200+x.toNat)
      have hii:(i:Int) * i≤200 * 200:=Int.mul_le_mul (by omega) (by omega) (by omega) (by omega)
      clear hbd hbi hbj hrg
      generalize rowP F1 b x j = F2 at hsj q3 ⊢
      have hyt:(b.take i)[j]'(by rw [List.length_take];omega) = y:=by rw [List.getElem_take];exact hye
      have hT:(tabC F2).length = 40000:=tabC_len
      have hw:0≤F2 (y.toNat * 200+x.toNat)∧F2 (y.toNat * 200+x.toNat)≤90000000:=by omega
      have hts:=tabC_set (F:=F2) (n:=y.toNat * 200+x.toNat)
      clear q1 q2 q3 hii
      have hgt : (tabC F2)[y.toNat * 200 + x.toNat]'(by omega) = .int .i64 (F2 (y.toNat * 200 + x.toNat)) := by
       have:=tabC_get (F:=F2) (n:=y.toNat * 200+x.toNat) (by omega)
       rw [List.getElem?_eq_getElem (by omega)] at this
       exact Option.some.inj this
      refine W.run ?_
      simp only [hyt]
      refine W.run ?_
      rw [hgt]
      refine W.run ?_
      rw [set_td (show y.toNat * 200+x.toNat < (tabC F2).length by omega),hts,← hsj]
      exact W.kl (j+1) rfl (HS.refl _) (by omega) (by omega) (by omega)
     ·have hje : j = i := by omega
      subst hje
      refine W.run ?_
      exact W.kl (j+1) rfl (by rw [hsi];exact HS.refl _) (by omega) (by omega) (by omega)
    ·have hie : i = b.length := by omega
     subst hie
     refine W.run ?_
     exact W.kl (n+1) rfl (by rw [hsc];exact HS.refl _) (by omega) ⟨by omega,hnext⟩ (by omega)
  ·have hE := bad ⟨n, hnl, by unfold goodB; rw [decide_eq_false hlen, Bool.false_and]⟩
   clear bad hgood e1
   rw [hE,if_neg (by omega)]
   refine W.run ?_
   rfl
 ·have hne : n = bs.length := by omega
  subst hne
  have hall:bs.all (goodB v K) = true:=List.all_eq_true.2 fun b hb=>by
   obtain ⟨i,hi,rfl⟩:=List.getElem_of_mem hb
   exact hgood i hi hi
  rw [hall,if_neg (by simp)] at e1
  have hbd:∀ q,0≤allP bs bs.length q∧allP bs bs.length q≤80000000:=fun q=>by
   have h:=allP_bd (bs:=bs) (K:=200) q bs.length hn fun i hi hin=>by
    have:=hgood i hi hin
    unfold goodB at this
    rw [Bool.and_eq_true,decide_eq_true_eq] at this
    omega
   omega
  clear hall hgood bad
  have hL1:=hbd 1
  generalize allP bs bs.length = F at e1 hbd hL1 ⊢
  have bad2:¬ PairsOk v.toNat F (F 1)→chkE v bs = 60:=fun h=>by rw [e1,if_pos (by rw [@decide_eq_false _ (Classical.propDecidable _) h])]
  have good2:PairsOk v.toNat F (F 1)→chkE v bs = if F 1 = 0 then 60 else 0:=fun h=>by rw [e1,if_neg (by rw [@decide_eq_true _ (Classical.propDecidable _) h];simp)]
  clear e1
  refine W.run ?_
  refine W.lp (fun y:Nat=>[(0,.int .i64 v),(1,rowsV bs),(4,.ptr 0 0 0),(6,.int .i64 (K:Int)),(7,.ptr 272 0 0),(14,.int .i64 (F 1)),(97,.int .i64 v),(98,.int .i64 (y:Int))]) (fun _=>(Hp.put (fun _=>none) 0 { cells:=[.int .i64 0,.int .i64 0,.int .i64 0,.int .i64 0,.int .i64 0],sz:=5 }).put 272 { cells:=tabC F,sz:=N4 }) (fun y=>(y:Int)≤v∧∀ x y':Nat,x < y'→y' < y→F (x * 200+y') = F 1) (fun y=>v.toNat - y) 0 rfl (HS.refl _) ⟨by omega,fun x y' _ h=>absurd h (Nat.not_lt_zero _)⟩ ?_
  rintro y ny ⟨hy,hP⟩ hny
  by_cases hyv:(y:Int) < v
  ·refine W.run ?_
   refine W.lp (fun x:Nat=>[(0,.int .i64 v),(1,rowsV bs),(4,.ptr 0 0 0),(6,.int .i64 (K:Int)),(7,.ptr 272 0 0),(14,.int .i64 (F 1)),(15,.int .i64 (y:Int)),(97,.int .i64 v),(98,.int .i64 (y:Int)),(101,.int .i64 (y:Int)),(102,.int .i64 (x:Int))]) (fun _=>(Hp.put (fun _=>none) 0 { cells:=[.int .i64 0,.int .i64 0,.int .i64 0,.int .i64 0,.int .i64 0],sz:=5 }).put 272 { cells:=tabC F,sz:=N4 }) (fun x=>x≤y∧∀ x':Nat,x' < x→F (x' * 200+y) = F 1) (fun x=>y - x) 0 rfl (HS.refl _) ⟨by omega,fun x h=>absurd h (Nat.not_lt_zero _)⟩ ?_
   rintro x nx2 ⟨hx,hPx⟩ hnx2
   by_cases hxy:x < y
   ·by_cases hF:F (x * 200+y) = F 1
    ·have hP3:∀ x':Nat,x' < x+1→F (x' * 200+y) = F 1:=fun x' h=>by
      by_cases e:x' = x
      ·subst e;exact hF
      ·exact hPx x' (by omega)
     clear hP hPx bad2 good2
     refine W.run ?_
     exact W.kl (x+1) rfl (HS.refl _) (by omega) ⟨by omega,hP3⟩ (by omega)
    ·have hE := bad2 fun h => hF (h x y hxy (by omega))
     rw [hE,if_neg (by omega)]
     clear hP hPx bad2 good2
     refine W.run ?_
     rfl
   ·have hxe : x = y := by omega
    subst hxe
    have hP2:∀ x' y':Nat,x' < y'→y' < x+1→F (x' * 200+y') = F 1:=fun x' y' h1 h2=>by
     by_cases e:y' = x
     ·subst e;exact hPx x' h1
     ·exact hP x' y' h1 (by omega)
    clear hP hPx bad2 good2
    refine W.run ?_
    exact W.kl (x+1) rfl (HS.refl _) (by omega) ⟨by omega,hP2⟩ (by omega)
  ·have hye : v = (y : Int) := by omega
   have hE:=good2 fun x y' h1 h2=>hP x y' h1 (by omega)
   clear hP bad2 good2
   by_cases h0:F 1 = 0
   ·rw [if_pos h0] at hE
    rw [hE,if_neg (by omega)]
    refine W.run ?_
    rfl
   ·rw [if_neg h0] at hE
    rw [hE,if_pos rfl]
    have q1:=mul_abs_bd (a:=F 1) (b:=v - 1) (A:=80000000) (B:=200) (by omega) (by omega)
    have q2:0≤F 1 * (v - 1):=Int.mul_nonneg (by omega) (by omega)
    refine W.run ?_
    rfl
end Go.Dp
namespace Go.Dp
open Go.RowKit Go.Proofs
attribute [local irreducible] wp wpOps wpOp1 CallW CallT kSeq kBlk kLoop kReg retP retR kAsg kRound kRf kCut kItr kItr2
set_option linter.unusedVariables false
set_option linter.unusedSimpArgs false
def HpV (B:Hp) (os:List (Nat × Ob)) (lo n:Nat):Hp:=os.foldl (fun H p=>H.put p.1 p.2) B
def BV (os:List (Nat × Ob)) (lo n:Nat):Prop:=(os.map Prod.fst).Nodup∧∀ p∈os,lo < p.1∧p.1 < n
theorem HpV_snoc {B:Hp} {os:List (Nat × Ob)} {lo n n':Nat} {p:Nat × Ob}:HpV B (os++[p]) lo n' = (HpV B os lo n).put p.1 p.2:=by
 unfold HpV;rw [List.foldl_append];rfl
theorem HpV_at0 {i:Nat}:∀ (os:List (Nat × Ob)) (B:Hp),(∀ p∈os,p.1≠i)→os.foldl (fun H p=>H.put p.1 p.2) B i = B i
 | [],B,_=>rfl
 | p::os,B,h=>by
  rw [List.foldl_cons,HpV_at0 os _ fun q hq=>h q (by simp [hq]),put_ne (Ne.symm (h p (by simp)))]
theorem HpV_put0 {i:Nat} {ob:Ob}:∀ (os:List (Nat × Ob)) (B:Hp),(∀ p∈os,p.1≠i)→(os.foldl (fun H p=>H.put p.1 p.2) B).put i ob = os.foldl (fun H p=>H.put p.1 p.2) (B.put i ob)
 | [],B,_=>rfl
 | p::os,B,h=>by
  rw [List.foldl_cons,List.foldl_cons,HpV_put0 os _ fun q hq=>h q (by simp [hq]),put_comm (h p (by simp))]
theorem BV.nil {lo n:Nat}:BV [] lo n:=⟨List.nodup_nil,fun p hp=>by cases hp⟩
section
variable {B:Hp} {os:List (Nat × Ob)} {lo n i:Nat} {ob:Ob}
@[go_sem] theorem HpV_at (hb:BV os lo n) (hi:i≤lo∨n≤i):HpV B os lo n i = B i :=
 HpV_at0 os B fun p hp e=>by have:=hb.2 p hp;omega
@[go_sem] theorem HpV_put (hb:BV os lo n) (hi:i≤lo∨n≤i):(HpV B os lo n).put i ob = HpV (B.put i ob) os lo n :=
 HpV_put0 os B fun p hp e=>by have:=hb.2 p hp;omega
theorem HpV_obj (hb:BV os lo n) {p:Nat × Ob} (hp:p∈os):HpV B os lo n p.1 = some p.2:=by
 have hn:=hb.1
 unfold HpV
 clear hb
 induction os generalizing B with
 | nil=>cases hp
 | cons q os ih =>
  have hn':=List.nodup_cons.1 hn
  rw [List.foldl_cons]
  rcases List.mem_cons.1 hp with rfl | hp
  ·rw [HpV_at0 os _ fun r hr e=>hn'.1 (List.mem_map.2 ⟨r,hr,e⟩),put_same]
  ·exact ih hp hn'.2
end
theorem BV.mono {os:List (Nat × Ob)} {lo n n':Nat} (h:BV os lo n) (hn:n≤n'):BV os lo n':=⟨h.1,fun p hp=>by have:=h.2 p hp;omega⟩
theorem BV.snoc {os:List (Nat × Ob)} {lo n n':Nat} {p:Nat × Ob} (h:BV os lo n) (hp:n≤p.1∧p.1 < n') (hlo:lo < n):BV (os++[p]) lo n':=by
 refine ⟨?_,fun q hq=>?_⟩
 ·rw [List.map_append]
  refine List.nodup_append.2 ⟨h.1,by simp,fun a ha b hb=>?_⟩
  obtain ⟨q,hq,rfl⟩:=List.mem_map.1 ha
  have:=h.2 q hq
  simp only [List.map_cons,List.map_nil,List.mem_singleton] at hb
  omega
 ·rcases List.mem_append.1 hq with hq | hq
  ·have:=h.2 q hq;omega
  ·rw [List.mem_singleton.1 hq];omega
def rowT (F:Nat→Int) (v x:Nat):Ob:={ cells:=(List.range v).map fun y=>V.int .i64 (F (x * 200+y)),sz:=1 }
def osT (F:Nat→Int) (v:Nat):Nat→List Nat→List (Nat × Ob)
 | _,[]=>[]
 | x,id::ids=>(id,rowT F v x)::osT F v (x+1) ids
theorem osT_fst {F:Nat→Int} {v:Nat}:∀ {ids:List Nat} {x:Nat},(osT F v x ids).map Prod.fst = ids
 | [],_=>rfl
 | id::ids,x=>by rw [osT,List.map_cons,osT_fst]
theorem osT_mem {F:Nat→Int} {v:Nat}:∀ {ids:List Nat} {x i:Nat} (h:i < ids.length),(ids[i],rowT F v (x+i))∈osT F v x ids
 | id::ids,x,0,h=>by simp [osT]
 | id::ids,x,i+1,h=>by
  rw [osT,show x+(i+1) = x+1+i by omega]
  exact List.mem_cons_of_mem _ (osT_mem (by simpa using h))
theorem osT_app {F:Nat→Int} {v id:Nat}:∀ {ids:List Nat} {x:Nat},osT F v x (ids++[id]) = osT F v x ids++[(id,rowT F v (x+ids.length))]
 | [],x=>rfl
 | a::ids,x=>by
  rw [List.cons_append,osT,osT,osT_app,List.length_cons,show x+1+ids.length = x+(ids.length+1) by omega];rfl
def idsOk (ids:List Nat) (lo n:Nat):Prop:=ids.Nodup∧∀ i∈ids,lo < i∧i < n
theorem idsOk.bv {ids:List Nat} {lo n v x:Nat} {F:Nat→Int} (h:idsOk ids lo n):BV (osT F v x ids) lo n:=by
 refine ⟨by rw [osT_fst];exact h.1,fun p hp=>?_⟩
 have:p.1∈(osT F v x ids).map Prod.fst:=List.mem_map.2 ⟨p,hp,rfl⟩
 rw [osT_fst] at this
 exact h.2 _ this
theorem rowT_inc {F:Nat→Int} {v x x' y:Nat} (hv:v≤200) (hy:y < v) (h:x'≠x):rowT (incF F (x * 200+y)) v x' = rowT F v x':=by
 unfold rowT
 congr 1
 refine List.map_congr_left fun y' hy'=>?_
 rw [List.mem_range] at hy'
 unfold incF
 rw [if_neg (by omega)]
theorem rowT_set {F:Nat→Int} {v x y:Nat} (hv:v≤200) (hy:y < v):(rowT F v x).cells.set y (.int .i64 (F (x * 200+y)+1)) = (rowT (incF F (x * 200+y)) v x).cells:=by
 unfold rowT
 refine List.ext_getElem (by simp) fun i h1 h2=>?_
 rw [List.getElem_set]
 simp only [List.getElem_map,List.getElem_range]
 unfold incF
 split
 ·rename_i e;subst e;rw [if_pos rfl]
 ·rw [if_neg (by omega)]
theorem HpT_inc {B:Hp} {ids:List Nat} {F:Nat→Int} {v lo n x y:Nat} (h:idsOk ids lo n) (hv:v≤200) (hx:x < ids.length) (hy:y < v) :
  (HpV B (osT F v 0 ids) lo n).put ids[x] (rowT (incF F (x * 200+y)) v x) = HpV B (osT (incF F (x * 200+y)) v 0 ids) lo n:=by
 funext j
 by_cases hj:j∈ids
 ·obtain ⟨i,hi,rfl⟩:=List.getElem_of_mem hj
  have h1:=HpV_obj (B:=B) (h.bv (F:=F) (v:=v) (x:=0)) (osT_mem (x:=0) hi)
  have h2:=HpV_obj (B:=B) (h.bv (F:=incF F (x * 200+y)) (v:=v) (x:=0)) (osT_mem (x:=0) hi)
  rw [Nat.zero_add] at h1 h2
  dsimp only at h1 h2
  rw [h2]
  by_cases e:i = x
  ·subst e;rw [put_same]
  ·have hne:ids[i]≠ids[x]:=by
    rcases Nat.lt_or_gt_of_ne e with h' | h'
    ·exact List.pairwise_iff_getElem.1 h.1 i x hi hx h'
    ·exact fun he=>List.pairwise_iff_getElem.1 h.1 x i hx hi h' he.symm
   rw [put_ne hne,h1,rowT_inc hv hy e]
 ·have hne : ∀ p ∈ osT F v 0 ids, p.1 ≠ j := fun p hp e => hj (by rw [← e, ← osT_fst (F := F) (v := v) (x := 0) (ids := ids)]; exact List.mem_map.2 ⟨p, hp, rfl⟩)
  have hne2:∀ p∈osT (incF F (x * 200+y)) v 0 ids,p.1≠j:=fun p hp e=>hj (by rw [← e,← osT_fst (F:=incF F (x * 200+y)) (v:=v) (x:=0) (ids:=ids)];exact List.mem_map.2 ⟨p,hp,rfl⟩)
  rw [put_ne (fun e=>hj (by rw [e];exact List.getElem_mem hx))]
  unfold HpV
  rw [HpV_at0 _ _ hne,HpV_at0 _ _ hne2]
end Go.Dp
