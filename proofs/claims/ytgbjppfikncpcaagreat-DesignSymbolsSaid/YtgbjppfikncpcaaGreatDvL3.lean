import Derived.Test.YtgbjppfikncpcaaGreatDvK5
import Derived.Test.YtgbjppfikncpcaaGreatDvTP
import Derived.Test.YtgbjppfikncpcaaGreatDpWk
import Derived.Test.YtgbjppfikncpcaaGreatDsF4
namespace Go.Dp
open Go.RowKit Go.Proofs
attribute [local irreducible] wp wpOps wpOp1 CallW CallT kSeq kBlk kLoop kReg retP retR kAsg kRound kRf kCut kItr kItr2
set_option linter.unusedVariables false
set_option linter.unusedSimpArgs false
def idxI (x:Int):List Int→Int→Int
 | [],_=>-1
 | a::l,n=>if x = a then n else idxI x l (n+1)
theorem idxI_drop {x:Int} {A:List Int} {i:Nat} (h:i < A.length):idxI x (A.drop i) (i:Int) = if x = A[i] then (i:Int) else idxI x (A.drop (i+1)) ((i:Int)+1):=by
 rw [List.drop_eq_getElem_cons h];rfl
theorem idxI_any {x:Int}:∀ (A:List Int) (n:Int),0≤n→(0≤idxI x A n↔x∈A)
 | [],n,h=>by simp [idxI]
 | a::l,n,h=>by
  unfold idxI
  split
  ·rename_i e;simp [e,h]
  ·rename_i e
   rw [idxI_any l (n+1) (by omega)]
   simp [e]
set_option maxRecDepth 10000 in
theorem k62 (A:List Int) (x:Int) (hA:A.length < 2 ^ 40):PureC Tryz.prog 62 [.sl (A.map (V.int .i64)) A.length,.int .i64 x] (fun r=>r = .int .i64 (idxI x A 0)):=by
 refine pureC_of_wp .x mixed ok62 rfl ?_
 unfold c62
 dsimp only [argE]
 refine W.run ?_
 refine W.lp (fun i:Nat=>[(0,.sl (A.map (V.int .i64)) A.length),(1,.int .i64 x),(7,.int .i64 (A.length:Int)),(8,.int .i64 (i:Int))]) (fun _ _=>none) (fun i=>i≤A.length∧idxI x A 0 = idxI x (A.drop i) i) (fun i=>A.length - i) 0 rfl (HS.refl _) ⟨by omega,rfl⟩ ?_
 rintro i nx ⟨h1,h2⟩ hnx
 by_cases hi:i < A.length
 ·rw [idxI_drop hi] at h2
  by_cases he:x = A[i]
  ·rw [if_pos he] at h2
   refine W.run ?_
   rw [h2]
  ·rw [if_neg he] at h2
   refine W.run ?_
   exact W.kl (i+1) rfl (HS.refl _) (by omega) ⟨by omega,h2⟩ (by omega)
 ·have hi2 : i = A.length := by omega
  subst hi2
  rw [List.drop_length] at h2
  refine W.run ?_
  rw [h2];rfl
theorem k45 (A:List Int) (x:Int) (hA:A.length < 2 ^ 40):PureC Tryz.prog 45 [.sl (A.map (V.int .i64)) A.length,.int .i64 x] (fun r=>r = .bool (decide (x∈A))):=by
 have c1:=k62 A x hA
 have h:=idxI_any (x:=x) A 0 (by omega)
 refine pureC_of_wp .x mixed ok45 rfl ?_
 unfold c45
 dsimp only [argE]
 by_cases hx:x∈A
 ·have:0≤idxI x A 0:=h.2 hx
  clear h
  refine W.run ?_
  rw [decide_eq_true hx]
 ·have:¬ 0≤idxI x A 0:=fun e=>hx (h.1 e)
  clear h
  refine W.run ?_
  rw [decide_eq_false hx]
theorem small_len {L:List Int} (hn:L.Nodup) (h:∀ x∈L,-1≤x∧x≤1000000):L.length≤1000002:=by
 have:=nodup_len hn (L:=(List.range 1000002).map fun i:Nat=>(i:Int) - 1) fun x hx=>List.mem_map.2 ⟨(x+1).toNat,List.mem_range.2 (by have:=h x hx;omega),by have:=h x hx;omega⟩
 rwa [List.length_map,List.length_range] at this
theorem primesL_le {n:Nat} (hn:0 < n) {p:Nat} (hp:p∈primesL n):p≤n:=Nat.le_of_dvd hn ((primesL_ok hn).1 p hp).2.1
theorem facV_get {n i:Nat} {vs:List V} (h:(facV n)[i]? = some vs):∃ (hi:i < (primesL n).length) (e:Nat),vs = [.int .i64 (((primesL n)[i]:Nat):Int),.int .i64 (e:Int)]:=by
 have hl:(facL n).length = (primesL n).length:=by rw [← facL_fst,List.length_map]
 unfold facV at h
 obtain ⟨hi,hv⟩:=List.getElem?_eq_some_iff.1 h
 rw [List.length_map] at hi
 have e1 : (primesL n)[i]'(by omega) = ((facL n)[i]).1 := by
  have:=List.getElem_map (f:=Prod.fst) (l:=facL n) (i:=i) (h:=by rw [List.length_map];exact hi)
  rw [← this]
  congr 1
  exact (facL_fst n).symm
 refine ⟨by omega,((facL n)[i]).2,?_⟩
 rw [← hv,List.getElem_map,e1]
theorem addA_take {L:List Int} {ps:List Nat} {i:Nat} (hi:i < ps.length):addA L (ps.take (i+1)) = addP (addA L (ps.take i)) ps[i]:=by
 unfold addA
 rw [← List.take_append_getElem hi,List.foldl_append];rfl
def HPl (a b:Int) (L:List Int):Hp:=((Hp.put (fun _=>none) 8 { cells:=L.map (V.int .i64),sz:=1,ver:=L.length - 2 }).put 16 { cells:=[.ref 8 (L.length - 2) 0 L.length],sz:=1 }).put 48 { cells:=[.int .i64 a,.int .i64 b],sz:=1 }
def okPl (L:List Int):Prop:=(2≤L.length∧L.Nodup)∧∀ x∈L,-1≤x∧x≤1000000
theorem okPl.add {L:List Int} (h:okPl L) {N i:Nat} (hN:0 < N∧N≤1000000):okPl (addA L ((primesL N).take i)):=by
 obtain ⟨⟨h1,h2⟩,h3⟩:=h
 refine ⟨⟨?_,addA_nodup h2⟩,fun x hx=>?_⟩
 ·exact Nat.le_trans h1 (nodup_len h2 fun x hx=>addA_mem.2 (.inl hx))
 ·rcases addA_mem.1 hx with hx | ⟨p,hp,rfl⟩
  ·exact h3 x hx
  ·have:=primesL_le hN.1 (List.mem_of_mem_take hp);omega
set_option maxRecDepth 10000 in
set_option maxHeartbeats 2000000 in
theorem k32 (a b:Int) (ha:a≠0∧-1000000≤a∧a≤1000000) (hb:b≠0∧-1000000≤b∧b≤1000000):PureC Tryz.prog 32 [.int .i64 a,.int .i64 b] (fun r=>r = .own ((plS a b).map (V.int .i64)) (plS a b).length 1):=by
 have ca:=k47 a
 have cb:=k47 b
 have ita:=it65 a ha
 have itb:=it65 b hb
 have hA:0 < a.natAbs∧a.natAbs≤1000000:=by omega
 have hB:0 < b.natAbs∧b.natAbs≤1000000:=by omega
 have hfew:=plS_few ha.1 hb.1 hA.2 hB.2
 refine pureC_of_wp (.s 1) mixed ok32 rfl ?_
 unfold c32
 dsimp only [argE]
 refine W.run ?_
 refine W.lp (fun z:Nat × List Int=>[(5,.ptr 16 0 0),(12,.ref 48 0 0 2),(13,.int .i64 2),(14,.int .i64 (z.1:Int))]) (fun z=>HPl a b z.2) (fun z=>z.1≤2∧okPl z.2∧(z.1 = 0→z.2 = [-1,2])∧(z.1 = 1→z.2 = addA [-1,2] (primesL a.natAbs))∧(z.1 = 2→z.2 = plU a b)) (fun z=>2 - z.1) (0,[-1,2]) rfl (HS.refl _) ⟨by decide,⟨⟨by decide,by decide⟩,by decide⟩,fun _=>rfl,fun h=>by simp at h,fun h=>by simp at h⟩ ?_
 rintro ⟨i,L⟩ nx ⟨hi,hok,h0,h1,h2⟩ hnx
 dsimp only at hi hok h0 h1 h2 ⊢
 have hl:=hok.1.1
 have hs:=small_len hok.1.2 hok.2
 by_cases hi2:i < 2
 ·have hcase:∃ n N,(n = a∧i = 0∨n = b∧i = 1)∧N = n.natAbs∧(0 < N∧N≤1000000):=by
   rcases (by omega:i = 0∨i = 1) with h | h
   ·exact ⟨a,_,.inl ⟨rfl,h⟩,rfl,hA⟩
   ·exact ⟨b,_,.inr ⟨rfl,h⟩,rfl,hB⟩
  unfold HPl
  clear hcase
  rcases (by omega:i = 0∨i = 1) with rfl | rfl
  ·refine W.run ?_
   refine W.rfi2 ita YEx.none rfl facV_two (fun X:List Int=>HPl a b X) (fun i X _=>X = addA L ((primesL a.natAbs).take i)) (fun i x n n' h _=>h) L (HS.refl _) (by simp [addA]) (fun i x m _=>by unfold HPl;repeat rw [put_ne (by omega)]) ?_ ?_
   ·rintro i vs X m hvs rfl hm
    obtain ⟨hil,e,rfl⟩:=facV_get hvs
    have hadd:=addA_take (L:=L) hil
    have hok2:=hok.add (i:=i) hA
    clear hvs h0 h1 h2 hok hl hs hfew
    generalize addA L ((primesL a.natAbs).take i) = X at hadd hok2 ⊢
    have hpN:(primesL a.natAbs)[i]≤a.natAbs:=primesL_le hA.1 (List.getElem_mem hil)
    generalize (primesL a.natAbs)[i] = p at hadd hpN ⊢
    have hXl:=hok2.1.1
    have hXs:=small_len hok2.1.2 hok2.2
    have c45:=k45 X (p:Int) (by omega)
    dsimp only [putL]
    unfold HPl
    by_cases hm2:(p:Int)∈X
    ·rw [decide_eq_true hm2] at c45
     have e1:addP X p = X:=if_pos hm2
     rw [e1] at hadd
     clear hok2 hm2 e1
     refine W.run ?_
     refine W.kasg2 (by simp (disch:=omega) only [put_same,put_ne,ne_eq,go_sem]) rfl ?_
     refine W.run ?_
     refine W.kitr2 X ?_ hadd.symm (by omega)
     exact HS.refl _
    ·rw [decide_eq_false hm2] at c45
     have e1:addP X p = X++[(p:Int)]:=if_neg hm2
     rw [e1] at hadd
     clear hok2 hm2 e1
     refine W.run ?_
     refine W.kasg2 (by simp (disch:=omega) only [put_same,put_ne,ne_eq,go_sem]) rfl ?_
     refine W.run ?_
     refine W.kitr2 (X++[(p:Int)]) ?_ hadd.symm (by omega)
     rw [List.length_append,List.length_singleton,List.map_append,show X.length+1 - 2 = X.length - 2+1 by omega]
     exact HS.skip (HS.refl _) (by repeat rw [put_ne (by omega)]) _
   ·rintro X m hX hm
    rw [show (facV a.natAbs).length = (primesL a.natAbs).length by rw [← facL_fst,List.length_map];unfold facV;rw [List.length_map],List.take_length] at hX
    have hok2:=hok.add (i:=(primesL a.natAbs).length) hA
    rw [List.take_length,← hX] at hok2
    clear hs hl hok
    unfold HPl
    refine W.run ?_
    exact W.kl (1,X) rfl (HS.refl _) (by omega) ⟨by dsimp only;omega,hok2,fun h=>absurd h (by dsimp only;omega),fun _=>by rw [hX,h0 rfl],fun h=>absurd h (by dsimp only;omega)⟩ (by dsimp only;omega)
  ·refine W.run ?_
   refine W.rfi2 itb YEx.none rfl facV_two (fun X:List Int=>HPl a b X) (fun i X _=>X = addA L ((primesL b.natAbs).take i)) (fun i x n n' h _=>h) L (HS.refl _) (by simp [addA]) (fun i x m _=>by unfold HPl;repeat rw [put_ne (by omega)]) ?_ ?_
   ·rintro i vs X m hvs rfl hm
    obtain ⟨hil,e,rfl⟩:=facV_get hvs
    have hadd:=addA_take (L:=L) hil
    have hok2:=hok.add (i:=i) hB
    clear hvs h0 h1 h2 hok hl hs hfew
    generalize addA L ((primesL b.natAbs).take i) = X at hadd hok2 ⊢
    have hpN:(primesL b.natAbs)[i]≤b.natAbs:=primesL_le hB.1 (List.getElem_mem hil)
    generalize (primesL b.natAbs)[i] = p at hadd hpN ⊢
    have hXl:=hok2.1.1
    have hXs:=small_len hok2.1.2 hok2.2
    have c45:=k45 X (p:Int) (by omega)
    dsimp only [putL]
    unfold HPl
    by_cases hm2:(p:Int)∈X
    ·rw [decide_eq_true hm2] at c45
     have e1:addP X p = X:=if_pos hm2
     rw [e1] at hadd
     clear hok2 hm2 e1
     refine W.run ?_
     refine W.kasg2 (by simp (disch:=omega) only [put_same,put_ne,ne_eq,go_sem]) rfl ?_
     refine W.run ?_
     refine W.kitr2 X ?_ hadd.symm (by omega)
     exact HS.refl _
    ·rw [decide_eq_false hm2] at c45
     have e1:addP X p = X++[(p:Int)]:=if_neg hm2
     rw [e1] at hadd
     clear hok2 hm2 e1
     refine W.run ?_
     refine W.kasg2 (by simp (disch:=omega) only [put_same,put_ne,ne_eq,go_sem]) rfl ?_
     refine W.run ?_
     refine W.kitr2 (X++[(p:Int)]) ?_ hadd.symm (by omega)
     rw [List.length_append,List.length_singleton,List.map_append,show X.length+1 - 2 = X.length - 2+1 by omega]
     exact HS.skip (HS.refl _) (by repeat rw [put_ne (by omega)]) _
   ·rintro X m hX hm
    rw [show (facV b.natAbs).length = (primesL b.natAbs).length by rw [← facL_fst,List.length_map];unfold facV;rw [List.length_map],List.take_length] at hX
    have hok2:=hok.add (i:=(primesL b.natAbs).length) hB
    rw [List.take_length,← hX] at hok2
    clear hs hl hok
    unfold HPl
    refine W.run ?_
    exact W.kl (2,X) rfl (HS.refl _) (by omega) ⟨by dsimp only;omega,hok2,fun h=>absurd h (by dsimp only;omega),fun h=>absurd h (by dsimp only;omega),fun _=>by rw [hX,h1 rfl];rfl⟩ (by dsimp only;omega)
 ·have hie : i = 2 := by omega
  have hL:=h2 hie
  have hSl:(plS a b).length = L.length:=by rw [hL];exact srtI_len _ _ rfl
  subst hie
  clear h0 h1 h2 hi hok
  have e1:srtI L = plS a b:=by rw [hL];rfl
  unfold HPl
  refine W.run ?_
  refine W.refR (k41 Ys.none _ 8 _ (L.length - 2) 0 L (by simp (disch:=omega) only [put_same,put_ne,ne_eq,iOb]) (by omega) (by omega)) ⟨.tup [],_,_,⟨rfl,Nat.le_refl _⟩,Nat.le_refl _,fun j hj h0=>?_⟩ ?_
  ·have h0':(((Hp.put (fun _=>none) 8 { cells:=L.map (V.int .i64),sz:=1,ver:=L.length - 2 }).put 16 { cells:=[.ref 8 (L.length - 2) 0 L.length],sz:=1 }).put 48 { cells:=[.int .i64 a,.int .i64 b],sz:=1 }) j = none:=h0
   show Hp.put _ 8 _ j = none
   rw [put_ne (fun e=>by rw [e,put_ne (by omega),put_ne (by omega),put_same] at h0';cases h0')]
   exact h0'
  ·rintro r H' t ⟨rfl,ht⟩ - -
   rw [e1]
   dsimp only [iOb]
   refine W.run ?_
   rw [hSl]
abbrev slI (A:List Int):V:=.sl (A.map (V.int .i64)) A.length
theorem k7 (a b:Int) (hE:rngE a b = 0):PureC Tryz.prog 7 [.int .i64 a,.int .i64 b] (fun r=>r = .tup [slI (plS a b),.int .i64 0]):=by
 obtain ⟨ha,hb⟩:=rngE_0 hE
 have c1:=k29 a b
 rw [hE] at c1
 have c2:=k32 a b ha hb
 refine pureC_of_wp (.l [.x,.x]) mixed ok7 rfl ?_
 unfold c7
 dsimp only [argE]
 refine W.run ?_
 rfl
theorem k7e (a b:Int) (hE:rngE a b≠0):PureC Tryz.prog 7 [.int .i64 a,.int .i64 b] (fun r=>r = .tup [.nils,.int .i64 (rngE a b)]):=by
 have c1:=k29 a b
 refine pureC_of_wp (.l [.x,.x]) mixed ok7 rfl ?_
 unfold c7
 dsimp only [argE]
 refine W.run ?_
 rfl
theorem plR_len (a b:Int) (n:Nat):(plR a b n).length≤n+2:=by
 unfold plR
 rw [List.length_append]
 have:=List.length_filter_le (plT a b) ((List.range n).map fun i:Nat=>3+2 * (i:Int))
 rw [List.length_map,List.length_range] at this
 simp;omega
set_option maxRecDepth 10000 in
set_option maxHeartbeats 2000000 in
theorem k10 (a b:Int) (ha:a≠0∧-1000000≤a∧a≤1000000) (hb:b≠0∧-1000000≤b∧b≤1000000):PureC Tryz.prog 10 [.int .i64 a,.int .i64 b] (fun r=>r = .own ((plS a b).map (V.int .i64)) (plS a b).length 1):=by
 rw [places_eq ha.1 hb.1 (by omega) (by omega)]
 refine pureC_of_wp (.s 1) mixed ok10 rfl ?_
 unfold c10
 dsimp only [argE]
 refine W.run ?_
 refine W.lp (fun i:Nat=>[(0,.int .i64 a),(1,.int .i64 b),(5,.ref 8 ((plR a b i).length - 2) 0 (plR a b i).length),(6,.int .i64 (3+2 * (i:Int)))]) (fun i=>Hp.put (fun _=>none) 8 { cells:=(plR a b i).map (V.int .i64),sz:=1,ver:=(plR a b i).length - 2 }) (fun i=>i≤499999) (fun i=>499999 - i) 0 rfl (HS.refl _) (by omega) ?_
 rintro i nx hi hnx
 have hl:=plR_len a b i
 have hl2:2≤(plR a b i).length:=by unfold plR;simp
 by_cases hil:i < 499999
 ·have hs:=plR_succ a b i
  have c33:=k33 (3+2 * (i:Int)) (by omega) (by omega)
  have d1:a.tmod (3+2 * (i:Int)) = 0↔(3+2 * (i:Int)) ∣ a:=(Int.dvd_iff_tmod_eq_zero).symm
  have d2:b.tmod (3+2 * (i:Int)) = 0↔(3+2 * (i:Int)) ∣ b:=(Int.dvd_iff_tmod_eq_zero).symm
  unfold plT at hs
  generalize plR a b i = X at hs hl hl2 ⊢
  by_cases e1:a.tmod (3+2 * (i:Int)) = 0
  ·rw [decide_eq_true (d1.1 e1),Bool.true_or,Bool.true_and] at hs
   clear d1 d2
   cases hp:primeB (3+2 * (i:Int))
   ·rw [hp] at c33 hs
    rw [if_neg (by simp),List.append_nil] at hs
    refine W.run ?_
    rw [show 3+2 * (i:Int)+2 = 3+2 * ((i+1:Nat):Int) by omega]
    exact W.kl (i+1) (by rw [hs];rfl) (by rw [hs];exact HS.refl _) (by omega) (by omega) (by omega)
   ·rw [hp] at c33 hs
    rw [if_pos rfl] at hs
    refine W.run ?_
    rw [show 3+2 * (i:Int)+2 = 3+2 * ((i+1:Nat):Int) by omega]
    refine W.kl (i+1) (by rw [hs,List.length_append,List.length_singleton,show X.length+1 - 2 = X.length - 2+1 by omega];rfl) ?_ (by omega) (by omega) (by omega)
    rw [hs,List.length_append,List.length_singleton,List.map_append,show X.length+1 - 2 = X.length - 2+1 by omega]
    exact HS.skip (HS.refl _) (by repeat rw [put_ne (by omega)]) _
  ·rw [decide_eq_false (fun h=>e1 (d1.2 h)),Bool.false_or] at hs
   by_cases e2:b.tmod (3+2 * (i:Int)) = 0
   ·rw [decide_eq_true (d2.1 e2),Bool.true_and] at hs
    clear d1 d2
    cases hp:primeB (3+2 * (i:Int))
    ·rw [hp] at c33 hs
     rw [if_neg (by simp),List.append_nil] at hs
     refine W.run ?_
     rw [show 3+2 * (i:Int)+2 = 3+2 * ((i+1:Nat):Int) by omega]
     exact W.kl (i+1) (by rw [hs];rfl) (by rw [hs];exact HS.refl _) (by omega) (by omega) (by omega)
    ·rw [hp] at c33 hs
     rw [if_pos rfl] at hs
     refine W.run ?_
     rw [show 3+2 * (i:Int)+2 = 3+2 * ((i+1:Nat):Int) by omega]
     refine W.kl (i+1) (by rw [hs,List.length_append,List.length_singleton,show X.length+1 - 2 = X.length - 2+1 by omega];rfl) ?_ (by omega) (by omega) (by omega)
     rw [hs,List.length_append,List.length_singleton,List.map_append,show X.length+1 - 2 = X.length - 2+1 by omega]
     exact HS.skip (HS.refl _) (by repeat rw [put_ne (by omega)]) _
   ·rw [decide_eq_false (fun h => e2 (d2.2 h)), Bool.false_and, if_neg (by simp), List.append_nil] at hs
    clear d1 d2
    refine W.run ?_
    rw [show 3+2 * (i:Int)+2 = 3+2 * ((i+1:Nat):Int) by omega]
    exact W.kl (i+1) (by rw [hs];rfl) (by rw [hs];exact HS.refl _) (by omega) (by omega) (by omega)
 ·have hie : i = 499999 := by omega
  subst hie
  refine W.run ?_
  rfl
end Go.Dp
namespace Go.Dp
open Go.RowKit Go.Proofs
theorem k13:PureC Tryz.prog 13 [] (fun r=>r = .bool true):=pureC_of_run tab_ok 400 (by kernel_rfl)
end Go.Dp
namespace Go.Dp
open Go.RowKit Go.Proofs
attribute [local irreducible] wp wpOps wpOp1 CallW CallT kSeq kBlk kLoop kReg retP retR kAsg kRound kRf kCut kItr kItr2
set_option linter.unusedVariables false
set_option linter.unusedSimpArgs false
def B64 (n:Int):Prop:=-9223372036854775808≤n∧n < 9223372036854775808
theorem plS_ne (a b:Int):2≤(plS a b).length:=by
 have h:(plS a b).length = (plU a b).length:=srtI_len _ _ rfl
 rw [h]
 exact nodup_len (M:=[-1,2]) (by decide) fun x hx=>by unfold plU;exact addA_mem.2 (.inl (addA_mem.2 (.inl hx)))
theorem plS_bd {a b:Int} (ha:a≠0∧-1000000≤a∧a≤1000000) (hb:b≠0∧-1000000≤b∧b≤1000000):∀ x∈plS a b,-1≤x∧x≤1000000:=fun x hx=>by
 rcases (plS_mem ha.1 hb.1).1 hx with h | h | ⟨p,hp,rfl,hd⟩
 ·omega
 ·omega
 ·have:p≤1000000:=by
   rcases hd with hd | hd
   ·have:=Nat.le_of_dvd (by omega) hd;omega
   ·have:=Nat.le_of_dvd (by omega) hd;omega
  omega
theorem tmod_bd (a:Int):B64 (a.tmod 1000):=by
 have h1:-1000 < a.tmod 1000:=Int.lt_tmod_of_pos a (by omega)
 have h2:a.tmod 1000 < 1000:=Int.tmod_lt_of_pos a (by omega)
 unfold B64;omega
set_option maxRecDepth 10000 in
set_option maxHeartbeats 4000000 in
theorem k3 (a b p:Int) (ha:B64 a) (hb:B64 b) (hp:B64 p):PureC Tryz.prog 3 [.int .i64 a,.int .i64 b,.int .i64 p] (fun r=>r = .bool true):=by
 have cA:=k13
 unfold B64 at ha hb hp
 refine pureC_of_wp .x mixed ok3 rfl ?_
 unfold c3
 dsimp only [argE]
 refine W.run ?_
 refine W.loop (fun z:Nat × (Int × Int × Int) × Nat=>⟨[(0,.int .i64 z.2.1.1),(1,.int .i64 z.2.1.2.1),(2,.int .i64 z.2.1.2.2),(7,.int .i64 (z.1:Int))],fun _=>none,z.2.2⟩) (fun z=>z.1≤2∧B64 z.2.1.1∧B64 z.2.1.2.1∧B64 z.2.1.2.2) (fun z=>2 - z.1) (0,(a,b,p),_) ⟨by dsimp only;omega,ha,hb,hp⟩ ?_ rfl (HS.refl _) rfl
 clear ha hb hp
 rintro ⟨k,⟨a,b,p⟩,m⟩ ⟨hk,ha,hb,hp⟩
 unfold B64 at ha hb hp
 dsimp only at hk ha hb hp ⊢
 by_cases hk2:k < 2
 ·clear cA
  have c6:=k6 a b p
  have c8:=k8 a b
  have c11:=k11 p (by omega)
  by_cases hE:rngE a b = 0
  ·obtain ⟨ha',hb'⟩:=rngE_0 hE
   have c7:=k7 a b hE
   have c10:=k10 a b ha' hb'
   have hl2:=plS_ne a b
   have hl12:=plS_few ha'.1 hb'.1 (by omega) (by omega)
   have c9:=k9 (plS a b) (plS a b) (by omega) (by omega)
   rw [decide_eq_true rfl] at c9
   unfold symR at c6
   rw [hE,if_neg (by omega)] at c6
   rw [hE] at c8
   have hbd:=plS_bd ha' hb'
   have hm:=emod_rng (a:=p % 18446744073709551616) (P:=((plS a b).length:Int)) (by omega)
   generalize plS a b = L at c7 c10 c9 hl2 hl12 hbd hm
   cases hpl:plcB p
   ·rw [hpl] at c6 c11
    rw [if_neg (by simp)] at c6
    refine W.run ?_
    refine W.kl0 _ (HS.refl _) ⟨(k+1,(a.tmod 1000,b.tmod 1000,_),_),⟨by dsimp only;omega,tmod_bd a,tmod_bd b,?_⟩,rfl,by dsimp only;omega⟩ Nat.zero_lt_one
    have:=hbd _ (List.getElem_mem (l:=L) (n:=(p % 18446744073709551616 % (L.length:Int)).toNat) (by omega))
    unfold B64
    dsimp only
    omega
   ·rw [hpl] at c6 c11
    rw [if_pos rfl] at c6
    have hpr:p = -1∨2≤p∧p≤1000000:=by
     unfold plcB at hpl
     rw [Bool.or_eq_true,Bool.and_eq_true,decide_eq_true_eq,decide_eq_true_eq] at hpl
     rcases hpl with h | ⟨h1,h2⟩
     ·exact .inl h
     ·have:=(primeB_iff.1 h2).1;omega
    have c12:=k12 a b p ha' hb' hpr
    refine W.run ?_
    refine W.kl0 _ (HS.refl _) ⟨(k+1,(a.tmod 1000,b.tmod 1000,_),_),⟨by dsimp only;omega,tmod_bd a,tmod_bd b,?_⟩,rfl,by dsimp only;omega⟩ Nat.zero_lt_one
    have:=hbd _ (List.getElem_mem (l:=L) (n:=(p % 18446744073709551616 % (L.length:Int)).toNat) (by omega))
    unfold B64
    dsimp only
    omega
  ·have c7:=k7e a b hE
   unfold symR at c6
   rw [if_pos hE] at c6
   refine W.run ?_
   exact W.kl0 _ (HS.refl _) ⟨(k+1,(a.tmod 1000,b.tmod 1000,3),_),⟨by dsimp only;omega,tmod_bd a,tmod_bd b,by unfold B64;dsimp only;omega⟩,rfl,by dsimp only;omega⟩ Nat.zero_lt_one
 ·have hke : k = 2 := by omega
  subst hke
  refine W.run ?_
  rfl
def tys3:List Ty:=[.int .i64,.int .i64,.int .i64]
theorem law3:∀ xs,Ty.okArgs tys3 xs→PureC Tryz.prog 3 xs (fun r=>r = .bool true):=by
 intro xs h
 obtain ⟨x,l,rfl,hx,h⟩:=okArgs_cons h
 obtain ⟨y,l,rfl,hy,h⟩:=okArgs_cons h
 obtain ⟨z,l,rfl,hz,h⟩:=okArgs_cons h
 obtain rfl:=okArgs_nil h
 obtain ⟨a,rfl,ha⟩:=okArg_i64 hx
 obtain ⟨b,rfl,hb⟩:=okArg_i64 hy
 obtain ⟨p,rfl,hp⟩:=okArg_i64 hz
 exact k3 a b p ha hb hp
end Go.Dp
