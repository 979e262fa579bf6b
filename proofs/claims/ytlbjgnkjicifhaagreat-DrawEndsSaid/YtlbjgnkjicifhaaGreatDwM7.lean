import Derived.Test.YtlbjgnkjicifhaaGreatDwJ7
import Derived.Test.YtlbjgnkjicifhaaGreatDwL4
import Derived.Test.YtlbjgnkjicifhaaGreatDwL13
namespace Go.Dp
open Go.RowKit Go.Proofs
set_option linter.unusedVariables false
set_option linter.unusedSimpArgs false
structure Hon (c:Cf) (polys:List (List Int)) (lost:List (Int × Int)) (b:Brd):Prop where
 hc:c.Ok
 len:(polys.length:Int) = c.H
 ok:∀ q∈polys,q.length≠0→(q.length:Int) = c.B+1∧polyE c.P q = 0
 hb:b.Ok
 hf:b.fits 100 = true
 own:∀ k,k < 4→∀ x∈b.at k,∀ i,i < polys.length→(polyAt polys i).length≠0→x.hall≠(i:Int)+1
theorem run_at (c:Cf) (polys:List (List Int)) (lost:List (Int × Int)) (b:Brd) {p:Nat} (hp:p < 4):(runB c polys lost b).at p = b.at p++(List.range polys.length).flatMap (pollH c polys lost (runB c polys lost b) p):=by
 rw [runB_at c polys lost b hp,runX_fst c polys lost b hp]
 congr 2
 funext h
 exact pollH_congr fun k hk hk3=>by rw [rfB_at c polys lost b (by omega) (by omega),if_pos hk,runB_at c polys lost b (by omega)]
theorem poll_hall {c:Cf} {polys:List (List Int)} {lost:List (Int × Int)} {b:Brd} {p i:Nat} {x:Ln} (h:x∈pollH c polys lost b p i):x.hall = (i:Int)+1∧(polyAt polys i).length≠0:=by
 unfold pollH at h
 split at h
 ·cases h
 ·rename_i hz
  refine ⟨?_,hz⟩
  match p with
  | 0=>rw [postM,List.mem_singleton] at h;rw [h]
  | 1 =>
   simp only [postM,List.mem_flatMap] at h
   obtain ⟨k,_,h⟩:=h
   unfold post1 at h
   split at h
   ·rw [List.mem_singleton] at h;rw [h]
   ·cases h
  | 2 =>
   simp only [postM,List.mem_flatMap] at h
   obtain ⟨k,_,h⟩:=h
   unfold post2 at h
   split at h
   ·rw [List.mem_singleton] at h;rw [h]
   ·cases h
  | p+3 =>
   simp only [postM,List.mem_append,List.mem_flatMap] at h
   rcases h with h | ⟨k,_,h⟩
   ·unfold pre3 at h
    split at h
    ·rw [List.mem_singleton] at h;rw [h]
    ·cases h
   ·unfold post3 at h
    split at h
    ·split at h
     ·rw [List.mem_singleton] at h;rw [h]
     ·split at h
      ·rw [List.mem_singleton] at h;rw [h]
      ·cases h
    ·cases h
theorem find_flat {f:Nat→List Ln} {q:Ln→Bool} {i:Nat} {x:Ln}:∀ {n:Nat},i < n→(∀ j,j < n→j≠i→∀ y∈f j,q y = false)→(f i).find? q = some x→((List.range n).flatMap f).find? q = some x
 | n+1,hi,h1,h2=>by
  rw [List.range_succ,List.flatMap_append,List.find?_append]
  by_cases h:i < n
  ·rw [find_flat h (fun j hj hji=>h1 j (by omega) hji) h2];rfl
  ·have e : i = n := by omega
   subst e
   have h0:((List.range i).flatMap f).find? q = none:=List.find?_eq_none.2 fun y hy=>by
    obtain ⟨j,hj,hy⟩:=List.mem_flatMap.1 hy
    rw [List.mem_range] at hj
    rw [h1 j (by omega) (by omega) y hy];simp
   rw [h0,List.flatMap_singleton,h2];rfl
theorem polyAt_mem {polys:List (List Int)} {i:Nat} (hi:i < polys.length):polyAt polys i∈polys:=by
 unfold polyAt;rw [List.getD_eq_getElem?_getD,List.getElem?_eq_getElem hi];exact List.getElem_mem hi
theorem Hon.pollIs {c:Cf} {polys:List (List Int)} {lost:List (Int × Int)} {b:Brd} (H:Hon c polys lost b) {p i:Nat} (hz:(polyAt polys i).length≠0) (B:Brd):pollH c polys lost B p i = postM c B ((i:Int)+1) (polyAt polys i) (rowG c polys lost i) p:=by
 unfold pollH;rw [if_neg hz]
theorem oth_mem' {c:Cf} {polys:List (List Int)} {lost:List (Int × Int)} {b:Brd} (H:Hon c polys lost b) {hall k:Int}:k∈oth c hall↔(1≤k∧k≤c.H.toNat)∧k≠hall:=by
 unfold oth hallsL
 rw [List.mem_filter,rngH_mem,decide_eq_true_eq]
theorem Hon.there {c:Cf} {polys:List (List Int)} {lost:List (Int × Int)} {b:Brd} (H:Hon c polys lost b) {p i:Nat} (hp:p < 4) (hi:i < polys.length) {x:Ln} (hx:x∈pollH c polys lost (runB c polys lost b) p i):x∈(runB c polys lost b).at p:=by
 rw [run_at c polys lost b hp]
 exact List.mem_append_right _ (List.mem_flatMap.2 ⟨i,List.mem_range.2 hi,hx⟩)
section
variable {c:Cf} {polys:List (List Int)} {lost:List (Int × Int)} {b:Brd} (H:Hon c polys lost b)
include H
theorem Hon.pE:∀ q∈polys,q.length≠0→polyE c.P q = 0:=fun q hq hz=>(H.ok q hq hz).2
theorem Hon.n16:polys.length≤16:=by have:=H.hc.rng;have:=H.len;omega
theorem Hon.bOk:(runB c polys lost b).Ok:=runB_ok H.hc H.pE H.n16 lost H.hb H.hf
theorem Hon.mine {p i:Nat} (hp:p < 4) (hi:i < polys.length) (hz:(polyAt polys i).length≠0) {x:Ln} (hx:x∈(runB c polys lost b).at p) (hh:x.hall = (i:Int)+1):x∈pollH c polys lost (runB c polys lost b) p i:=by
 rw [run_at c polys lost b hp] at hx
 rcases List.mem_append.1 hx with hx | hx
 ·exact absurd hh (H.own p hp x hx i hi hz)
 ·obtain ⟨j,_,hx⟩:=List.mem_flatMap.1 hx
  have:=(poll_hall hx).1
  have e:j = i:=by omega
  rw [e] at hx;exact hx
theorem Hon.findIt {p i:Nat} (hp:p < 4) (hi:i < polys.length) (hz:(polyAt polys i).length≠0) {q:Ln→Bool} (hq:∀ x,q x = true→x.hall = (i:Int)+1) {x:Ln} (hx:(pollH c polys lost (runB c polys lost b) p i).find? q = some x):((runB c polys lost b).at p).find? q = some x:=by
 have hno:∀ y:Ln,y.hall≠(i:Int)+1→q y = false:=fun y hy=>by
  cases h:q y
  ·rfl
  ·exact absurd (hq y h) hy
 rw [run_at c polys lost b hp,List.find?_append]
 have h0:(b.at p).find? q = none:=List.find?_eq_none.2 fun y hy=>by rw [hno y (H.own p hp y hy i hi hz)];simp
 rw [h0,find_flat hi (fun j _ hji y hy=>hno y (by have:=(poll_hall hy).1;omega)) hx];rfl
theorem Hon.deal {i:Nat} (hi:i < polys.length) (hz:(polyAt polys i).length≠0):(runB c polys lost b).deal c ((i:Int)+1) = some (comM c.R c.G (polyAt polys i)):=by
 have hok:=H.ok _ (polyAt_mem hi) hz
 have hln:=H.len
 have hl:(comM c.R c.G (polyAt polys i)).length = (polyAt polys i).length:=by simp [comM]
 have hq:qDeal c ((i:Int)+1) ⟨(i:Int)+1,1,0,comM c.R c.G (polyAt polys i)⟩ = true:=by
  simp [qDeal,cntB,isHallB,hl];omega
 have hf := H.findIt (p := 0) (q := qDeal c ((i : Int) + 1)) (by omega) hi hz (fun x hx => by simp only [qDeal, Bool.and_eq_true, decide_eq_true_eq] at hx; exact hx.2) (x := ⟨(i : Int) + 1, 1, 0, comM c.R c.G (polyAt polys i)⟩) (by
  rw [H.pollIs hz]
  simp only [postM,List.find?_cons,hq])
 change ((runB c polys lost b).d).find? (qDeal c ((i:Int)+1)) = _ at hf
 unfold Brd.deal dealL
 rw [hf]
 simp only
 rw [if_pos]
 rw [List.all_eq_true]
 intro n hn
 simp only [comM,List.mem_map] at hn
 obtain ⟨a,_,rfl⟩:=hn
 exact hasB_pow H.hc.1 a
theorem Hon.polyOf {i:Nat} (hi:i < polys.length) (hz:(polyAt polys i).length≠0):PolyOf c (comM c.R c.G (polyAt polys i)) (polyAt polys i) :=
 ⟨rfl,by simp [comM],fun a ha=>polyE_rng (H.ok _ (polyAt_mem hi) hz).2 a ha⟩
theorem Hon.answer {i:Nat} (hi:i < polys.length) (hz:(polyAt polys i).length≠0) {k:Int} (hcm:(runB c polys lost b).compl c k ((i:Int)+1) = true):ansL c (runB c polys lost b) ((i:Int)+1) k = some ⟨(i:Int)+1,3,k,[valM c.P k (polyAt polys i)]⟩:=by
 have hr:=H.hc.rng
 have hln:=H.len
 have hk:(1≤k∧k≤c.H)∧k≠(i:Int)+1:=by
  unfold Brd.compl at hcm
  rw [Bool.and_eq_true,List.any_eq_true] at hcm
  obtain ⟨_,x,_,hx⟩:=hcm
  simp only [qCompl,Bool.and_eq_true,decide_eq_true_eq] at hx
  have h1:=cntB_hall hx.1.1
  have h2:=cntB_other hx.1.1
  omega
 have hq:qAns c ((i:Int)+1) k ⟨(i:Int)+1,3,k,[valM c.P k (polyAt polys i)]⟩ = true:=by
  simp [qAns,cntB,isHallB];omega
 refine H.findIt (p:=2) (q:=qAns c ((i:Int)+1) k) (by omega) hi hz (fun x hx=>by simp only [qAns,Bool.and_eq_true,decide_eq_true_eq] at hx;exact hx.1.2) ?_
 rw [H.pollIs hz]
 simp only [postM]
 have hmem:k∈oth c ((i:Int)+1):=(oth_mem' H).2 ⟨by omega,hk.2⟩
 have key:∀ l:List Int,k∈l→(l.flatMap (post2 c (runB c polys lost b) ((i:Int)+1) (polyAt polys i))).find? (qAns c ((i:Int)+1) k) = some ⟨(i:Int)+1,3,k,[valM c.P k (polyAt polys i)]⟩:=by
  intro l
  induction l with
  | nil=>intro h;cases h
  | cons a l ih =>
   intro h
   rw [List.flatMap_cons,List.find?_append]
   by_cases e:a = k
   ·subst e
    rw [post2,if_pos hcm]
    simp only [List.find?_cons,hq]
    rfl
   ·have hn:(post2 c (runB c polys lost b) ((i:Int)+1) (polyAt polys i) a).find? (qAns c ((i:Int)+1) k) = none:=List.find?_eq_none.2 fun y hy=>by
     unfold post2 at hy
     split at hy
     ·rw [List.mem_singleton] at hy
      rw [hy]
      simp [qAns,e]
     ·cases hy
    rw [hn,ih ((List.mem_cons.1 h).resolve_left (fun e2=>e e2.symm))];rfl
 exact key _ hmem
theorem Hon.ansB {i:Nat} (hi:i < polys.length) (hz:(polyAt polys i).length≠0) {k:Int} (hcm:(runB c polys lost b).compl c k ((i:Int)+1) = true):Go.Dp.ansB c (runB c polys lost b) ((i:Int)+1) k = true:=by
 have h:=H.answer hi hz hcm
 have hk:1≤k∧k≤c.H:=by
  unfold Brd.compl at hcm
  rw [Bool.and_eq_true,List.any_eq_true] at hcm
  obtain ⟨_,x,_,hx⟩:=hcm
  simp only [qCompl,Bool.and_eq_true,decide_eq_true_eq] at hx
  have h1:=cntB_hall hx.1.1
  omega
 unfold Go.Dp.ansB
 rw [h]
 exact fitsM_of H.hc H.bOk (H.deal hi hz) (H.polyOf hi hz) hk
theorem Hon.isIn {i:Nat} (hi:i < polys.length) (hz:(polyAt polys i).length≠0):isInM c (runB c polys lost b) ((i:Int)+1) = true:=by
 unfold isInM
 rw [H.deal hi hz,Option.isSome_some,Bool.true_and,List.all_eq_true]
 intro k _
 cases hcm:(runB c polys lost b).compl c k ((i:Int)+1)
 ·rfl
 ·rw [H.ansB hi hz hcm];rfl
theorem Hon.rev {i:Nat} (hi:i < polys.length) (hz:(polyAt polys i).length≠0):revB c (runB c polys lost b) ((i:Int)+1) = true:=by
 have hok:=H.ok _ (polyAt_mem hi) hz
 have hln:=H.len
 refine List.any_eq_true.2 ⟨⟨(i:Int)+1,4,0,polyAt polys i⟩,H.there (p:=3) (by omega) hi ?_,?_⟩
 ·rw [H.pollIs hz]
  simp only [postM]
  exact List.mem_append_left _ (by rw [pre3,if_pos (H.isIn hi hz)];simp)
 ·have hcnt : cntB c.H ⟨(i : Int) + 1, 4, 0, polyAt polys i⟩ 4 (c.B + 1) false = true := by simp [cntB, isHallB]; omega
  rw [revR,revC,hcnt]
  simp only [H.deal hi hz,Option.isSome_some,Bool.and_self,Bool.true_and,decide_true,Bool.and_true]
  rw [decide_eq_true hok.2]
theorem Hon.sec {i:Nat} (hi:i < polys.length) (hz:(polyAt polys i).length≠0):secM c (runB c polys lost b) ((i:Int)+1) = some ((polyAt polys i).headD 0):=by
 rw [secM_eq H.hc H.bOk (H.deal hi hz) (H.polyOf hi hz),H.rev hi hz,Bool.true_or,if_pos rfl]
theorem Hon.found {i:Nat} (hi:i < polys.length) (hz:(polyAt polys i).length≠0) {k:Int} (hin:isInM c (runB c polys lost b) k = true) (hk:k≠(i:Int)+1):foundB c (runB c polys lost b) k ((i:Int)+1) = true:=by
 have hr:=H.hc.rng
 have hln:=H.len
 have hin2:=hin
 unfold isInM at hin2
 rw [Bool.and_eq_true,List.all_eq_true] at hin2
 have hkr:1≤k∧k≤c.H:=by
  obtain ⟨A,hA⟩:=Option.isSome_iff_exists.1 hin2.1
  unfold Brd.deal dealL at hA
  cases hf:((runB c polys lost b).d).find? (qDeal c k) with
  | none=>rw [hf] at hA;cases hA
  | some x =>
   have h1:=List.find?_some hf
   simp only [qDeal,Bool.and_eq_true,decide_eq_true_eq] at h1
   have:=cntB_hall h1.1
   omega
 have hkm:k∈oth c ((i:Int)+1):=(oth_mem' H).2 ⟨by omega,hk⟩
 unfold foundB
 cases hcm:(runB c polys lost b).compl c ((i:Int)+1) k
 ·have hfit:fitsM c (runB c polys lost b) k ((i:Int)+1) (gotM (rowG c polys lost i) k) = true:=by
   cases hft:fitsM c (runB c polys lost b) k ((i:Int)+1) (gotM (rowG c polys lost i) k)
   ·exfalso
    have hln2:(⟨(i:Int)+1,2,k,[]⟩:Ln)∈(runB c polys lost b).at 1:=by
     refine H.there (p:=1) (by omega) hi ?_
     rw [H.pollIs hz]
     simp only [postM]
     refine List.mem_flatMap.2 ⟨k,hkm,?_⟩
     rw [post1,hin2.1,hft,if_pos (by rfl)];simp
    have:(runB c polys lost b).compl c ((i:Int)+1) k = true:=by
     unfold Brd.compl
     rw [hin2.1,Bool.true_and]
     refine List.any_eq_true.2 ⟨_,hln2,?_⟩
     simp [qCompl,cntB,isHallB];omega
    rw [this] at hcm;cases hcm
   ·rfl
  have hop:opnX c (runB c polys lost b) k ((i:Int)+1) = true:=by
   refine List.any_eq_true.2 ⟨⟨(i:Int)+1,5,k,[gotM (rowG c polys lost i) k]⟩,H.there (p:=3) (by omega) hi ?_,?_⟩
   ·rw [H.pollIs hz]
    simp only [postM]
    refine List.mem_append_right _ (List.mem_flatMap.2 ⟨k,hkm,?_⟩)
    rw [post3,if_pos hin,if_pos hfit];simp
   ·have hcnt : cntB c.H ⟨(i : Int) + 1, 5, k, [gotM (rowG c polys lost i) k]⟩ 5 1 true = true := by simp [cntB, isHallB]; omega
    rw [opnR,opnC,hcnt]
    simp only [hin,List.headD_cons,hfit,decide_true,Bool.and_self]
  rw [hop,Bool.or_true]
 ·have := hin2.2 ((i : Int) + 1) (rngH_mem.2 (by omega))
  rw [hcm] at this
  have h2:Go.Dp.ansB c (runB c polys lost b) k ((i:Int)+1) = true:=by simpa using this
  rw [h2,Bool.true_or]
end
end Go.Dp
namespace Go.Dp
open Go.RowKit Go.Proofs
set_option linter.unusedVariables false
set_option linter.unusedSimpArgs false
theorem isIn_rng {c:Cf} {b:Brd} {k:Int} (h:isInM c b k = true):1≤k∧k≤c.H:=by
 unfold isInM at h
 rw [Bool.and_eq_true] at h
 obtain ⟨A,hA⟩:=Option.isSome_iff_exists.1 h.1
 unfold Brd.deal dealL at hA
 cases hf:(b.d).find? (qDeal c k) with
 | none=>rw [hf] at hA;cases hA
 | some x =>
  have h1:=List.find?_some hf
  simp only [qDeal,Bool.and_eq_true,decide_eq_true_eq] at h1
  have:=cntB_hall h1.1
  omega
theorem isIn_dealM {c:Cf} {b:Brd} {k:Int} (h:isInM c b k = true):∃ A,b.deal c k = some A:=by
 unfold isInM at h
 rw [Bool.and_eq_true] at h
 exact Option.isSome_iff_exists.1 h.1
theorem sumS_known {c:Cf} {b:Brd}:∀ (l:List Int) (a:Int × Bool),(∀ h∈l,(secM c b h).isSome = true)→∃ r,sumS c b l a = some r∧r.2 = (a.2 || decide (0 < l.length))
 | [],a,_=>⟨a,rfl,by simp⟩
 | x::l,a,h=>by
  obtain ⟨n,hn⟩:=Option.isSome_iff_exists.1 (h x (by simp))
  obtain ⟨r,h1,h2⟩:=sumS_known l ((a.1+n) % c.P,true) fun y hy=>h y (by simp [hy])
  refine ⟨r,?_,?_⟩
  ·rw [sumS,hn];exact h1
  ·rw [h2];simp
theorem sumM_known {c:Cf} {b:Brd} (h:∀ k,isInM c b k = true→(secM c b k).isSome = true) {k:Int} (hk:isInM c b k = true):(sumM c b).2 = true:=by
 have hm:k∈hallsL c (isInM c b):=List.mem_filter.2 ⟨rngH_mem.2 (by have:=isIn_rng hk;omega),hk⟩
 obtain ⟨r,h1,h2⟩:=sumS_known (c:=c) (b:=b) (hallsL c (isInM c b)) (0,false) fun y hy=>h y (List.mem_filter.1 hy).2
 unfold sumM
 rw [h1,Option.getD_some,h2,Bool.false_or,decide_eq_true_eq]
 exact List.length_pos_of_mem hm
theorem mem_idxG {f:Nat→Ln→List G3} {g:G3}:∀ {l:List Ln} {n:Nat},g∈idxG f n l→∃ i,∃ h:i < l.length,g∈f (n+i) l[i]
 | [],n,h=>by cases h
 | x::l,n,h=>by
  rw [idxG,List.mem_append] at h
  rcases h with h | h
  ·exact ⟨0,by simp,h⟩
  ·obtain ⟨i,hi,h⟩:=mem_idxG h
   exact ⟨i+1,by simpa using hi,by rw [show n+(i+1) = n+1+i by omega];exact h⟩
def honL (polys:List (List Int)):List Nat:=(List.range polys.length).filter fun i=>decide ((polyAt polys i).length≠0)
section
variable {c:Cf} {polys:List (List Int)} {lost:List (Int × Int)} {b:Brd} (H:Hon c polys lost b)
include H
theorem Hon.known (hm:c.B < (honL polys).length) {k:Int} (hin:isInM c (runB c polys lost b) k = true):(secM c (runB c polys lost b) k).isSome = true:=by
 have hln:=H.len
 have hkr:=isIn_rng hin
 obtain ⟨A,hA⟩:=isIn_dealM hin
 obtain ⟨a,ha⟩:=polyOf_ex H.hc H.bOk hA
 by_cases hz:(polyAt polys (k - 1).toNat).length≠0
 ·have hi : (k - 1).toNat < polys.length := by omega
  have:=H.sec hi hz
  rw [show (((k - 1).toNat:Nat):Int)+1 = k by omega] at this
  rw [this];rfl
 ·rw [secM_eq H.hc H.bOk hA ha]
  have hle:(honL polys).length≤(foundL c (runB c polys lost b) k).length:=by
   have h1:((honL polys).map fun i:Nat=>(i:Int)+1).Nodup:=by
    rw [List.nodup_iff_pairwise_ne,List.pairwise_map]
    exact (List.Pairwise.filter _ List.nodup_range).imp fun hne e=>hne (by omega)
   have:=nodup_len h1 (L:=foundL c (runB c polys lost b) k) fun x hx=>by
    obtain ⟨i,hi,rfl⟩:=List.mem_map.1 hx
    obtain ⟨h2,h3⟩:=List.mem_filter.1 hi
    rw [List.mem_range] at h2
    rw [decide_eq_true_eq] at h3
    refine List.mem_filter.2 ⟨rngH_mem.2 (by omega),H.found h2 h3 hin fun e=>?_⟩
    apply hz
    rw [e,show ((i:Int)+1 - 1).toNat = i by omega];exact h3
   rwa [List.length_map] at this
  rw [decide_eq_true (show c.B < ((foundL c (runB c polys lost b) k).length:Int) by omega),Bool.or_true,if_pos rfl];rfl
theorem Hon.ball (hm:c.B < (honL polys).length):(sumM c (runB c polys lost b)).2 = true:=by
 have hr:=H.hc.rng
 have hp:0 < (honL polys).length:=by omega
 obtain ⟨i,hi⟩:=List.exists_mem_of_length_pos hp
 obtain ⟨h2,h3⟩:=List.mem_filter.1 hi
 rw [List.mem_range] at h2
 rw [decide_eq_true_eq] at h3
 exact sumM_known (fun k hk=>H.known hm hk) (H.isIn h2 h3)
theorem Hon.once {i:Nat} (hi:i < polys.length) (hz:(polyAt polys i).length≠0):∀ x∈(runB c polys lost b).d,x.hall = (i:Int)+1→x = ⟨(i:Int)+1,1,0,comM c.R c.G (polyAt polys i)⟩:=by
 intro x hx hh
 have:=H.mine (p:=0) (by omega) hi hz hx hh
 rw [H.pollIs hz] at this
 simpa [postM] using this
theorem Hon.noTwice {i:Nat} (hi:i < polys.length) (hz:(polyAt polys i).length≠0):twiceM c (runB c polys lost b) ((i:Int)+1) = -1:=by
 refine fstI_no fun x hx=>?_
 rw [Bool.eq_false_iff]
 intro h
 simp only [qTwice,Bool.and_eq_true] at h
 obtain ⟨h1,h2⟩:=h
 have hh:x.hall = (i:Int)+1:=by simp only [qDeal,Bool.and_eq_true,decide_eq_true_eq] at h1;exact h1.2
 have e:=H.once hi hz x hx hh
 cases hf:(runB c polys lost b).d.find? (qDeal c ((i:Int)+1)) with
 | none=>exact absurd h1 (List.find?_eq_none.1 hf x hx)
 | some y =>
  have hy:=List.mem_of_find?_eq_some hf
  have hq:=List.find?_some hf
  have hyh:y.hall = (i:Int)+1:=by simp only [qDeal,Bool.and_eq_true,decide_eq_true_eq] at hq;exact hq.2
  have e2:=H.once hi hz y hy hyh
  rw [hf] at h2
  simp [e,e2] at h2
theorem Hon.noGuilt {i:Nat} (hi:i < polys.length) (hz:(polyAt polys i).length≠0):∀ g∈guiltM c (runB c polys lost b),g.1≠(i:Int)+1:=by
 intro g hg e
 unfold guiltM at hg
 simp only [List.mem_append] at hg
 rcases hg with (((hg | hg) | hg) | hg) | hg
 ·obtain ⟨h,hh,hg⟩:=List.mem_flatMap.1 hg
  unfold g1 at hg
  split at hg
  ·rename_i ht
   rw [List.mem_singleton] at hg
   subst hg
   dsimp only at e
   rw [e,H.noTwice hi hz] at ht
   omega
  ·cases hg
 ·obtain ⟨h,hh,hg⟩:=List.mem_flatMap.1 hg
  unfold g2 at hg
  split at hg
  ·rename_i ht
   rw [List.mem_singleton] at hg
   subst hg
   dsimp only at e
   rw [e,H.deal hi hz] at ht
   simp at ht
  ·cases hg
 ·obtain ⟨h,hh,hg⟩:=List.mem_flatMap.1 hg
  unfold g3 at hg
  obtain ⟨k,hk,hg⟩:=List.mem_flatMap.1 hg
  split at hg
  ·rename_i ht
   rw [List.mem_singleton] at hg
   subst hg
   dsimp only at e
   have hcm:=(List.mem_filter.1 hk).2
   rw [e] at hcm ht
   have ha:=H.answer hi hz hcm
   unfold ansL at ha
   unfold Brd.ans at ht
   rw [fstI_find] at ht
   rw [ht] at ha;cases ha
  ·cases hg
 ·obtain ⟨h,hh,hg⟩:=List.mem_flatMap.1 hg
  unfold g4 at hg
  obtain ⟨j,hj,hg⟩:=mem_idxG hg
  split at hg
  ·rename_i ht
   rw [List.mem_singleton] at hg
   subst hg
   dsimp only at e
   simp only [q4,Bool.and_eq_true,decide_eq_true_eq,Bool.not_eq_true'] at ht
   obtain ⟨⟨⟨⟨h1,h2⟩,h3⟩,h4⟩,h5⟩:=ht
   rw [e] at h3 h4 h5
   have h6:=H.ansB hi hz h4
   unfold Go.Dp.ansB at h6
   obtain ⟨hj2,h7,h8⟩:=ans_at' (c:=c) (b:=runB c polys lost b) (i:=0+j) h3
   rw [h8] at h6
   simp only [Nat.zero_add] at h6 h7 h8
   rw [h5] at h6;cases h6
  ·cases hg
 ·obtain ⟨h,hh,hg⟩:=List.mem_flatMap.1 hg
  unfold g5 at hg
  obtain ⟨j,hj,hg⟩:=mem_idxG hg
  split at hg
  ·rename_i ht
   rw [List.mem_singleton] at hg
   subst hg
   dsimp only at e
   simp only [q5,Bool.and_eq_true,decide_eq_true_eq,Bool.or_eq_true,Bool.not_eq_true'] at ht
   obtain ⟨h1,h2⟩:=ht
   rw [e] at h1
   have hm:=H.mine (p:=3) (by omega) hi hz (List.getElem_mem hj) h1
   rw [H.pollIs hz] at hm
   simp only [postM,List.mem_append,List.mem_flatMap] at hm
   rcases hm with hm | ⟨k,hk,hm⟩
   ·unfold pre3 at hm
    rw [if_pos (H.isIn hi hz),List.mem_singleton] at hm
    rw [hm] at h2
    have hok:=H.ok _ (polyAt_mem hi) hz
    rcases h2 with ⟨h2,h3⟩ | ⟨h2,h3⟩
    ·have:revR c (runB c polys lost b) ⟨(i:Int)+1,4,0,polyAt polys i⟩ = true:=by
      rw [revR,h2,Bool.true_and]
      simp only [H.deal hi hz,decide_true,Bool.and_true]
      rw [decide_eq_true hok.2]
     rw [this] at h3;cases h3
    ·simp [opnC,cntB] at h2
   ·unfold post3 at hm
    split at hm
    ·rename_i hin
     split at hm
     ·rename_i hf
      rw [List.mem_singleton] at hm
      rw [hm] at h2
      rcases h2 with ⟨h2,h3⟩ | ⟨h2,h3⟩
      ·simp [revC,cntB] at h2
      ·have:opnR c (runB c polys lost b) ⟨(i:Int)+1,5,k,[gotM (rowG c polys lost i) k]⟩ = true:=by
        rw [opnR,h2,Bool.true_and];exact hf
       rw [this] at h3;cases h3
     ·split at hm
      ·rename_i hf
       rw [List.mem_singleton] at hm
       rw [hm] at h2
       rcases h2 with ⟨h2,h3⟩ | ⟨h2,h3⟩
       ·simp [revC,cntB] at h2
       ·have:opnR c (runB c polys lost b) ⟨(i:Int)+1,5,k,[ansN c (runB c polys lost b) k ((i:Int)+1)]⟩ = true:=by
         rw [opnR,h2,Bool.true_and]
         show fitsM c (runB c polys lost b) k ((i:Int)+1) (ansN c (runB c polys lost b) k ((i:Int)+1)) = true
         unfold Go.Dp.ansB at hf
         unfold ansN
         split at hf
         ·exact hf
         ·cases hf
        rw [this] at h3;cases h3
      ·cases hm
    ·cases hm
  ·cases hg
end
end Go.Dp
namespace Go.Dp
open Go.RowKit Go.Proofs
set_option linter.unusedVariables false
set_option linter.unusedSimpArgs false
def neC (Q:List (List Int)):Nat:=Q.countP fun p=>decide (p.length≠0)
theorem neC_succ {Q:List (List Int)} {i:Nat} (hi:i < Q.length):neC (Q.take (i+1)) = neC (Q.take i)+if Q[i].length = 0 then 0 else 1:=by
 unfold neC
 rw [← List.take_append_getElem hi,List.countP_append,List.countP_singleton]
 congr 1
 by_cases h:Q[i].length = 0
 ·rw [if_pos h,decide_eq_false (by omega)];rfl
 ·rw [if_neg h,decide_eq_true h,if_pos rfl]
theorem neC_le (Q:List (List Int)):neC Q≤Q.length:=List.countP_le_length
theorem neC_set {Q:List (List Int)} {i:Nat} {p:List Int} (hi:i < Q.length) (h0:Q[i].length = 0) (hp:p.length≠0):neC (Q.set i p) = neC Q+1:=by
 have e:Q = Q.take i++Q[i]::Q.drop (i+1):=by rw [← List.drop_eq_getElem_cons hi,List.take_append_drop]
 have h1:neC Q = neC (Q.take i)+neC (Q.drop (i+1)):=by
  conv=>lhs;rw [e]
  unfold neC
  rw [List.countP_append,List.countP_cons,decide_eq_false (by omega)];simp
 have h2:neC (Q.set i p) = neC (Q.take i)+(neC (Q.drop (i+1))+1):=by
  rw [List.set_eq_take_append_cons_drop,if_pos hi]
  unfold neC
  rw [List.countP_append,List.countP_cons,decide_eq_true hp,if_pos rfl]
 omega
theorem neC_all {Q:List (List Int)} (h:∀ p∈Q,p.length≠0):neC Q = Q.length:=List.countP_eq_length.2 fun p hp=>decide_eq_true (h p hp)
theorem map_polyAt (Q:List (List Int)):(List.range Q.length).map (polyAt Q) = Q:=by
 refine List.ext_getElem (by simp) fun i h1 h2=>?_
 rw [List.getElem_map,List.getElem_range]
 unfold polyAt
 rw [List.getD_eq_getElem?_getD,List.getElem?_eq_getElem h2,Option.getD_some]
theorem honL_ne (Q:List (List Int)):(honL Q).length = neC Q:=by
 unfold honL neC
 conv=>rhs;rw [← map_polyAt Q]
 rw [List.countP_map,List.countP_eq_length_filter]
 rfl
theorem polyAt_get {Q:List (List Int)} {i:Nat} (hi:i < Q.length):polyAt Q i = Q[i]:=by
 unfold polyAt;rw [List.getD_eq_getElem?_getD,List.getElem?_eq_getElem hi,Option.getD_some]
def RowOk (x:Cf) (Q:List (List Int)):Prop:=∀ q∈Q,q.length≠0→(q.length:Int) = x.B+1∧polyE x.P q = 0
def newR (h:Int) (n:Nat):List Int:=h::List.replicate n 0
theorem newR_len {h:Int} {n:Nat}:(newR h n).length = n+1:=by simp [newR]
theorem newR_ok {x:Cf} (hX:x.Ok) (hP:11≤x.P) {h n:Nat} (hh:h < 6) (hn:x.B = n):((newR h n).length:Int) = x.B+1∧polyE x.P (newR h n) = 0:=by
 have hr:=hX.rng
 refine ⟨by rw [newR_len];omega,secs_poly ?_ (by rw [newR_len];omega)⟩
 unfold secsB
 rw [Bool.not_eq_true',List.any_eq_false]
 intro a ha
 rw [decide_eq_true_eq]
 rcases List.mem_cons.1 ha with rfl | ha
 ·omega
 ·rw [(List.mem_replicate.1 ha).2];omega
theorem RowOk.set {x:Cf} {Q:List (List Int)} {i:Nat} {p:List Int} (h:RowOk x Q) (hp:(p.length:Int) = x.B+1∧polyE x.P p = 0):RowOk x (Q.set i p):=by
 intro q hq hz
 rcases List.mem_or_eq_of_mem_set hq with hq | rfl
 ·exact h q hq hz
 ·exact hp
theorem RowOk.lt {x:Cf} (hX:x.Ok) {Q:List (List Int)} (h:RowOk x Q):∀ q∈Q,q.length < 2 ^ 20:=fun q hq=>by
 have hr:=hX.rng
 by_cases hz:q.length = 0
 ·omega
 ·have:=(h q hq hz).1;omega
theorem RowOk.bad {x:Cf} (hX:x.Ok) {Q:List (List Int)} (h:RowOk x Q):Q.any (badP x.P x.B) = false:=by
 have hr:=hX.rng
 rw [List.any_eq_false]
 intro q hq
 rw [bad_eq (by omega),Bool.not_eq_true]
 by_cases hz:q.length = 0
 ·rw [decide_eq_false (by omega)];rfl
 ·have:=h q hq hz
  rw [decide_eq_false (by omega:¬ (q.length:Int)≠x.B+1),decide_eq_false (by omega:¬ polyE x.P q≠0),Bool.or_self,Bool.and_false]
def keepB (x:Cf) (Q:List (List Int)) (b:Brd):Brd:=⟨keepL x Q b.d,keepL x Q b.c,keepL x Q b.a,keepL x Q b.r⟩
theorem keepL_B {x:Cf} {Q:List (List Int)} {L:List Ln} (h:LnsB L):LnsB (keepL x Q L) :=
 ⟨Nat.lt_of_le_of_lt (List.length_filter_le _ _) h.1,fun y hy=>h.2 y (List.mem_filter.1 hy).1⟩
theorem okL_keep {x:Cf} {Q:List (List Int)} {L:List Ln} {m:Int} (h:okL m L = true):okL m (keepL x Q L) = true:=by
 unfold okL at h ⊢
 rw [Bool.and_eq_true,decide_eq_true_eq,Bool.not_eq_true',List.any_eq_false] at h ⊢
 have:=List.length_filter_le (keepQ x Q) L
 exact ⟨by unfold keepL;omega,fun y hy=>h.2 y (List.mem_filter.1 hy).1⟩
theorem keepB_ok {x:Cf} {Q:List (List Int)} {b:Brd} (h:b.Ok):(keepB x Q b).Ok:=⟨keepL_B h.1,keepL_B h.2.1,keepL_B h.2.2.1,keepL_B h.2.2.2⟩
theorem keepB_fits {x:Cf} {Q:List (List Int)} {b:Brd} {m:Int} (h:b.fits m = true):(keepB x Q b).fits m = true:=by
 unfold Brd.fits at h ⊢
 simp only [Bool.and_eq_true] at h ⊢
 exact ⟨⟨⟨okL_keep h.1.1.1,okL_keep h.1.1.2⟩,okL_keep h.1.2⟩,okL_keep h.2⟩
theorem keep_own {x:Cf} {Q:List (List Int)} {L:List Ln} (hn:(Q.length:Int) = x.H) {y:Ln} (hy:y∈keepL x Q L) {i:Nat} (hi:i < Q.length) (hz:(polyAt Q i).length≠0):y.hall≠(i:Int)+1:=by
 intro e
 have h:=(List.mem_filter.1 hy).2
 unfold keepQ at h
 rw [e,show ((i:Int)+1 - 1).toNat = i by omega,decide_eq_true hz] at h
 have:isHallB x.H ((i:Int)+1) = true:=by simp [isHallB];omega
 rw [this] at h
 cases h
theorem hon_of {x:Cf} (hX:x.Ok) {Q:List (List Int)} (hn:(Q.length:Int) = x.H) (hQ:RowOk x Q) (L:List (Int × Int)) {b:Brd} (hb:b.Ok) (hf:b.fits 100 = true):Hon x Q L (keepB x Q b) where
 hc:=hX
 len:=hn
 ok:=hQ
 hb:=keepB_ok hb
 hf:=keepB_fits hf
 own:=fun k hk y hy i hi hz=>by
  match k,hk with
  | 0,_=>exact keep_own hn hy hi hz
  | 1,_=>exact keep_own hn hy hi hz
  | 2,_=>exact keep_own hn hy hi hz
  | 3,_=>exact keep_own hn hy hi hz
def lostC (l:List Ln):List (Int × Int):=l.map fun x=>(x.other,x.hall)
theorem lostC_succ {l:List Ln} {i:Nat} (hi:i < l.length):lostC (l.take (i+1)) = lostC (l.take i)++[(l[i].other,l[i].hall)]:=by
 unfold lostC;rw [← List.take_append_getElem hi,List.map_append];rfl
theorem anyI_succ {l:List Int} {k:Nat} {n:Int} (hk:k < l.length):((l.take (k+1)).any fun z=>decide (z = n)) = (((l.take k).any fun z=>decide (z = n)) || decide (l[k] = n)):=by
 rw [← List.take_append_getElem hk,List.any_append];simp
theorem Hon.inList {c:Cf} {polys:List (List Int)} {lost:List (Int × Int)} {b:Brd} (H:Hon c polys lost b) {i:Nat} (hi:i < polys.length) (hz:(polyAt polys i).length≠0):((hallsL c (isInM c (runB c polys lost b))).any fun z=>decide (z = (i:Int)+1)) = true:=by
 have hln:=H.len
 exact List.any_eq_true.2 ⟨(i:Int)+1,List.mem_filter.2 ⟨rngH_mem.2 (by omega),H.isIn hi hz⟩,decide_eq_true rfl⟩
end Go.Dp
