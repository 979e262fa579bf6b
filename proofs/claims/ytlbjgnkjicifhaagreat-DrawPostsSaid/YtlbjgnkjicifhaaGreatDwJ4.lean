import Derived.Test.YtlbjgnkjicifhaaGreatDwL5
import Derived.Test.YtlbjgnkjicifhaaGreatDwJ13
import Derived.Test.YtlbjgnkjicifhaaGreatDwL4
import Derived.Test.YtlbjgnkjicifhaaGreatDwC12
import Derived.Test.YtlbjgnkjicifhaaGreatDsM12
import Derived.Test.YtlbjgnkjicifhaaGreatDwB6
import Derived.Test.YtlbjgnkjicifhaaGreatDwG1
import Derived.Test.YtlbjgnkjicifhaaGreatDwC9
import Derived.Test.YtlbjgnkjicifhaaGreatDwJ11
namespace Go.Dp
open Go.RowKit Go.Proofs
attribute [local irreducible] wp wpOps wpOp1 CallW CallT kSeq kBlk kLoop kReg retP retR kAsg kRound kRf kCut kItr kItr2
set_option linter.unusedVariables false
set_option linter.unusedSimpArgs false
theorem polysM_len (c:Cf) (l:List (List Int)):(polysM c l).length = c.H.toNat:=by simp [polysM]
theorem polyR_ok {c:Cf} (hc:c.Ok) {l:List (List Int)} (hx:∀ p∈l,p.length < 2 ^ 63∧∀ n∈p,B64 n) (h:Nat):(polyR c l h).length≠0→((polyR c l h).length:Int) = c.B+1∧polyE c.P (polyR c l h) = 0:=by
 have hr:=hc.rng
 have hP:=hc.1.hP
 intro hz
 have hl:(polyR c l h).length = (c.B+1).toNat:=by
  unfold polyR at hz ⊢
  split
  ·simp
  ·rename_i hn;rw [if_neg hn] at hz;simp at hz
 refine ⟨by omega,polyE_of (by omega) fun a ha=>?_⟩
 unfold polyR at ha
 split at ha
 ·obtain ⟨k,_,rfl⟩:=List.mem_map.1 ha
  unfold polyX
  split
  ·exact emod_rng (by omega)
  ·exact emod_rng (by omega)
 ·cases ha
theorem polysM_ok {c:Cf} (hc:c.Ok) {l:List (List Int)} (hx:∀ p∈l,p.length < 2 ^ 63∧∀ n∈p,B64 n):∀ q∈polysM c l,q.length≠0→(q.length:Int) = c.B+1∧polyE c.P q = 0:=fun q hq=>by
 obtain ⟨h,_,rfl⟩:=List.mem_map.1 hq
 exact polyR_ok hc hx h
theorem polysM_lt {c:Cf} (hc:c.Ok) {l:List (List Int)} (hx:∀ p∈l,p.length < 2 ^ 63∧∀ n∈p,B64 n):∀ q∈polysM c l,q.length < 2 ^ 20:=fun q hq=>by
 have hr:=hc.rng
 by_cases hz:q.length = 0
 ·omega
 ·have:=(polysM_ok hc hx q hq hz).1;omega
set_option maxRecDepth 10000 in
theorem k23 (c:Cf) (hc:c.Ok) (l:List (List Int)) (hl:l.length < 2 ^ 63) (hx:∀ p∈l,p.length < 2 ^ 63∧∀ n∈p,B64 n) (b:Brd) (hb:b.Ok) (hf:b.fits 100 = true) (lost:List (Int × Int)) (hlost:lost.length < 2 ^ 40):PureC Tryz.prog 23 [c.v,.sl (l.map slI) l.length,bdV b,losV lost] (fun r=>r = bdV (runB c (polysM c l) lost b)):=by
 have hr:=hc.rng
 have hPl:=polysM_len c l
 have c1:=k21 c hc l hl hx
 have c2:=k19 c hc b hb (polysM c l) (polysM_lt hc hx) lost hlost hf (by omega) (fun q hq hz=>(polysM_ok hc hx q hq hz).2)
 generalize runB c (polysM c l) lost b = E at c2 ⊢
 generalize polysM c l = Q at c1 c2 hPl
 refine pureC_of_wp .x mixed ok23 rfl ?_
 unfold c23
 dsimp only [argE,Cf.v,cfgV,bdV]
 change PureC Tryz.prog 19 [c.v,.sl (Q.map slI) Q.length,bdV b,losV lost] _ at c2
 rw [hPl] at c2
 refine W.run ?_
 rfl
end Go.Dp
namespace Go.Dp
open Go.RowKit Go.Proofs
set_option linter.unusedVariables false
set_option linter.unusedSimpArgs false
theorem nodup_len {M L:List Int} (hn:M.Nodup) (hs:∀ x∈M,x∈L):M.length≤L.length:=by
 rcases Nat.le_total L.length M.length with h | h
 ·exact Nat.le_of_eq (perm_of_sub hn hs h).length_eq
 ·exact h
def opnX (c:Cf) (b:Brd) (h j:Int):Bool:=b.r.any fun x=>opnR c b x && decide (x.other = h) && decide (x.hall = j)
def foundB (c:Cf) (b:Brd) (h j:Int):Bool:=ansB c b h j || opnX c b h j
def foundL (c:Cf) (b:Brd) (h:Int):List Int:=(rngH c.H.toNat).filter (foundB c b h)
def revB (c:Cf) (b:Brd) (h:Int):Bool:=b.r.any fun x=>revR c b x && decide (x.hall = h)
def PolyOf (c:Cf) (A a:List Int):Prop:=comM c.R c.G a = A∧a.length = A.length∧InF c.P a
theorem polyOf_ex {c:Cf} (hc:c.Ok) {b:Brd} (hb:b.Ok) {h:Int} {A:List Int} (e:b.deal c h = some A):∃ a,PolyOf c A a:=com_log hc.1 (deal_ok hb e).2.2.1
theorem fitsM_val {c:Cf} (hc:c.Ok) {b:Brd} {h x n:Int} {A a:List Int} (e:b.deal c h = some A) (ha:PolyOf c A a) (hf:fitsM c b h x n = true):n = valM c.P x a:=by
 unfold fitsM at hf
 rw [e] at hf
 simp only [fitB,Bool.and_eq_true,decide_eq_true_eq] at hf
 obtain ⟨⟨⟨⟨h1,h2⟩,h3⟩,h4⟩,h5⟩:=hf
 rw [← ha.1] at h5
 exact (fits_iff hc.1 (by omega) (fun y hy=>(ha.2.2 y hy).1) h3).1 h5
theorem fitsM_of {c:Cf} (hc:c.Ok) {b:Brd} (hb:b.Ok) {h x:Int} {A a:List Int} (e:b.deal c h = some A) (ha:PolyOf c A a) (hx:1≤x∧x≤c.H):fitsM c b h x (valM c.P x a) = true:=by
 have hr:=hc.rng
 have hP:=hc.1.hP
 have hd:=deal_ok hb e
 have hv:=valM_rng (P:=c.P) (x:=x) (by omega) a
 unfold fitsM
 rw [e]
 simp only [fitB,Bool.and_eq_true,decide_eq_true_eq]
 refine ⟨⟨⟨⟨by omega,by omega⟩,hv⟩,hd.2.2.1⟩,?_⟩
 rw [← ha.1]
 exact (fits_iff hc.1 (by omega) (fun y hy=>(ha.2.2 y hy).1) hv).2 rfl
theorem ansB_val {c:Cf} (hc:c.Ok) {b:Brd} {h k:Int} {A a:List Int} (e:b.deal c h = some A) (ha:PolyOf c A a) (hf:ansB c b h k = true):ansN c b h k = valM c.P k a:=by
 unfold ansB at hf
 unfold ansN
 split at hf
 ·rename_i x hx;exact fitsM_val hc e ha hf
 ·cases hf
theorem opnR_val {c:Cf} (hc:c.Ok) {b:Brd} {h:Int} {x:Ln} {A a:List Int} (e:b.deal c h = some A) (ha:PolyOf c A a) (hf:opnR c b x = true) (ho:x.other = h):x.nums.headD 0 = valM c.P x.hall a:=by
 simp only [opnR,Bool.and_eq_true] at hf
 exact fitsM_val hc (by rw [ho];exact e) ha hf.2
theorem plcL_val {c:Cf} (hc:c.Ok) {b:Brd} {h:Int} {A a:List Int} (e:b.deal c h = some A) (ha:PolyOf c A a):∀ p∈plcL c b h,p.2 = valM c.P p.1 a:=by
 intro p hp
 rcases List.mem_append.1 hp with hp | hp
 ·unfold plcA at hp
  obtain ⟨k,hk,rfl⟩:=List.mem_map.1 hp
  exact ansB_val hc e ha (List.mem_filter.1 hk).2
 ·unfold plcO at hp
  obtain ⟨x,hx,rfl⟩:=List.mem_map.1 hp
  have h2:=(List.mem_filter.1 hx).2
  rw [Bool.and_eq_true] at h2
  exact opnR_val hc e ha h2.1 (of_decide_eq_true h2.2)
theorem ansB_self {c:Cf} {b:Brd} {h:Int}:ansB c b h h = false:=by
 unfold ansB
 split
 ·rename_i x hx
  exfalso
  have:=List.find?_some hx
  simp [qAns,cntB] at this
  omega
 ·rfl
theorem plcL_found {c:Cf} (hc:c.Ok) {b:Brd} {h:Int} (k:Int):(k∈(plcL c b h).map Prod.fst)↔k∈foundL c b h:=by
 have hr:=hc.rng
 constructor
 ·intro hk
  obtain ⟨p,hp,rfl⟩:=List.mem_map.1 hk
  refine List.mem_filter.2 ?_
  rcases List.mem_append.1 hp with hp | hp
  ·unfold plcA at hp
   obtain ⟨k',hk',rfl⟩:=List.mem_map.1 hp
   obtain ⟨h1,h2⟩:=List.mem_filter.1 hk'
   refine ⟨(List.mem_filter.1 h1).1,?_⟩
   simp only [foundB,h2,Bool.true_or]
  ·have hok:=plcO_ok hc b h _ p hp
   unfold plcO at hp
   obtain ⟨x,hx',rfl⟩:=List.mem_map.1 hp
   obtain ⟨h1,h2⟩:=List.mem_filter.1 hx'
   refine ⟨rngH_mem.2 (by have:=hok.1;omega),?_⟩
   have:opnX c b h x.hall = true:=List.any_eq_true.2 ⟨x,h1,by simp only [h2,decide_true,Bool.and_true]⟩
   simp only [foundB,this,Bool.or_true]
 ·intro hk
  obtain ⟨h1,h2⟩:=List.mem_filter.1 hk
  unfold foundB at h2
  rw [Bool.or_eq_true] at h2
  rcases h2 with h2 | h2
  ·refine List.mem_map.2 ⟨(k,ansN c b h k),List.mem_append_left _ (List.mem_map.2 ⟨k,List.mem_filter.2 ⟨List.mem_filter.2 ⟨h1,?_⟩,h2⟩,rfl⟩),rfl⟩
   rw [decide_eq_true_eq]
   intro e;subst e;rw [ansB_self] at h2;cases h2
  ·obtain ⟨x,hx,h3⟩:=List.any_eq_true.1 h2
   rw [Bool.and_eq_true] at h3
   refine List.mem_map.2 ⟨(x.hall,x.nums.headD 0),List.mem_append_right _ (List.mem_map.2 ⟨x,List.mem_filter.2 ⟨hx,h3.1⟩,rfl⟩),of_decide_eq_true h3.2⟩
theorem addP_val {P B:Int} {a:List Int}:∀ (l:List (Int × Int)) (q:List Int × List Int),(∀ p∈l,p.2 = valM P p.1 a)→SharesOf P a q.1 q.2→SharesOf P a (l.foldl (addP B) q).1 (l.foldl (addP B) q).2
 | [],q,_,h=>h
 | p::l,q,hl,h=>by
  rw [List.foldl_cons]
  refine addP_val l _ (fun r hr=>hl r (by simp [hr])) ?_
  unfold addP
  split
  ·show q.2++[p.2] = (q.1++[p.1]).map fun x=>valM P x a
   rw [List.map_append,← h,hl p (by simp)];rfl
  ·exact h
theorem addP_keep {B:Int} {x:Int}:∀ (l:List (Int × Int)) (q:List Int × List Int),x∈q.1→x∈(l.foldl (addP B) q).1
 | [],q,h=>h
 | p::l,q,h=>by
  rw [List.foldl_cons]
  refine addP_keep l _ ?_
  unfold addP
  split
  ·exact List.mem_append_left _ h
  ·exact h
theorem addP_from {B:Int} {x:Int}:∀ (l:List (Int × Int)) (q:List Int × List Int),x∈(l.foldl (addP B) q).1→x∈q.1∨x∈l.map Prod.fst
 | [],q,h=>.inl h
 | p::l,q,h=>by
  rw [List.foldl_cons] at h
  rcases addP_from l _ h with h | h
  ·unfold addP at h
   split at h
   ·rcases List.mem_append.1 h with h | h
    ·exact .inl h
    ·exact .inr (by rw [List.mem_singleton.1 h];simp)
   ·exact .inl h
  ·exact .inr (by simp only [List.map_cons,List.mem_cons];exact .inr h)
theorem addP_full {B:Int}:∀ (l:List (Int × Int)) (q:List Int × List Int),((l.foldl (addP B) q).1.length:Int)≤B→∀ x∈l.map Prod.fst,x∈(l.foldl (addP B) q).1
 | [],q,_,x,hx=>by cases hx
 | p::l,q,h,x,hx=>by
  rw [List.foldl_cons] at h ⊢
  rcases List.mem_cons.1 hx with rfl | hx
  ·refine addP_keep l _ ?_
   have hle:((addP B q p).1.length:Int)≤B:=by
    have:∀ (l:List (Int × Int)) (q:List Int × List Int),q.1.length≤(l.foldl (addP B) q).1.length:=by
     intro l
     induction l with
     | nil=>intro q;exact Nat.le_refl _
     | cons p l ih =>
      intro q
      rw [List.foldl_cons]
      refine Nat.le_trans ?_ (ih _)
      unfold addP
      split
      ·simp
      ·exact Nat.le_refl _
    have:=this l (addP B q p)
    omega
   unfold addP at hle ⊢
   split
   ·simp
   ·rename_i hc
    rw [if_neg hc] at hle
    simp only [Bool.and_eq_true,decide_eq_true_eq,Bool.not_eq_true',decide_eq_false_iff_not,not_and,Classical.not_not] at hc
    exact hc hle
  ·exact addP_full l _ h x hx
theorem foundL_nodup (c:Cf) (b:Brd) (h:Int):(foundL c b h).Nodup:=by
 refine List.Pairwise.filter _ ?_
 unfold rngH
 rw [List.pairwise_map]
 exact List.nodup_range.imp fun hne e=>hne (by omega)
theorem accP_cnt {c:Cf} (hc:c.Ok) (b:Brd) (h:Int):((accP c b h).1.length:Int)≤c.B↔((foundL c b h).length:Int)≤c.B:=by
 have h0:=accP_ok hc b h
 constructor
 ·intro hle
  have:=nodup_len (foundL_nodup c b h) (L:=(accP c b h).1) fun x hx=>addP_full _ _ hle x ((plcL_found hc x).2 hx)
  omega
 ·intro hle
  have:=nodup_len h0.1 (L:=foundL c b h) fun x hx=>by
   rcases addP_from _ _ hx with hx | hx
   ·cases hx
   ·exact (plcL_found hc x).1 hx
  omega
theorem revS_some {c:Cf} (hc:c.Ok) {b:Brd} {h:Int} {A a:List Int} (e:b.deal c h = some A) (ha:PolyOf c A a):revS c b h = if revB c b h then some (a.headD 0) else none:=by
 unfold revS revB
 cases hf:b.r.find? fun x=>revR c b x && decide (x.hall = h) with
 | none =>
  rw [if_neg,Option.map_none]
  rw [List.any_eq_true]
  rintro ⟨x,hx,h2⟩
  exact absurd h2 (List.find?_eq_none.1 hf x hx)
 | some x =>
  have h1:=List.find?_some hf
  rw [if_pos (List.any_eq_true.2 ⟨x,List.mem_of_find?_eq_some hf,h1⟩),Option.map_some]
  simp only [revR,Bool.and_eq_true,decide_eq_true_eq] at h1
  obtain ⟨⟨h2,h3,h4⟩,h5⟩:=h1
  rw [h5,e,Option.some.injEq,← ha.1] at h4
  rw [com_inj hc.1 (polyE_rng h3) ha.2.2 h4]
theorem secM_eq {c:Cf} (hc:c.Ok) {b:Brd} (hb:b.Ok) {h:Int} {A a:List Int} (e:b.deal c h = some A) (ha:PolyOf c A a):secM c b h = if revB c b h || decide (c.B < (foundL c b h).length) then some (a.headD 0) else none:=by
 have hr:=hc.rng
 have hP:=hc.1.hP
 have hcnt:=accP_cnt hc b h
 have hok:=accP_ok hc b h
 have hd:=deal_ok hb e
 unfold secM
 rw [revS_some hc e ha]
 cases hrv:revB c b h
 ·simp only [Bool.false_or,decide_eq_true_eq,Bool.false_eq_true,if_false]
  by_cases hle:((accP c b h).1.length:Int)≤c.B
  ·rw [if_pos hle,if_neg (by have:=hcnt.1 hle;omega)]
  ·rw [if_neg hle, if_pos (by have := mt hcnt.2 hle; omega)]
   congr 1
   refine newt_zero hc.1.pP hP.1 (fun x hx=>by have:=hok.2.1 x hx;omega) hok.1 ha.2.2 (by have:=ha.2.1;omega) ?_
   exact addP_val _ _ (plcL_val hc e ha) rfl
 ·simp only [Bool.true_or,if_true]
end Go.Dp
namespace Go.Dp
open Go.RowKit Go.Proofs
attribute [local irreducible] wp wpOps wpOp1 CallW CallT kSeq kBlk kLoop kReg retP retR kAsg kRound kRf kCut kItr
set_option linter.unusedVariables false
set_option linter.unusedSimpArgs false
end Go.Dp
namespace Go.Dp
open Go.RowKit Go.Proofs
attribute [local irreducible] wp wpOps wpOp1 CallW CallT kSeq kBlk kLoop kReg retP retR kAsg kRound kRf kCut
set_option linter.unusedVariables false
set_option linter.unusedSimpArgs false
end Go.Dp
namespace Go.Dp
open Go.RowKit Go.Proofs
attribute [local irreducible] wp wpOps wpOp1 CallW CallT kSeq kBlk kLoop kReg retP retR kAsg kRound kRf kCut kItr
set_option linter.unusedVariables false
set_option linter.unusedSimpArgs false
end Go.Dp
namespace Go.Dp
open Go.RowKit Go.Proofs
attribute [local irreducible] wp wpOps wpOp1 CallW CallT kSeq kBlk kLoop kReg retP retR kAsg kRound kRf kCut kItr kItr2
set_option linter.unusedVariables false
set_option linter.unusedSimpArgs false
end Go.Dp
