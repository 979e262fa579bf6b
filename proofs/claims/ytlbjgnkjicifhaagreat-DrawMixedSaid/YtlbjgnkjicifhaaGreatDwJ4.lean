import Derived.Test.YtlbjgnkjicifhaaGreatDwC13
import Derived.Test.YtlbjgnkjicifhaaGreatDsM12
import Derived.Test.YtlbjgnkjicifhaaGreatDwJ3
import Derived.Test.YtlbjgnkjicifhaaGreatDwF4
namespace Go.Dp
open Go.RowKit Go.Proofs
set_option linter.unusedVariables false
set_option linter.unusedSimpArgs false
theorem nodup_len {M L:List Int} (hn:M.Nodup) (hs:∀ x∈M,x∈L):M.length≤L.length:=by
 rcases Nat.le_total L.length M.length with h | h
 ·exact Nat.le_of_eq (perm_of_sub hn hs h).length_eq
 ·exact h
def opnX (c:Cf) (b:Brd) (h j:Int):Bool:=b.r.any fun x=>opnR c b x && decide (x.other = h) && decide (x.hall = j)
def foundB (c:Cf) (b:Brd) (h j:Int):Bool:=ansB c b h j || opnX c b h j
def foundL (c:Cf) (b:Brd) (h:Int):List Int:=(rngH c.H.toNat).filter (foundB c b h)
def revB (c:Cf) (b:Brd) (h:Int):Bool:=b.r.any fun x=>revR c b x && decide (x.hall = h)
def PolyOf (c:Cf) (A a:List Int):Prop:=comM c.R c.G a = A∧a.length = A.length∧InF c.P a
theorem polyOf_ex {c:Cf} (hc:c.Ok) {b:Brd} (hb:b.Ok) {h:Int} {A:List Int} (e:b.deal c h = some A):∃ a,PolyOf c A a:=com_log hc.1 (deal_ok hb e).2.2.1
theorem fitsM_val {c:Cf} (hc:c.Ok) {b:Brd} {h x n:Int} {A a:List Int} (e:b.deal c h = some A) (ha:PolyOf c A a) (hf:fitsM c b h x n = true):n = valM c.P x a:=by
 unfold fitsM at hf
 rw [e] at hf
 simp only [fitB,Bool.and_eq_true,decide_eq_true_eq] at hf
 obtain ⟨⟨⟨⟨h1,h2⟩,h3⟩,h4⟩,h5⟩:=hf
 rw [← ha.1] at h5
 exact (fits_iff hc.1 (by omega) (fun y hy=>(ha.2.2 y hy).1) h3).1 h5
theorem ansB_val {c:Cf} (hc:c.Ok) {b:Brd} {h k:Int} {A a:List Int} (e:b.deal c h = some A) (ha:PolyOf c A a) (hf:ansB c b h k = true):ansN c b h k = valM c.P k a:=by
 unfold ansB at hf
 unfold ansN
 split at hf
 ·rename_i x hx;exact fitsM_val hc e ha hf
 ·cases hf
theorem opnR_val {c:Cf} (hc:c.Ok) {b:Brd} {h:Int} {x:Ln} {A a:List Int} (e:b.deal c h = some A) (ha:PolyOf c A a) (hf:opnR c b x = true) (ho:x.other = h):x.nums.headD 0 = valM c.P x.hall a:=by
 simp only [opnR,Bool.and_eq_true] at hf
 exact fitsM_val hc (by rw [ho];exact e) ha hf.2
theorem plcL_val {c:Cf} (hc:c.Ok) {b:Brd} {h:Int} {A a:List Int} (e:b.deal c h = some A) (ha:PolyOf c A a):∀ p∈plcL c b h,p.2 = valM c.P p.1 a:=by
 intro p hp
 rcases List.mem_append.1 hp with hp | hp
 ·unfold plcA at hp
  obtain ⟨k,hk,rfl⟩:=List.mem_map.1 hp
  exact ansB_val hc e ha (List.mem_filter.1 hk).2
 ·unfold plcO at hp
  obtain ⟨x,hx,rfl⟩:=List.mem_map.1 hp
  have h2:=(List.mem_filter.1 hx).2
  rw [Bool.and_eq_true] at h2
  exact opnR_val hc e ha h2.1 (of_decide_eq_true h2.2)
theorem ansB_self {c:Cf} {b:Brd} {h:Int}:ansB c b h h = false:=by
 unfold ansB
 split
 ·rename_i x hx
  exfalso
  have:=List.find?_some hx
  simp [qAns,cntB] at this
  omega
 ·rfl
theorem plcL_found {c:Cf} (hc:c.Ok) {b:Brd} {h:Int} (k:Int):(k∈(plcL c b h).map Prod.fst)↔k∈foundL c b h:=by
 have hr:=hc.rng
 constructor
 ·intro hk
  obtain ⟨p,hp,rfl⟩:=List.mem_map.1 hk
  refine List.mem_filter.2 ?_
  rcases List.mem_append.1 hp with hp | hp
  ·unfold plcA at hp
   obtain ⟨k',hk',rfl⟩:=List.mem_map.1 hp
   obtain ⟨h1,h2⟩:=List.mem_filter.1 hk'
   refine ⟨(List.mem_filter.1 h1).1,?_⟩
   simp only [foundB,h2,Bool.true_or]
  ·have hok:=plcO_ok hc b h _ p hp
   unfold plcO at hp
   obtain ⟨x,hx',rfl⟩:=List.mem_map.1 hp
   obtain ⟨h1,h2⟩:=List.mem_filter.1 hx'
   refine ⟨rngH_mem.2 (by have:=hok.1;omega),?_⟩
   have:opnX c b h x.hall = true:=List.any_eq_true.2 ⟨x,h1,by simp only [h2,decide_true,Bool.and_true]⟩
   simp only [foundB,this,Bool.or_true]
 ·intro hk
  obtain ⟨h1,h2⟩:=List.mem_filter.1 hk
  unfold foundB at h2
  rw [Bool.or_eq_true] at h2
  rcases h2 with h2 | h2
  ·refine List.mem_map.2 ⟨(k,ansN c b h k),List.mem_append_left _ (List.mem_map.2 ⟨k,List.mem_filter.2 ⟨List.mem_filter.2 ⟨h1,?_⟩,h2⟩,rfl⟩),rfl⟩
   rw [decide_eq_true_eq]
   intro e;subst e;rw [ansB_self] at h2;cases h2
  ·obtain ⟨x,hx,h3⟩:=List.any_eq_true.1 h2
   rw [Bool.and_eq_true] at h3
   refine List.mem_map.2 ⟨(x.hall,x.nums.headD 0),List.mem_append_right _ (List.mem_map.2 ⟨x,List.mem_filter.2 ⟨hx,h3.1⟩,rfl⟩),of_decide_eq_true h3.2⟩
theorem addP_val {P B:Int} {a:List Int}:∀ (l:List (Int × Int)) (q:List Int × List Int),(∀ p∈l,p.2 = valM P p.1 a)→SharesOf P a q.1 q.2→SharesOf P a (l.foldl (addP B) q).1 (l.foldl (addP B) q).2
 | [],q,_,h=>h
 | p::l,q,hl,h=>by
  rw [List.foldl_cons]
  refine addP_val l _ (fun r hr=>hl r (by simp [hr])) ?_
  unfold addP
  split
  ·show q.2++[p.2] = (q.1++[p.1]).map fun x=>valM P x a
   rw [List.map_append,← h,hl p (by simp)];rfl
  ·exact h
theorem addP_keep {B:Int} {x:Int}:∀ (l:List (Int × Int)) (q:List Int × List Int),x∈q.1→x∈(l.foldl (addP B) q).1
 | [],q,h=>h
 | p::l,q,h=>by
  rw [List.foldl_cons]
  refine addP_keep l _ ?_
  unfold addP
  split
  ·exact List.mem_append_left _ h
  ·exact h
theorem addP_from {B:Int} {x:Int}:∀ (l:List (Int × Int)) (q:List Int × List Int),x∈(l.foldl (addP B) q).1→x∈q.1∨x∈l.map Prod.fst
 | [],q,h=>.inl h
 | p::l,q,h=>by
  rw [List.foldl_cons] at h
  rcases addP_from l _ h with h | h
  ·unfold addP at h
   split at h
   ·rcases List.mem_append.1 h with h | h
    ·exact .inl h
    ·exact .inr (by rw [List.mem_singleton.1 h];simp)
   ·exact .inl h
  ·exact .inr (by simp only [List.map_cons,List.mem_cons];exact .inr h)
theorem addP_full {B:Int}:∀ (l:List (Int × Int)) (q:List Int × List Int),((l.foldl (addP B) q).1.length:Int)≤B→∀ x∈l.map Prod.fst,x∈(l.foldl (addP B) q).1
 | [],q,_,x,hx=>by cases hx
 | p::l,q,h,x,hx=>by
  rw [List.foldl_cons] at h ⊢
  rcases List.mem_cons.1 hx with rfl | hx
  ·refine addP_keep l _ ?_
   have hle:((addP B q p).1.length:Int)≤B:=by
    have:∀ (l:List (Int × Int)) (q:List Int × List Int),q.1.length≤(l.foldl (addP B) q).1.length:=by
     intro l
     induction l with
     | nil=>intro q;exact Nat.le_refl _
     | cons p l ih =>
      intro q
      rw [List.foldl_cons]
      refine Nat.le_trans ?_ (ih _)
      unfold addP
      split
      ·simp
      ·exact Nat.le_refl _
    have:=this l (addP B q p)
    omega
   unfold addP at hle ⊢
   split
   ·simp
   ·rename_i hc
    rw [if_neg hc] at hle
    simp only [Bool.and_eq_true,decide_eq_true_eq,Bool.not_eq_true',decide_eq_false_iff_not,not_and,Classical.not_not] at hc
    exact hc hle
  ·exact addP_full l _ h x hx
theorem foundL_nodup (c:Cf) (b:Brd) (h:Int):(foundL c b h).Nodup:=by
 refine List.Pairwise.filter _ ?_
 unfold rngH
 rw [List.pairwise_map]
 exact List.nodup_range.imp fun hne e=>hne (by omega)
theorem accP_cnt {c:Cf} (hc:c.Ok) (b:Brd) (h:Int):((accP c b h).1.length:Int)≤c.B↔((foundL c b h).length:Int)≤c.B:=by
 have h0:=accP_ok hc b h
 constructor
 ·intro hle
  have:=nodup_len (foundL_nodup c b h) (L:=(accP c b h).1) fun x hx=>addP_full _ _ hle x ((plcL_found hc x).2 hx)
  omega
 ·intro hle
  have:=nodup_len h0.1 (L:=foundL c b h) fun x hx=>by
   rcases addP_from _ _ hx with hx | hx
   ·cases hx
   ·exact (plcL_found hc x).1 hx
  omega
theorem revS_some {c:Cf} (hc:c.Ok) {b:Brd} {h:Int} {A a:List Int} (e:b.deal c h = some A) (ha:PolyOf c A a):revS c b h = if revB c b h then some (a.headD 0) else none:=by
 unfold revS revB
 cases hf:b.r.find? fun x=>revR c b x && decide (x.hall = h) with
 | none =>
  rw [if_neg,Option.map_none]
  rw [List.any_eq_true]
  rintro ⟨x,hx,h2⟩
  exact absurd h2 (List.find?_eq_none.1 hf x hx)
 | some x =>
  have h1:=List.find?_some hf
  rw [if_pos (List.any_eq_true.2 ⟨x,List.mem_of_find?_eq_some hf,h1⟩),Option.map_some]
  simp only [revR,Bool.and_eq_true,decide_eq_true_eq] at h1
  obtain ⟨⟨h2,h3,h4⟩,h5⟩:=h1
  rw [h5,e,Option.some.injEq,← ha.1] at h4
  rw [com_inj hc.1 (polyE_rng h3) ha.2.2 h4]
theorem secM_eq {c:Cf} (hc:c.Ok) {b:Brd} (hb:b.Ok) {h:Int} {A a:List Int} (e:b.deal c h = some A) (ha:PolyOf c A a):secM c b h = if revB c b h || decide (c.B < (foundL c b h).length) then some (a.headD 0) else none:=by
 have hr:=hc.rng
 have hP:=hc.1.hP
 have hcnt:=accP_cnt hc b h
 have hok:=accP_ok hc b h
 have hd:=deal_ok hb e
 unfold secM
 rw [revS_some hc e ha]
 cases hrv:revB c b h
 ·simp only [Bool.false_or,decide_eq_true_eq,Bool.false_eq_true,if_false]
  by_cases hle:((accP c b h).1.length:Int)≤c.B
  ·rw [if_pos hle,if_neg (by have:=hcnt.1 hle;omega)]
  ·rw [if_neg hle, if_pos (by have := mt hcnt.2 hle; omega)]
   congr 1
   refine newt_zero hc.1.pP hP.1 (fun x hx=>by have:=hok.2.1 x hx;omega) hok.1 ha.2.2 (by have:=ha.2.1;omega) ?_
   exact addP_val _ _ (plcL_val hc e ha) rfl
 ·simp only [Bool.true_or,if_true]
end Go.Dp
namespace Go.Dp
open Go.RowKit Go.Proofs
attribute [local irreducible] wp wpOps wpOp1 CallW CallT kSeq kBlk kLoop kReg retP retR kAsg kRound kRf kCut kItr kItr2
set_option linter.unusedVariables false
set_option linter.unusedSimpArgs false
theorem take_ne {A B:List Int} {j:Nat} (hA:j < A.length) (hB:j < B.length) (h:A[j]≠B[j]):A≠B:=fun e=>by subst e;exact h rfl
theorem take_all {A B:List Int} (hl:A.length = B.length) (h:∀ k (hA:k < A.length) (hB:k < B.length),A[k] = B[k]):A = B:=List.ext_getElem hl fun k hA hB=>h k hA hB
set_option maxRecDepth 10000 in
theorem k132 (c:Cf) (hc:c.Ok) (b:Brd) (hb:b.Ok) (x:Ln) (hx:LnO x) (hcnt:cntB c.H x 4 (c.B+1) false = true):PureC Tryz.prog 132 [c.v,bdV b,.agg (lnK x)] (fun r=>r = .bool (revR c b x)):=by
 have hr:=hc.rng
 have hxl:=hx.1
 have hnl:(x.nums.length:Int) = c.B+1:=(cntB_hall hcnt).2.2.2
 have c1:=k68 c hc b hb x.hall
 have c2:=k18 (R:=c.R) (P:=c.P) (G:=c.G) x.nums x.nums.length rfl (by omega)
 have hdo:=fun A (e:b.deal c x.hall = some A)=>deal_ok hb e
 have hg:=hc.1
 refine pureC_of_wp .x mixed ok132 rfl ?_
 unfold c132 revR revC
 rw [hcnt,Bool.true_and]
 dsimp only [argE,Cf.v,cfgV,bdV,lnK]
 cases hd:b.deal c x.hall with
 | none =>
  rw [hd] at c1
  dsimp only [dealV] at c1
  clear hdo hb hc hx
  refine W.run ?_
  rfl
 | some A =>
  rw [hd] at c1
  dsimp only [dealV] at c1
  have hA:=hdo A hd
  rw [Option.isSome_some,Bool.true_and]
  have hAl:=hA.1
  clear hdo hA hb hc hx hd
  by_cases hp:polyE c.P x.nums = 0
  case neg =>
   rw [decide_eq_false hp,Bool.false_and]
   refine W.run ?_
   rfl
  rw [decide_eq_true hp,Bool.true_and]
  rw [hp] at c2
  have hrg:=polyE_rng hp
  have hcl:(comM c.R c.G x.nums).length = x.nums.length:=by simp [comM]
  have c3:PureC Tryz.prog 66 [grp c.R c.P c.G,slI x.nums] (fun r=>r = .own ((comM c.R c.G x.nums).map (V.int .i64)) (comM c.R c.G x.nums).length 1):=by rw [hcl];exact k66 hg x.nums x.nums.length rfl (by omega) hrg
  clear hrg hg
  obtain ⟨C,hC⟩:∃ C,C = comM c.R c.G x.nums:=⟨_,rfl⟩
  rw [← hC] at c3 hcl ⊢
  have hCA:C.length = A.length:=by omega
  refine W.run ?_
  refine W.lp (fun j:Nat=>[(7,slI A),(9,slI C),(10,.int .i64 (j:Int))]) (fun _ _=>none) (fun j=>j≤C.length∧∀ k (hA:k < C.length) (hB:k < A.length),k < j→C[k] = A[k]) (fun j=>C.length - j) 0 rfl (HS.emp _) ⟨by omega,by omega⟩ ?_
  rintro j nx ⟨h1,h2⟩ hnx
  by_cases hj:j < C.length
  ·have hj2 : j < A.length := by omega
   by_cases he:C[j] = A[j]
   ·have h3:∀ k (hA:k < C.length) (hB:k < A.length),k < j+1→C[k] = A[k]:=fun k hk1 hk2 hk3=>by
     by_cases e:k = j
     ·subst e;exact he
     ·exact h2 k hk1 hk2 (by omega)
    clear h2 hC
    refine W.run ?_
    exact W.kl (j+1) rfl (HS.refl _) (by omega) ⟨by omega,h3⟩ (by omega)
   ·rw [decide_eq_false (fun e=>take_ne hj hj2 he (Option.some.inj e))]
    clear h2 hC
    refine W.run ?_
    rfl
  ·have hj2 : j = C.length := by omega
   subst hj2
   have:C = A:=take_all hCA fun k hk1 hk2=>h2 k hk1 hk2 hk1
   rw [decide_eq_true (congrArg some this)]
   clear h2 hC this
   refine W.run ?_
   rfl
set_option maxRecDepth 10000 in
theorem k133 (c:Cf) (hc:c.Ok) (b:Brd) (hb:b.Ok) (x:Ln) (hx:LnO x) (hn:x.nums.length = 1) (hdl:(b.deal c x.other).isSome = true):PureC Tryz.prog 133 [c.v,bdV b,.agg (lnK x)] (fun r=>r = .bool (fitsM c b x.other x.hall (x.nums.headD 0))):=by
 have c1:=k68 c hc b hb x.other
 have hdo:=fun A (e:b.deal c x.other = some A)=>deal_ok hb e
 have hg:=hc.1
 refine pureC_of_wp .x mixed ok133 rfl ?_
 unfold c133 fitsM
 dsimp only [argE,Cf.v,cfgV,bdV,lnK]
 rw [headD_get (by omega)]
 cases hd:b.deal c x.other with
 | none=>rw [hd] at hdl;cases hdl
 | some A =>
  rw [hd] at c1
  dsimp only [dealV] at c1
  have hA:=hdo A hd
  have c2:=k69 hg A A.length rfl (by omega) hA.2.1 x.hall x.nums[0]
  have hAl:=hA.2.2.2
  clear hdo hA hb hc hdl hx
  refine W.run ?_
  rfl
set_option maxRecDepth 10000 in
theorem k170 (A B:List Int) (hl:A.length = B.length) (hA:A.length < 2 ^ 40):PureC Tryz.prog 170 [slI A,slI B] (fun r=>r = .bool (decide (A = B))):=by
 refine pureC_of_wp .x mixed ok170 rfl ?_
 unfold c170
 dsimp only [argE]
 refine W.run ?_
 refine W.lp (fun j:Nat=>[(0,slI A),(1,slI B),(5,.int .i64 (j:Int))]) (fun _ _=>none) (fun j=>j≤A.length∧∀ k (hA:k < A.length) (hB:k < B.length),k < j→A[k] = B[k]) (fun j=>A.length - j) 0 rfl (HS.emp _) ⟨by omega,by omega⟩ ?_
 rintro j nx ⟨h1,h2⟩ hnx
 by_cases hj:j < A.length
 ·have hj2 : j < B.length := by omega
  by_cases he:A[j] = B[j]
  ·have h3:∀ k (hA:k < A.length) (hB:k < B.length),k < j+1→A[k] = B[k]:=fun k hk1 hk2 hk3=>by
    by_cases e:k = j
    ·subst e;exact he
    ·exact h2 k hk1 hk2 (by omega)
   clear h2
   refine W.run ?_
   exact W.kl (j+1) rfl (HS.refl _) (by omega) ⟨by omega,h3⟩ (by omega)
  ·rw [decide_eq_false (take_ne hj hj2 he)]
   clear h2
   refine W.run ?_
   rfl
 ·have hj2 : j = A.length := by omega
  subst hj2
  have:A = B:=take_all hl fun k hk1 hk2=>h2 k hk1 hk2 hk1
  rw [decide_eq_true this]
  clear h2 this
  refine W.run ?_
  simp only [hl,decide_true]
set_option maxRecDepth 10000 in
theorem k131 (c:Cf) (hc:c.Ok) (b:Brd) (hb:b.Ok) (h:Int):PureC Tryz.prog 131 [c.v,bdV b,.int .i64 h] (fun r=>r = .int .i64 (twiceM c b h)):=by
 have hr:=hc.rng
 have hbl:=hb.1.1
 have hbd:=hb.1.2
 have c1:=k121 c hc b hb h
 have c2:=fun i (hi:i < b.d.length)=>k123 c hc b.d[i] (by have:=(hbd b.d[i] (List.getElem_mem hi)).1;omega) 1
 clear hb hc
 refine pureC_of_wp .x mixed ok131 rfl ?_
 unfold c131 twiceM
 dsimp only [argE,Cf.v,cfgV,bdV]
 by_cases hf:b.first c h < 0
 ·have hno:∀ x∈b.d,qTwice c b h x = false:=fun x hx=>by
   have:=List.find?_eq_none.1 ((fstI_find _ _).1 hf) x hx
   rw [qTwice,Bool.eq_false_iff.2 this];rfl
  rw [fstI_no hno]
  have hge:=fstI_ge (qDeal c h) b.d
  change -1≤b.first c h at hge
  clear c2 hno
  refine W.run ?_
  refine W.lp (fun _:Unit=>[(2,.int .i64 h),(3,.ptr 0 0 0),(4,.ptr 8 0 0),(7,.int .i64 (b.first c h)),(8,.int .i64 (b.first c h+1))]) (fun _=>HB c b) (fun _=>True) (fun _=>0) () rfl (HS.refl _) trivial ?_
  rintro _ nx _ hnx
  refine W.run ?_
  rfl
 obtain ⟨i,hi⟩:∃ i:Nat,b.first c h = i:=⟨(b.first c h).toNat,by omega⟩
 obtain ⟨hf1,hq0,_⟩:=deal_at hi
 have hfind:b.d.find? (qDeal c h) = some b.d[i]:=by
  obtain ⟨h1,h2⟩:=fstI_get (q:=qDeal c h) (l:=b.d) (show 0≤b.first c h by omega)
  have e:(fstI (qDeal c h) b.d).toNat = i:=by
   show (b.first c h).toNat = i
   omega
  rw [h2];simp only [e]
 have hqt:∀ x,qTwice c b h x = (qDeal c h x && decide (x.nums≠b.d[i].nums)):=fun x=>by rw [qTwice,hfind]
 have hbefore:∀ x∈b.d.take (i+1),qTwice c b h x = false:=fun x hx=>by
  rcases mem_take_succ hf1 hx with hx | rfl
  ·have:qDeal c h x = false:=by
    obtain ⟨j,hj,rfl⟩:=List.mem_take_iff_getElem.1 hx
    rw [List.find?_eq_some_iff_getElem] at hfind
    obtain ⟨_,i',hi',e1,e2⟩:=hfind
    have e3:b.first c h = i':=by
     refine fstI_hit hi' (fun y hy=>?_) (by rw [e1];exact hq0)
     obtain ⟨j,hj,rfl⟩:=List.mem_take_iff_getElem.1 hy
     simpa using e2 j (by omega)
    simpa using e2 j (by omega)
   rw [hqt,this];rfl
  ·rw [hqt];simp
 have hlen:∀ x,qDeal c h x = true→(x.nums.length:Int) = c.B+1:=fun x hx=>by
  simp only [qDeal,Bool.and_eq_true] at hx
  exact (cntB_hall hx.1).2.2.2
 have hl0:=hlen _ hq0
 rw [hi] at c1
 clear hf hi hq0 hfind
 refine W.run ?_
 refine W.lp (fun j:Nat=>[(2,.int .i64 h),(3,.ptr 0 0 0),(4,.ptr 8 0 0),(7,.int .i64 (i:Int)),(8,.int .i64 (j:Int))]) (fun _=>HB c b) (fun j=>j≤b.d.length∧∀ x∈b.d.take j,qTwice c b h x = false) (fun j=>b.d.length - j) (i+1) rfl (HS.refl _) ⟨by omega,hbefore⟩ ?_
 clear c1 hbefore
 rintro j nx ⟨h1,h2⟩ hnx
 by_cases hj:j < b.d.length
 ·have c3:=c2 j hj
  have hcn:cntR c b.d[j] 1 = cntB c.H b.d[j] 1 (c.B+1) false:=by rw [cntR,if_pos (.inl rfl)]
  rw [hcn] at c3
  have hgo:qTwice c b h b.d[j] = false→j+1≤b.d.length∧∀ x∈b.d.take (j+1),qTwice c b h x = false:=fun hq=>⟨by omega,fun x hx=>(mem_take_succ hj hx).elim (h2 x) (fun e=>e ▸ hq)⟩
  have hst:qTwice c b h b.d[j] = true→fstI (qTwice c b h) b.d = j:=fun hq=>fstI_hit hj h2 hq
  have hqj:=hqt b.d[j]
  have hlj:=hlen b.d[j]
  have hxl:=(hbd b.d[j] (List.getElem_mem hj)).1
  clear h2 c2 hcn hqt hlen hbd
  cases hcnt:cntB c.H b.d[j] 1 (c.B+1) false
  ·rw [hcnt] at c3
   have hg:=hgo (by rw [hqj,qDeal,hcnt];rfl)
   clear hgo hst hqj hlj
   refine W.run ?_
   exact W.kl (j+1) rfl (HS.skip (HS.refl _) (by simp only [Hp.put];repeat (rw [if_neg (by omega)])) _) (by omega) hg (by omega)
  rw [hcnt] at c3
  by_cases hhall:b.d[j].hall = h
  ·have hqd : qDeal c h b.d[j] = true := by rw [qDeal, hcnt, decide_eq_true hhall]; rfl
   have hl1:=hlj hqd
   have c4:=k170 b.d[j].nums b.d[i].nums (by omega) (by omega)
   by_cases he:b.d[j].nums = b.d[i].nums
   ·rw [decide_eq_true he] at c4
    have hg:=hgo (by rw [hqj];simp [he])
    clear hgo hst hqj hlj he hqd
    refine W.run ?_
    exact W.kl (j+1) rfl (HS.skip (HS.refl _) (by simp only [Hp.put];repeat (rw [if_neg (by omega)])) _) (by omega) hg (by omega)
   ·rw [decide_eq_false he] at c4
    have hg:=hst (by rw [hqj,hqd];simp [he])
    clear hgo hst hqj hlj he hqd
    rw [hg]
    refine W.run ?_
    rfl
  ·have hg := hgo (by rw [hqj, qDeal, decide_eq_false hhall, Bool.and_false]; rfl)
   clear hgo hst hqj hlj
   refine W.run ?_
   exact W.kl (j+1) rfl (HS.skip (HS.refl _) (by simp only [Hp.put];repeat (rw [if_neg (by omega)])) _) (by omega) hg (by omega)
 ·have hj2 : j = b.d.length := by omega
  subst hj2
  rw [List.take_length] at h2
  rw [fstI_no h2]
  clear h2 c2 hqt hlen
  refine W.run ?_
  rfl
end Go.Dp
