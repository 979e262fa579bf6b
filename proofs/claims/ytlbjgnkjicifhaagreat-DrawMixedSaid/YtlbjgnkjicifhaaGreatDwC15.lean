import Derived.Test.YtlbjgnkjicifhaaGreatDwC13
namespace Go.Dp
open Go.RowKit Go.Proofs
attribute [local irreducible] wp wpOps wpOp1 CallW CallT kSeq kBlk kLoop kReg retP retR kAsg kRound kRf kCut kItr kItr2
set_option linter.unusedVariables false
set_option linter.unusedSimpArgs false
theorem frz_tmp {H:Hp} {o:Nat} {v:Int} (h:H o = some { cells:=[.int .i64 v],sz:=1 }):frz 12 (.ref o 0 0 1) H = some (slI [v],H.put o { cells:=[.int .i64 v],sz:=1,fz:=1 }):=by
 rw [frz_ref,h,frzRef_some (by simp)]
 simp only [mapS,frz_int,List.drop_zero,Nat.mul_one,List.take_succ_cons,List.take_zero,Option.bind_some,Option.map_some,Hp.mark,h]
 rfl
theorem add_n (Y:Ys) (H:Hp) (oo oh top z tmp:Nat) (hall kind other v:Int) (h0:H tmp = some { cells:=[.int .i64 v],sz:=1 }) (h1:H oh = some { cells:=[.int .i64 hall],sz:=1,fz:=z }) (h2:H oo = some { cells:=[.nils],sz:=1 }) (hlt:oh < oo∧oo < tmp∧tmp < top) (hfr:∀ j,top≤j→H j = none) :
  RefC Tryz.prog Y 117 [.int .i64 kind,.int .i64 other,.ref tmp 0 0 1,.ptr oo 0 0,.ptr oh 0 0] H top (fun r H' t=>r = .tup []∧H' = ((H.put tmp { cells:=[.int .i64 v],sz:=1,fz:=1 }).put oo { cells:=[.ref (top+56) 0 0 1],sz:=1 }).put (top+56) { cells:=[.int .i64 hall,.int .i64 kind,.int .i64 other,slI [v]],sz:=4 }∧t = top+72) :=
 RefC.frz1 (l1:=[.int .i64 kind,.int .i64 other]) (l2:=[.ptr oo 0 0,.ptr oh 0 0]) (frz_tmp h0) (k117n Y _ oo oh top z hall kind other (slI [v]) (.inr ⟨_,_,rfl⟩) (by rw [put_ne (by omega)];exact h1) (by rw [put_ne (by omega)];exact h2) ⟨hlt.1,by omega⟩ (fun j hj=>by rw [put_ne (by omega)];exact hfr j hj))
theorem add_c (Y:Ys) (H:Hp) (oo oh top z id ver n tmp:Nat) (cells:List V) (hall kind other v:Int) (h0:H tmp = some { cells:=[.int .i64 v],sz:=1 }) (h1:H oh = some { cells:=[.int .i64 hall],sz:=1,fz:=z }) (h2:H oo = some { cells:=[.ref id ver 0 n],sz:=1 }) (h3:H id = some { cells:=cells,sz:=4,ver:=ver }) (hl:cells.length = n * 4) (hn:n < 2 ^ 20) (hlt:oh < oo∧oo < id∧id < tmp∧tmp < top) (hfr:∀ j,top≤j→H j = none) :
  RefC Tryz.prog Y 117 [.int .i64 kind,.int .i64 other,.ref tmp 0 0 1,.ptr oo 0 0,.ptr oh 0 0] H top (fun r H' t=>r = .tup []∧H' = ((H.put tmp { cells:=[.int .i64 v],sz:=1,fz:=1 }).put oo { cells:=[.ref id (ver+1) 0 (n+1)],sz:=1 }).put id { cells:=cells++[.int .i64 hall,.int .i64 kind,.int .i64 other,slI [v]],sz:=4,ver:=ver+1 }∧t = top+72) :=
 RefC.frz1 (l1:=[.int .i64 kind,.int .i64 other]) (l2:=[.ptr oo 0 0,.ptr oh 0 0]) (frz_tmp h0) (k117c Y _ oo oh top z id ver n cells hall kind other (slI [v]) (.inr ⟨_,_,rfl⟩) (by rw [put_ne (by omega)];exact h1) (by rw [put_ne (by omega)];exact h2) (by rw [put_ne (by omega)];exact h3) hl hn ⟨hlt.1,hlt.2.1,by omega⟩ (fun j hj=>by rw [put_ne (by omega)];exact hfr j hj))
theorem hd2 {H:Hp} {a b c top:Nat} {x w u v s:Ob} (h0:H c = some w) (h1:H a = some x) (hb:top≤b∨∃ y,H b = some y):∀ j,j < top→H j = none→(((H.put c s).put a u).put b v) j = none:=fun j hj hn=>by
 have e1:j≠a:=fun e=>by rw [e,h1] at hn;cases hn
 have e0:j≠c:=fun e=>by rw [e,h0] at hn;cases hn
 have e2:j≠b:=fun e=>by
  rcases hb with h | ⟨y,h⟩
  ·omega
  ·rw [e,h] at hn;cases hn
 rw [put_ne e2,put_ne e1,put_ne e0,hn]
def HpS (sv:V) (hall:Int) (gv:V) (S:List Int) (m:Nat):List Ln→Nat × Nat→Hp
 | [],_=>((((((Hp.put (fun _=>none) 0 { cells:=[sv],sz:=1 }).put 8 { cells:=[.int .i64 hall],sz:=1,fz:=max 0 1 }).put 16 { cells:=[gv],sz:=1 }).put 32 { cells:=[.nils],sz:=1 }).put 48 { cells:=[.clo (.func 117) [] [.ptr 32 0 0,.ptr 8 0 0]],sz:=1 }).put 224 { cells:=S.map (V.int .i64),sz:=1,nl:=if (S.map (V.int .i64)).isEmpty = true then 2 else 0 }).put 256 { cells:=[.ref 224 0 0 m],sz:=1 }
 | x::l,(id,ver)=>(((((((Hp.put (fun _=>none) 0 { cells:=[sv],sz:=1 }).put 8 { cells:=[.int .i64 hall],sz:=1,fz:=max 0 1 }).put 16 { cells:=[gv],sz:=1 }).put 32 { cells:=[.ref id ver 0 (l.length+1)],sz:=1 }).put 48 { cells:=[.clo (.func 117) [] [.ptr 32 0 0,.ptr 8 0 0]],sz:=1 }).put 224 { cells:=S.map (V.int .i64),sz:=1,nl:=if (S.map (V.int .i64)).isEmpty = true then 2 else 0 }).put 256 { cells:=[.ref 224 0 0 m],sz:=1 }).put id { cells:=linN (x::l),sz:=4,ver:=ver }
def post2 (c:Cf) (b:Brd) (hall:Int) (poly:List Int) (k:Int):List Ln:=if b.compl c k hall then [⟨hall,3,k,[valM c.P k poly]⟩] else []
set_option maxRecDepth 10000 in
set_option maxHeartbeats 1000000 in
theorem k59_2 (c:Cf) (hc:c.Ok) (b:Brd) (hall:Int) (hh:1≤hall∧hall≤c.H) (poly got:List Int) (hp:polyE c.P poly = 0):PureC Tryz.prog 59 [stV c b,.int .i64 hall,slI poly,slI got,.int .i64 2] (fun r=>r = .own (linN ((oth c hall).flatMap (post2 c b hall poly))) ((oth c hall).flatMap (post2 c b hall poly)).length 4):=by
 have hr:=hc.rng
 have hpl:=polyE_len hp
 have hit:=oth_it c hc b hall
 have hLlen:=oth_len hc hall
 have hLm:=fun k=>oth_mem (c:=c) (hall:=hall) (k:=k)
 have c1:=k77 c b 118 [] [.fp [.int .i64 hall] 0] (by simp) (by simp [V.atom])
 obtain ⟨S,hS⟩:∃ S,S = shM c.P poly c.H.toNat:=⟨_,rfl⟩
 have c2:PureC Tryz.prog 105 [grp c.R c.P c.G,slI poly,.int .i64 c.H] (fun r=>r = .tup [.own (S.map (V.int .i64)) c.H.toNat 1,.int .i64 0]):=by
  have:=k105 hc.1 poly _ rfl (by omega) hp c.H.toNat (by omega)
  rw [hS]
  rwa [show ((c.H.toNat:Nat):Int) = c.H by omega] at this
 have hSl:S.length = c.H.toNat:=by rw [hS,shM_len]
 have hSg:∀ (k:Int) (h:(k - 1).toNat < S.length),1≤k→S[(k - 1).toNat] = valM c.P k poly:=fun k h hk=>by
  subst hS
  rw [shM_get]
  congr 1;omega
 clear hc hS
 generalize oth c hall = L at hit hLlen hLm
 refine pureC_of_wp (.s 4) mixed ok59 rfl ?_
 unfold c59
 dsimp only [argE]
 refine W.run ?_
 refine W.rfi2 hit YEx.none rfl (fun vs hvs=>?_) (fun x:List Ln × Nat × Nat=>HpS (stV c b) hall (slI got) S c.H.toNat x.1 x.2)
  (fun i x n=>x.1 = (L.take i).flatMap (post2 c b hall poly)∧x.1.length≤i∧InvO 304 x.1 x.2 n) (fun i x n n' hx hn=>⟨hx.1,hx.2.1,hx.2.2.mono hn⟩) ([],0,0) (HS.refl _) ⟨rfl,by simp,by simp [InvO]⟩ ?_ ?_ ?_
 ·obtain ⟨i,hi,rfl⟩:=List.getElem_of_mem hvs
  simp [itemsI]
 ·rintro i ⟨l,id,ver⟩ n ⟨_,_,hI⟩
  cases l with
  | nil=>simp [HpS,Hp.put]
  | cons x l =>
   have:=hI.2 (by simp)
   dsimp only at this
   simp only [HpS,Hp.put];rw [if_neg (by omega)];simp
 ·rintro i vs ⟨l,id,ver⟩ n hi ⟨hx,hxl,hI⟩ hn
  dsimp only at hx hxl hI hi ⊢
  obtain ⟨hi1,-⟩:=List.getElem?_eq_some_iff.1 hi
  rw [show (itemsI L).length = L.length by simp [itemsI]] at hi1
  rw [itemsI_get hi1,Option.some.injEq] at hi
  subst hi
  dsimp only [putL]
  have hkr:=hLm _ (List.getElem_mem hi1)
  have hgi:(L[i] - 1).toNat < S.length:=by omega
  have hsn:(L.take (i+1)).flatMap (post2 c b hall poly) = l++post2 c b hall poly L[i]:=by
   rw [← List.take_append_getElem hi1,List.flatMap_append,← hx];simp
  unfold post2 at hsn
  rw [← hSg _ hgi (by omega)] at hsn
  clear hit hLm c2 hSg
  have hadd:∀ q,b.compl c L[i] hall = q→(L.take (i+1)).flatMap (post2 c b hall poly) = if q then l++[⟨hall,3,L[i],[S[(L[i] - 1).toNat]]⟩] else l:=fun q hq=>by
   refine hsn.trans ?_
   rw [hq];cases q <;> simp
  clear hsn
  have hkeep:b.compl c L[i] hall = false→l = (L.take (i+1)).flatMap (post2 c b hall poly)∧l.length≤i+1:=fun h=>⟨by rw [hadd false h];rfl,by omega⟩
  have hmore:b.compl c L[i] hall = true→l++[⟨hall,3,L[i],[S[(L[i] - 1).toNat]]⟩] = (L.take (i+1)).flatMap (post2 c b hall poly)∧(l++[(⟨hall,3,L[i],[S[(L[i] - 1).toNat]]⟩:Ln)]).length≤i+1:=fun h=>⟨by rw [hadd true h];rfl,by simp;omega⟩
  clear hadd hx
  cases l with
  | nil =>
   dsimp only [HpS]
   cases hd:b.compl c L[i] hall
   ·have ha:=hkeep hd
    refine W.run ?_
    refine W.kasg2 (by simp (disch:=omega) only [put_same,put_ne,ne_eq]) rfl ?_
    refine W.run ?_
    rw [hd]
    refine W.run ?_
    exact W.kitr2 ([],id,ver) (HS.p (HS.p (HS.p (HS.p (HS.p (HS.p (HS.p (HS.p (HS.emp _))))))))) ⟨ha.1,ha.2,hI.mono (by omega)⟩ (by omega)
   ·have ha:=hmore hd
    refine W.run ?_
    refine W.kasg2 (by simp (disch:=omega) only [put_same,put_ne,ne_eq]) rfl ?_
    refine W.run ?_
    rw [hd]
    refine W.run ?_
    refine W.ref (add_n _ _ 32 8 _ 1 _ hall 3 L[i] S[(L[i] - 1).toNat] (by simp (disch:=omega) only [put_same,put_ne,ne_eq]) (by simp (disch:=omega) only [put_same,put_ne,ne_eq] <;> rfl) (by simp (disch:=omega) only [put_same,put_ne,ne_eq]) (by omega) (fun j hj=>by simp (disch:=omega) only [put_ne,ne_eq])) (by omega) (hd2 (by simp (disch:=omega) only [put_same,put_ne,ne_eq];rfl) (by simp (disch:=omega) only [put_same,put_ne,ne_eq];rfl) (.inl (by omega))) ?_
    refine W.run ?_
    refine W.kitr2 ([]++[⟨hall,3,L[i],[S[(L[i] - 1).toNat]]⟩],n+144+56,0) ?_ ⟨ha.1,ha.2,by simp,fun _=>by dsimp only;omega⟩ (by omega)
    dsimp only [HpS,List.nil_append]
    exact HS.p (HS.p (HS.p (HS.p (HS.p (HS.p (HS.p (HS.p (HS.p (HS.emp _)))))))))
  | cons x l =>
   have hq:=hI.2 (by simp)
   dsimp only at hq
   dsimp only [HpS]
   cases hd:b.compl c L[i] hall
   ·have ha:=hkeep hd
    refine W.run ?_
    refine W.kasg2 (by simp (disch:=omega) only [put_same,put_ne,ne_eq]) rfl ?_
    refine W.run ?_
    rw [hd]
    refine W.run ?_
    exact W.kitr2 (x::l,id,ver) (HS.p (HS.p (HS.p (HS.p (HS.p (HS.p (HS.p (HS.p (HS.p (HS.emp _)))))))))) ⟨ha.1,ha.2,hI.mono (by omega)⟩ (by omega)
   ·have ha:=hmore hd
    refine W.run ?_
    refine W.kasg2 (by simp (disch:=omega) only [put_same,put_ne,ne_eq]) rfl ?_
    refine W.run ?_
    rw [hd]
    refine W.run ?_
    refine W.ref (add_c _ _ 32 8 _ 1 id ver (l.length+1) _ (linN (x::l)) hall 3 L[i] S[(L[i] - 1).toNat] (by simp (disch:=omega) only [put_same,put_ne,ne_eq]) (by simp (disch:=omega) only [put_same,put_ne,ne_eq] <;> rfl) (by simp (disch:=omega) only [put_same,put_ne,ne_eq]) (by simp (disch:=omega) only [put_same,put_ne,ne_eq]) (by rw [linN_len];rfl) (by have:=hI.1;simp at this;omega) (by omega) (fun j hj=>by simp (disch:=omega) only [put_ne,ne_eq])) (by omega) (hd2 (by simp (disch:=omega) only [put_same,put_ne,ne_eq];rfl) (by simp (disch:=omega) only [put_same,put_ne,ne_eq];rfl) (.inr ⟨_,by simp (disch:=omega) only [put_same,put_ne,ne_eq];rfl⟩)) ?_
    refine W.run ?_
    refine W.kitr2 (x::l++[⟨hall,3,L[i],[S[(L[i] - 1).toNat]]⟩],id,ver+1) ?_ ⟨ha.1,ha.2,by have h9:=ha.2;dsimp only;omega,fun _=>by dsimp only;omega⟩ (by omega)
    have e:linN (x::l)++[V.int .i64 hall,.int .i64 3,.int .i64 L[i],slI [S[(L[i] - 1).toNat]]] = linN (x::(l++[⟨hall,3,L[i],[S[(L[i] - 1).toNat]]⟩])):=(linN_snoc (x::l) ⟨hall,3,L[i],[S[(L[i] - 1).toNat]]⟩).symm
    dsimp only [HpS,List.cons_append]
    rw [e,show (l++[(⟨hall,3,L[i],[S[(L[i] - 1).toNat]]⟩:Ln)]).length = l.length+1 by simp]
    exact HS.p (HS.p (HS.p (HS.p (HS.p (HS.p (HS.p (HS.p (HS.p (HS.emp _)))))))))
 ·rintro ⟨l,id,ver⟩ n ⟨hx,hxl,hI⟩ hn
  rw [show (itemsI L).length = L.length by simp [itemsI],List.take_length] at hx
  dsimp only at hx hI ⊢
  rw [← hx]
  clear hit hLm c1 c2 hx hSg
  cases l with
  | nil =>
   dsimp only [HpS]
   refine W.run ?_
   rfl
  | cons x l =>
   have hq:=hI.2 (by simp)
   dsimp only at hq
   have h3:=hI.1
   have hl:=linN_len (x::l)
   have hat:=linN_atoms (x::l)
   have hll:(x::l).length = l.length+1:=rfl
   rw [hll] at hl h3 ⊢
   dsimp only [HpS]
   refine W.run ?_
   rfl
def post3 (c:Cf) (b:Brd) (hall:Int) (got:List Int) (k:Int):List Ln:=if isInM c b k then (if fitsM c b k hall (gotM got k) then [⟨hall,5,k,[gotM got k]⟩] else if ansB c b k hall then [⟨hall,5,k,[ansN c b k hall]⟩] else []) else []
def pre3 (c:Cf) (b:Brd) (hall:Int) (poly:List Int):List Ln:=if isInM c b hall then [⟨hall,4,0,poly⟩] else []
def InvU (lo N:Nat) (L:List Ln) (q:Nat × Nat) (n:Nat):Prop:=L.length < 2 ^ 19∧(L≠[]→lo < q.1∧q.1 < n∧q.1≠N)
theorem InvU.mono {lo N n n':Nat} {L:List Ln} {q:Nat × Nat} (h:InvU lo N L q n) (hn:n≤n'):InvU lo N L q n':=⟨h.1,fun h2=>by have:=h.2 h2;omega⟩
set_option maxRecDepth 10000 in
set_option maxHeartbeats 2000000 in
theorem k59_3 (c:Cf) (hc:c.Ok) (b:Brd) (hb:b.Ok) (hall:Int) (hh:1≤hall∧hall≤c.H) (poly got:List Int) (hgl:(got.length:Int) = c.H):PureC Tryz.prog 59 [stV c b,.int .i64 hall,slI poly,slI got,.int .i64 3] (fun r=>r = .own (linN (pre3 c b hall poly++(oth c hall).flatMap (post3 c b hall got))) (pre3 c b hall poly++(oth c hall).flatMap (post3 c b hall got)).length 4):=by
 have hr:=hc.rng
 have hit:=oth_it c hc b hall
 have hLlen:=oth_len hc hall
 have hLm:=fun k=>oth_mem (c:=c) (hall:=hall) (k:=k)
 have c1:=k77 c b 118 [] [.fp [.int .i64 hall] 0] (by simp) (by simp [V.atom])
 have c0:=k74 c hc b hb hall (by omega)
 have c2:=fun k hk=>k74 c hc b hb k hk
 have c3:=fun k hk=>k81 c hc b hb k hall (gotM got k) hk
 have c7:=fun k hk=>k120 c hc b hb k hall hk (by omega)
 clear hc hb
 generalize oth c hall = L at hit hLlen hLm
 refine pureC_of_wp (.s 4) mixed ok59 rfl ?_
 unfold c59
 dsimp only [argE]
 obtain ⟨L0,hL0⟩:∃ L0,L0 = pre3 c b hall poly:=⟨_,rfl⟩
 rw [← hL0]
 have hl0:L0.length≤1:=by rw [hL0,pre3];split <;> simp
 have hst:∃ N:Nat,(N = 200∧isInM c b hall = false∨N = 296∧isInM c b hall = true)∧(L0 = []∨256 < N):=by
  cases hin:isInM c b hall
  ·exact ⟨200,.inl ⟨rfl,rfl⟩,.inl (by rw [hL0,pre3,hin];rfl)⟩
  ·exact ⟨296,.inr ⟨rfl,rfl⟩,.inr (by omega)⟩
 obtain ⟨N,hN | hN,hN2⟩:=hst
 case' inl =>
  obtain ⟨hN,hin⟩:=hN
  rw [hin] at c0
  refine W.run ?_
  have hH0:HS (HpP (stV c b) hall (slI got) L0 (256,0)) (HpP (stV c b) hall (slI got) [] (0,0)):=by rw [hL0,pre3,hin];exact HS.refl _
 case' inr =>
  obtain ⟨hN,hin⟩:=hN
  rw [hin] at c0
  refine W.run ?_
  refine W.ref (k117n _ _ 32 8 _ 0 hall 4 0 (slI poly) (.inr ⟨_,_,rfl⟩) rfl rfl (by omega) (fun j hj=>by simp only [Hp.put];repeat (rw [if_neg (by omega)]))) (by omega) (hd1 rfl (.inl (by omega))) ?_
  refine W.run ?_
  have hH0:HS (HpP (stV c b) hall (slI got) L0 (256,0)) (HpP (stV c b) hall (slI got) [⟨hall,4,0,poly⟩] (256,0)):=by rw [hL0,pre3,hin];exact HS.refl _
 all_goals
  refine W.rfi2 hit YEx.none rfl (fun vs hvs=>?_) (fun x:List Ln × Nat × Nat=>HpP (stV c b) hall (slI got) x.1 x.2)
   (fun i x n=>x.1 = L0++(L.take i).flatMap (post3 c b hall got)∧x.1.length≤i+1∧InvU 48 N x.1 x.2 n) (fun i x n n' hx hn=>⟨hx.1,hx.2.1,hx.2.2.mono hn⟩) (L0,256,0) hH0 ⟨by simp,by dsimp only;omega,⟨by dsimp only;omega,fun h=>by dsimp only at h ⊢;rcases hN2 with h1 | h1;exact absurd h1 h;omega⟩⟩ ?_ ?_ ?_
  ·obtain ⟨i,hi,rfl⟩:=List.getElem_of_mem hvs
   simp [itemsI]
  ·rintro i ⟨l,id,ver⟩ n ⟨_,_,hI⟩
   cases l with
   | nil=>simp [HpP,Hp.put]
   | cons x l =>
    have:=hI.2 (by simp)
    dsimp only at this
    simp only [HpP,Hp.put];rw [if_neg (by omega)];simp
  ·rintro i vs ⟨l,id,ver⟩ n hi ⟨hx,hxl,hI⟩ hn
   dsimp only at hx hxl hI hi ⊢
   obtain ⟨hi1,-⟩:=List.getElem?_eq_some_iff.1 hi
   rw [show (itemsI L).length = L.length by simp [itemsI]] at hi1
   rw [itemsI_get hi1,Option.some.injEq] at hi
   subst hi
   dsimp only [putL]
   have hkr:=hLm _ (List.getElem_mem hi1)
   have c4:=c2 L[i] (by omega)
   have c5:=c3 L[i] (by omega)
   have c6:=c7 L[i] (by omega)
   have hgi:(L[i] - 1).toNat < got.length:=by omega
   have hsn:L0++(L.take (i+1)).flatMap (post3 c b hall got) = l++post3 c b hall got L[i]:=by
    rw [← List.take_append_getElem hi1,List.flatMap_append,← List.append_assoc,← hx];simp
   have hkeep:post3 c b hall got L[i] = []→l = L0++(L.take (i+1)).flatMap (post3 c b hall got)∧l.length≤i+1+1:=fun h=>⟨by rw [hsn,h,List.append_nil],by omega⟩
   have hmore:∀ v,post3 c b hall got L[i] = [⟨hall,5,L[i],[v]⟩]→l++[⟨hall,5,L[i],[v]⟩] = L0++(L.take (i+1)).flatMap (post3 c b hall got)∧(l++[(⟨hall,5,L[i],[v]⟩:Ln)]).length≤i+1+1:=fun v h=>⟨by rw [hsn,h],by simp;omega⟩
   clear hit hLm c2 c3 c7 hsn hx hL0 hH0 hN2
   cases l with
   | nil =>
    dsimp only [HpP]
    cases hd:isInM c b L[i]
    ·rw [hd] at c4
     have ha:=hkeep (by rw [post3,hd];rfl)
     refine W.run ?_
     refine W.kasg2 (by simp (disch:=omega) only [put_same,put_ne,ne_eq]) rfl ?_
     refine W.run ?_
     exact W.kitr2 ([],id,ver) (HS.p (HS.p (HS.p (HS.p (HS.p (HS.p (HS.emp _))))))) ⟨ha.1,ha.2,hI.mono (by omega)⟩ (by omega)
    ·rw [hd] at c4
     cases hf:fitsM c b L[i] hall (gotM got L[i])
     ·rw [hf] at c5
      cases hs:ansB c b L[i] hall
      ·rw [hs] at c6
       have ha:=hkeep (by rw [post3,hd,hf,hs];rfl)
       rw [← gotM_get hgi] at c5
       refine W.run ?_
       refine W.kasg2 (by simp (disch:=omega) only [put_same,put_ne,ne_eq]) rfl ?_
       refine W.run ?_
       exact W.kitr2 ([],id,ver) (HS.p (HS.p (HS.p (HS.p (HS.p (HS.p (HS.emp _))))))) ⟨ha.1,ha.2,hI.mono (by omega)⟩ (by omega)
      ·rw [hs] at c6
       have ha:=hmore (ansN c b L[i] hall) (by rw [post3,hd,hf,hs];rfl)
       rw [← gotM_get hgi] at c5
       refine W.run ?_
       refine W.kasg2 (by simp (disch:=omega) only [put_same,put_ne,ne_eq]) rfl ?_
       refine W.run ?_
       refine W.ref (add_n _ _ 32 8 _ 1 _ hall 5 L[i] (ansN c b L[i] hall) (by simp (disch:=omega) only [put_same,put_ne,ne_eq]) (by simp (disch:=omega) only [put_same,put_ne,ne_eq] <;> rfl) (by simp (disch:=omega) only [put_same,put_ne,ne_eq]) (by omega) (fun j hj=>by simp (disch:=omega) only [put_ne,ne_eq])) (by omega) (hd2 (by simp (disch:=omega) only [put_same,put_ne,ne_eq];rfl) (by simp (disch:=omega) only [put_same,put_ne,ne_eq];rfl) (.inl (by omega))) ?_
       refine W.run ?_
       refine W.kitr2 ([]++[⟨hall,5,L[i],[ansN c b L[i] hall]⟩],n+232+56,0) ?_ ⟨ha.1,ha.2,by simp,fun _=>by dsimp only;omega⟩ (by omega)
       dsimp only [HpP,List.nil_append]
       exact HS.p (HS.p (HS.p (HS.p (HS.p (HS.p (HS.p (HS.emp _)))))))
     ·rw [hf] at c5
      have ha:=hmore (gotM got L[i]) (by rw [post3,hd,hf];rfl)
      rw [← gotM_get hgi] at c5 ha
      refine W.run ?_
      refine W.kasg2 (by simp (disch:=omega) only [put_same,put_ne,ne_eq]) rfl ?_
      refine W.run ?_
      refine W.ref (add_n _ _ 32 8 _ 1 _ hall 5 L[i] (got[(L[i] - 1).toNat]) (by simp (disch:=omega) only [put_same,put_ne,ne_eq]) (by simp (disch:=omega) only [put_same,put_ne,ne_eq] <;> rfl) (by simp (disch:=omega) only [put_same,put_ne,ne_eq]) (by omega) (fun j hj=>by simp (disch:=omega) only [put_ne,ne_eq])) (by omega) (hd2 (by simp (disch:=omega) only [put_same,put_ne,ne_eq];rfl) (by simp (disch:=omega) only [put_same,put_ne,ne_eq];rfl) (.inl (by omega))) ?_
      refine W.run ?_
      refine W.kitr2 ([]++[⟨hall,5,L[i],[got[(L[i] - 1).toNat]]⟩],n+184+56,0) ?_ ⟨ha.1,ha.2,by simp,fun _=>by dsimp only;omega⟩ (by omega)
      dsimp only [HpP,List.nil_append]
      exact HS.p (HS.p (HS.p (HS.p (HS.p (HS.p (HS.p (HS.emp _)))))))
   | cons x l =>
    have hq:=hI.2 (by simp)
    dsimp only at hq
    dsimp only [HpP]
    cases hd:isInM c b L[i]
    ·rw [hd] at c4
     have ha:=hkeep (by rw [post3,hd];rfl)
     refine W.run ?_
     refine W.kasg2 (by simp (disch:=omega) only [put_same,put_ne,ne_eq]) rfl ?_
     refine W.run ?_
     exact W.kitr2 (x::l,id,ver) (HS.p (HS.p (HS.p (HS.p (HS.p (HS.p (HS.p (HS.emp _)))))))) ⟨ha.1,ha.2,hI.mono (by omega)⟩ (by omega)
    ·rw [hd] at c4
     cases hf:fitsM c b L[i] hall (gotM got L[i])
     ·rw [hf] at c5
      cases hs:ansB c b L[i] hall
      ·rw [hs] at c6
       have ha:=hkeep (by rw [post3,hd,hf,hs];rfl)
       rw [← gotM_get hgi] at c5
       refine W.run ?_
       refine W.kasg2 (by simp (disch:=omega) only [put_same,put_ne,ne_eq]) rfl ?_
       refine W.run ?_
       exact W.kitr2 (x::l,id,ver) (HS.p (HS.p (HS.p (HS.p (HS.p (HS.p (HS.p (HS.emp _)))))))) ⟨ha.1,ha.2,hI.mono (by omega)⟩ (by omega)
      ·rw [hs] at c6
       have ha:=hmore (ansN c b L[i] hall) (by rw [post3,hd,hf,hs];rfl)
       rw [← gotM_get hgi] at c5
       refine W.run ?_
       refine W.kasg2 (by simp (disch:=omega) only [put_same,put_ne,ne_eq]) rfl ?_
       refine W.run ?_
       refine W.ref (add_c _ _ 32 8 _ 1 id ver (l.length+1) _ (linN (x::l)) hall 5 L[i] (ansN c b L[i] hall) (by simp (disch:=omega) only [put_same,put_ne,ne_eq]) (by simp (disch:=omega) only [put_same,put_ne,ne_eq] <;> rfl) (by simp (disch:=omega) only [put_same,put_ne,ne_eq]) (by simp (disch:=omega) only [put_same,put_ne,ne_eq]) (by rw [linN_len];rfl) (by have:=hI.1;simp at this;omega) (by omega) (fun j hj=>by simp (disch:=omega) only [put_ne,ne_eq])) (by omega) (hd2 (by simp (disch:=omega) only [put_same,put_ne,ne_eq];rfl) (by simp (disch:=omega) only [put_same,put_ne,ne_eq];rfl) (.inr ⟨_,by simp (disch:=omega) only [put_same,put_ne,ne_eq];rfl⟩)) ?_
       refine W.run ?_
       refine W.kitr2 (x::l++[⟨hall,5,L[i],[ansN c b L[i] hall]⟩],id,ver+1) ?_ ⟨ha.1,ha.2,by have h9:=ha.2;dsimp only;omega,fun _=>by dsimp only;omega⟩ (by omega)
       have e:linN (x::l)++[V.int .i64 hall,.int .i64 5,.int .i64 L[i],slI [ansN c b L[i] hall]] = linN (x::(l++[⟨hall,5,L[i],[ansN c b L[i] hall]⟩])):=(linN_snoc (x::l) ⟨hall,5,L[i],[ansN c b L[i] hall]⟩).symm
       dsimp only [HpP,List.cons_append]
       rw [e,show (l++[(⟨hall,5,L[i],[ansN c b L[i] hall]⟩:Ln)]).length = l.length+1 by simp]
       exact HS.p (HS.p (HS.p (HS.p (HS.p (HS.p (HS.p (HS.emp _)))))))
     ·rw [hf] at c5
      have ha:=hmore (gotM got L[i]) (by rw [post3,hd,hf];rfl)
      rw [← gotM_get hgi] at c5 ha
      refine W.run ?_
      refine W.kasg2 (by simp (disch:=omega) only [put_same,put_ne,ne_eq]) rfl ?_
      refine W.run ?_
      refine W.ref (add_c _ _ 32 8 _ 1 id ver (l.length+1) _ (linN (x::l)) hall 5 L[i] (got[(L[i] - 1).toNat]) (by simp (disch:=omega) only [put_same,put_ne,ne_eq]) (by simp (disch:=omega) only [put_same,put_ne,ne_eq] <;> rfl) (by simp (disch:=omega) only [put_same,put_ne,ne_eq]) (by simp (disch:=omega) only [put_same,put_ne,ne_eq]) (by rw [linN_len];rfl) (by have:=hI.1;simp at this;omega) (by omega) (fun j hj=>by simp (disch:=omega) only [put_ne,ne_eq])) (by omega) (hd2 (by simp (disch:=omega) only [put_same,put_ne,ne_eq];rfl) (by simp (disch:=omega) only [put_same,put_ne,ne_eq];rfl) (.inr ⟨_,by simp (disch:=omega) only [put_same,put_ne,ne_eq];rfl⟩)) ?_
      refine W.run ?_
      refine W.kitr2 (x::l++[⟨hall,5,L[i],[got[(L[i] - 1).toNat]]⟩],id,ver+1) ?_ ⟨ha.1,ha.2,by have h9:=ha.2;dsimp only;omega,fun _=>by dsimp only;omega⟩ (by omega)
      have e:linN (x::l)++[V.int .i64 hall,.int .i64 5,.int .i64 L[i],slI [got[(L[i] - 1).toNat]]] = linN (x::(l++[⟨hall,5,L[i],[got[(L[i] - 1).toNat]]⟩])):=(linN_snoc (x::l) ⟨hall,5,L[i],[got[(L[i] - 1).toNat]]⟩).symm
      dsimp only [HpP,List.cons_append]
      rw [e,show (l++[(⟨hall,5,L[i],[got[(L[i] - 1).toNat]]⟩:Ln)]).length = l.length+1 by simp]
      exact HS.p (HS.p (HS.p (HS.p (HS.p (HS.p (HS.p (HS.emp _)))))))
  ·rintro ⟨l,id,ver⟩ n ⟨hx,hxl,hI⟩ hn
   rw [show (itemsI L).length = L.length by simp [itemsI],List.take_length] at hx
   dsimp only at hx hI ⊢
   rw [← hx]
   clear hit hLm c1 c2 c3 c7 c0 hx hL0 hH0 hN2
   cases l with
   | nil =>
    dsimp only [HpP]
    refine W.run ?_
    rfl
   | cons x l =>
    have hq:=hI.2 (by simp)
    dsimp only at hq
    have h3:=hI.1
    have hl:=linN_len (x::l)
    have hat:=linN_atoms (x::l)
    have hll:(x::l).length = l.length+1:=rfl
    rw [hll] at hl h3 ⊢
    dsimp only [HpP]
    refine W.run ?_
    rfl
end Go.Dp
