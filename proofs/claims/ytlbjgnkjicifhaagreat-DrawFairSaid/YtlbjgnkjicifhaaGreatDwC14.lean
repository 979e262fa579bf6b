import Derived.Test.YtlbjgnkjicifhaaGreatDwC13
namespace Go.Dp
open Go.RowKit Go.Proofs
attribute [local irreducible] wp wpOps wpOp1 CallW CallT kSeq kBlk kLoop kReg retP retR kAsg kRound kRf kCut kItr kItr2
set_option linter.unusedVariables false
set_option linter.unusedSimpArgs false
theorem frz_tmp {H:Hp} {o:Nat} {v:Int} (h:H o = some { cells:=[.int .i64 v],sz:=1 }):frz 12 (.ref o 0 0 1) H = some (slI [v],H.put o { cells:=[.int .i64 v],sz:=1,fz:=1 }):=by
 rw [frz_ref,h,frzRef_some (by simp)]
 simp only [mapS,frz_int,List.drop_zero,Nat.mul_one,List.take_succ_cons,List.take_zero,Option.bind_some,Option.map_some,Hp.mark,h]
 rfl
theorem add_n (Y:Ys) (H:Hp) (oo oh top z tmp:Nat) (hall kind other v:Int) (h0:H tmp = some { cells:=[.int .i64 v],sz:=1 }) (h1:H oh = some { cells:=[.int .i64 hall],sz:=1,fz:=z }) (h2:H oo = some { cells:=[.nils],sz:=1 }) (hlt:oh < oo∧oo < tmp∧tmp < top) (hfr:∀ j,top≤j→H j = none) :
  RefC Tryz.prog Y 117 [.int .i64 kind,.int .i64 other,.ref tmp 0 0 1,.ptr oo 0 0,.ptr oh 0 0] H top (fun r H' t=>r = .tup []∧H' = ((H.put tmp { cells:=[.int .i64 v],sz:=1,fz:=1 }).put oo { cells:=[.ref (top+56) 0 0 1],sz:=1 }).put (top+56) { cells:=[.int .i64 hall,.int .i64 kind,.int .i64 other,slI [v]],sz:=4 }∧t = top+72) :=
 RefC.frz1 (l1:=[.int .i64 kind,.int .i64 other]) (l2:=[.ptr oo 0 0,.ptr oh 0 0]) (frz_tmp h0) (k117n Y _ oo oh top z hall kind other (slI [v]) (.inr ⟨_,_,rfl⟩) (by rw [put_ne (by omega)];exact h1) (by rw [put_ne (by omega)];exact h2) ⟨hlt.1,by omega⟩ (fun j hj=>by rw [put_ne (by omega)];exact hfr j hj))
theorem add_c (Y:Ys) (H:Hp) (oo oh top z id ver n tmp:Nat) (cells:List V) (hall kind other v:Int) (h0:H tmp = some { cells:=[.int .i64 v],sz:=1 }) (h1:H oh = some { cells:=[.int .i64 hall],sz:=1,fz:=z }) (h2:H oo = some { cells:=[.ref id ver 0 n],sz:=1 }) (h3:H id = some { cells:=cells,sz:=4,ver:=ver }) (hl:cells.length = n * 4) (hn:n < 2 ^ 20) (hlt:oh < oo∧oo < id∧id < tmp∧tmp < top) (hfr:∀ j,top≤j→H j = none) :
  RefC Tryz.prog Y 117 [.int .i64 kind,.int .i64 other,.ref tmp 0 0 1,.ptr oo 0 0,.ptr oh 0 0] H top (fun r H' t=>r = .tup []∧H' = ((H.put tmp { cells:=[.int .i64 v],sz:=1,fz:=1 }).put oo { cells:=[.ref id (ver+1) 0 (n+1)],sz:=1 }).put id { cells:=cells++[.int .i64 hall,.int .i64 kind,.int .i64 other,slI [v]],sz:=4,ver:=ver+1 }∧t = top+72) :=
 RefC.frz1 (l1:=[.int .i64 kind,.int .i64 other]) (l2:=[.ptr oo 0 0,.ptr oh 0 0]) (frz_tmp h0) (k117c Y _ oo oh top z id ver n cells hall kind other (slI [v]) (.inr ⟨_,_,rfl⟩) (by rw [put_ne (by omega)];exact h1) (by rw [put_ne (by omega)];exact h2) (by rw [put_ne (by omega)];exact h3) hl hn ⟨hlt.1,hlt.2.1,by omega⟩ (fun j hj=>by rw [put_ne (by omega)];exact hfr j hj))
theorem hd2 {H:Hp} {a b c top:Nat} {x w u v s:Ob} (h0:H c = some w) (h1:H a = some x) (hb:top≤b∨∃ y,H b = some y):∀ j,j < top→H j = none→(((H.put c s).put a u).put b v) j = none:=fun j hj hn=>by
 have e1:j≠a:=fun e=>by rw [e,h1] at hn;cases hn
 have e0:j≠c:=fun e=>by rw [e,h0] at hn;cases hn
 have e2:j≠b:=fun e=>by
  rcases hb with h | ⟨y,h⟩
  ·omega
  ·rw [e,h] at hn;cases hn
 rw [put_ne e2,put_ne e1,put_ne e0,hn]
def HpS (sv:V) (hall:Int) (gv:V) (S:List Int) (m:Nat):List Ln→Nat × Nat→Hp
 | [],_=>((((((Hp.put (fun _=>none) 0 { cells:=[sv],sz:=1 }).put 8 { cells:=[.int .i64 hall],sz:=1,fz:=max 0 1 }).put 16 { cells:=[gv],sz:=1 }).put 32 { cells:=[.nils],sz:=1 }).put 48 { cells:=[.clo (.func 117) [] [.ptr 32 0 0,.ptr 8 0 0]],sz:=1 }).put 224 { cells:=S.map (V.int .i64),sz:=1,nl:=if (S.map (V.int .i64)).isEmpty = true then 2 else 0 }).put 256 { cells:=[.ref 224 0 0 m],sz:=1 }
 | x::l,(id,ver)=>(((((((Hp.put (fun _=>none) 0 { cells:=[sv],sz:=1 }).put 8 { cells:=[.int .i64 hall],sz:=1,fz:=max 0 1 }).put 16 { cells:=[gv],sz:=1 }).put 32 { cells:=[.ref id ver 0 (l.length+1)],sz:=1 }).put 48 { cells:=[.clo (.func 117) [] [.ptr 32 0 0,.ptr 8 0 0]],sz:=1 }).put 224 { cells:=S.map (V.int .i64),sz:=1,nl:=if (S.map (V.int .i64)).isEmpty = true then 2 else 0 }).put 256 { cells:=[.ref 224 0 0 m],sz:=1 }).put id { cells:=linN (x::l),sz:=4,ver:=ver }
def post2 (c:Cf) (b:Brd) (hall:Int) (poly:List Int) (k:Int):List Ln:=if b.compl c k hall then [⟨hall,3,k,[valM c.P k poly]⟩] else []
set_option maxRecDepth 10000 in
set_option maxHeartbeats 1000000 in
theorem k59_2 (c:Cf) (hc:c.Ok) (b:Brd) (hall:Int) (hh:1≤hall∧hall≤c.H) (poly got:List Int) (hp:polyE c.P poly = 0):PureC Tryz.prog 59 [stV c b,.int .i64 hall,slI poly,slI got,.int .i64 2] (fun r=>r = .own (linN ((oth c hall).flatMap (post2 c b hall poly))) ((oth c hall).flatMap (post2 c b hall poly)).length 4):=by
 have hr:=hc.rng
 have hpl:=polyE_len hp
 have hit:=oth_it c hc b hall
 have hLlen:=oth_len hc hall
 have hLm:=fun k=>oth_mem (c:=c) (hall:=hall) (k:=k)
 have c1:=k77 c b 118 [] [.fp [.int .i64 hall] 0] (by simp) (by simp [V.atom])
 obtain ⟨S,hS⟩:∃ S,S = shM c.P poly c.H.toNat:=⟨_,rfl⟩
 have c2:PureC Tryz.prog 105 [grp c.R c.P c.G,slI poly,.int .i64 c.H] (fun r=>r = .tup [.own (S.map (V.int .i64)) c.H.toNat 1,.int .i64 0]):=by
  have:=k105 hc.1 poly _ rfl (by omega) hp c.H.toNat (by omega)
  rw [hS]
  rwa [show ((c.H.toNat:Nat):Int) = c.H by omega] at this
 have hSl:S.length = c.H.toNat:=by rw [hS,shM_len]
 have hSg:∀ (k:Int) (h:(k - 1).toNat < S.length),1≤k→S[(k - 1).toNat] = valM c.P k poly:=fun k h hk=>by
  subst hS
  rw [shM_get]
  congr 1;omega
 clear hc hS
 generalize oth c hall = L at hit hLlen hLm
 refine pureC_of_wp (.s 4) mixed ok59 rfl ?_
 unfold c59
 dsimp only [argE]
 refine W.run ?_
 refine W.rfi2 hit YEx.none rfl (fun vs hvs=>?_) (fun x:List Ln × Nat × Nat=>HpS (stV c b) hall (slI got) S c.H.toNat x.1 x.2)
  (fun i x n=>x.1 = (L.take i).flatMap (post2 c b hall poly)∧x.1.length≤i∧InvO 304 x.1 x.2 n) (fun i x n n' hx hn=>⟨hx.1,hx.2.1,hx.2.2.mono hn⟩) ([],0,0) (HS.refl _) ⟨rfl,by simp,by simp [InvO]⟩ ?_ ?_ ?_
 ·obtain ⟨i,hi,rfl⟩:=List.getElem_of_mem hvs
  simp [itemsI]
 ·rintro i ⟨l,id,ver⟩ n ⟨_,_,hI⟩
  cases l with
  | nil=>simp [HpS,Hp.put]
  | cons x l =>
   have:=hI.2 (by simp)
   dsimp only at this
   simp only [HpS,Hp.put];rw [if_neg (by omega)];simp
 ·rintro i vs ⟨l,id,ver⟩ n hi ⟨hx,hxl,hI⟩ hn
  dsimp only at hx hxl hI hi ⊢
  obtain ⟨hi1,-⟩:=List.getElem?_eq_some_iff.1 hi
  rw [show (itemsI L).length = L.length by simp [itemsI]] at hi1
  rw [itemsI_get hi1,Option.some.injEq] at hi
  subst hi
  dsimp only [putL]
  have hkr:=hLm _ (List.getElem_mem hi1)
  have hgi:(L[i] - 1).toNat < S.length:=by omega
  have hsn:(L.take (i+1)).flatMap (post2 c b hall poly) = l++post2 c b hall poly L[i]:=by
   rw [← List.take_append_getElem hi1,List.flatMap_append,← hx];simp
  unfold post2 at hsn
  rw [← hSg _ hgi (by omega)] at hsn
  clear hit hLm c2 hSg
  have hadd:∀ q,b.compl c L[i] hall = q→(L.take (i+1)).flatMap (post2 c b hall poly) = if q then l++[⟨hall,3,L[i],[S[(L[i] - 1).toNat]]⟩] else l:=fun q hq=>by
   refine hsn.trans ?_
   rw [hq];cases q <;> simp
  clear hsn
  have hkeep:b.compl c L[i] hall = false→l = (L.take (i+1)).flatMap (post2 c b hall poly)∧l.length≤i+1:=fun h=>⟨by rw [hadd false h];rfl,by omega⟩
  have hmore:b.compl c L[i] hall = true→l++[⟨hall,3,L[i],[S[(L[i] - 1).toNat]]⟩] = (L.take (i+1)).flatMap (post2 c b hall poly)∧(l++[(⟨hall,3,L[i],[S[(L[i] - 1).toNat]]⟩:Ln)]).length≤i+1:=fun h=>⟨by rw [hadd true h];rfl,by simp;omega⟩
  clear hadd hx
  cases l with
  | nil =>
   dsimp only [HpS]
   cases hd:b.compl c L[i] hall
   ·have ha:=hkeep hd
    refine W.run ?_
    refine W.kasg2 (by simp (disch:=omega) only [put_same,put_ne,ne_eq]) rfl ?_
    refine W.run ?_
    rw [hd]
    refine W.run ?_
    exact W.kitr2 ([],id,ver) (HS.p (HS.p (HS.p (HS.p (HS.p (HS.p (HS.p (HS.p (HS.emp _))))))))) ⟨ha.1,ha.2,hI.mono (by omega)⟩ (by omega)
   ·have ha:=hmore hd
    refine W.run ?_
    refine W.kasg2 (by simp (disch:=omega) only [put_same,put_ne,ne_eq]) rfl ?_
    refine W.run ?_
    rw [hd]
    refine W.run ?_
    refine W.ref (add_n _ _ 32 8 _ 1 _ hall 3 L[i] S[(L[i] - 1).toNat] (by simp (disch:=omega) only [put_same,put_ne,ne_eq]) (by simp (disch:=omega) only [put_same,put_ne,ne_eq] <;> rfl) (by simp (disch:=omega) only [put_same,put_ne,ne_eq]) (by omega) (fun j hj=>by simp (disch:=omega) only [put_ne,ne_eq])) (by omega) (hd2 (by simp (disch:=omega) only [put_same,put_ne,ne_eq];rfl) (by simp (disch:=omega) only [put_same,put_ne,ne_eq];rfl) (.inl (by omega))) ?_
    refine W.run ?_
    refine W.kitr2 ([]++[⟨hall,3,L[i],[S[(L[i] - 1).toNat]]⟩],n+144+56,0) ?_ ⟨ha.1,ha.2,by simp,fun _=>by dsimp only;omega⟩ (by omega)
    dsimp only [HpS,List.nil_append]
    exact HS.p (HS.p (HS.p (HS.p (HS.p (HS.p (HS.p (HS.p (HS.p (HS.emp _)))))))))
  | cons x l =>
   have hq:=hI.2 (by simp)
   dsimp only at hq
   dsimp only [HpS]
   cases hd:b.compl c L[i] hall
   ·have ha:=hkeep hd
    refine W.run ?_
    refine W.kasg2 (by simp (disch:=omega) only [put_same,put_ne,ne_eq]) rfl ?_
    refine W.run ?_
    rw [hd]
    refine W.run ?_
    exact W.kitr2 (x::l,id,ver) (HS.p (HS.p (HS.p (HS.p (HS.p (HS.p (HS.p (HS.p (HS.p (HS.emp _)))))))))) ⟨ha.1,ha.2,hI.mono (by omega)⟩ (by omega)
   ·have ha:=hmore hd
    refine W.run ?_
    refine W.kasg2 (by simp (disch:=omega) only [put_same,put_ne,ne_eq]) rfl ?_
    refine W.run ?_
    rw [hd]
    refine W.run ?_
    refine W.ref (add_c _ _ 32 8 _ 1 id ver (l.length+1) _ (linN (x::l)) hall 3 L[i] S[(L[i] - 1).toNat] (by simp (disch:=omega) only [put_same,put_ne,ne_eq]) (by simp (disch:=omega) only [put_same,put_ne,ne_eq] <;> rfl) (by simp (disch:=omega) only [put_same,put_ne,ne_eq]) (by simp (disch:=omega) only [put_same,put_ne,ne_eq]) (by rw [linN_len];rfl) (by have:=hI.1;simp at this;omega) (by omega) (fun j hj=>by simp (disch:=omega) only [put_ne,ne_eq])) (by omega) (hd2 (by simp (disch:=omega) only [put_same,put_ne,ne_eq];rfl) (by simp (disch:=omega) only [put_same,put_ne,ne_eq];rfl) (.inr ⟨_,by simp (disch:=omega) only [put_same,put_ne,ne_eq];rfl⟩)) ?_
    refine W.run ?_
    refine W.kitr2 (x::l++[⟨hall,3,L[i],[S[(L[i] - 1).toNat]]⟩],id,ver+1) ?_ ⟨ha.1,ha.2,by have h9:=ha.2;dsimp only;omega,fun _=>by dsimp only;omega⟩ (by omega)
    have e:linN (x::l)++[V.int .i64 hall,.int .i64 3,.int .i64 L[i],slI [S[(L[i] - 1).toNat]]] = linN (x::(l++[⟨hall,3,L[i],[S[(L[i] - 1).toNat]]⟩])):=(linN_snoc (x::l) ⟨hall,3,L[i],[S[(L[i] - 1).toNat]]⟩).symm
    dsimp only [HpS,List.cons_append]
    rw [e,show (l++[(⟨hall,3,L[i],[S[(L[i] - 1).toNat]]⟩:Ln)]).length = l.length+1 by simp]
    exact HS.p (HS.p (HS.p (HS.p (HS.p (HS.p (HS.p (HS.p (HS.p (HS.emp _)))))))))
 ·rintro ⟨l,id,ver⟩ n ⟨hx,hxl,hI⟩ hn
  rw [show (itemsI L).length = L.length by simp [itemsI],List.take_length] at hx
  dsimp only at hx hI ⊢
  rw [← hx]
  clear hit hLm c1 c2 hx hSg
  cases l with
  | nil =>
   dsimp only [HpS]
   refine W.run ?_
   rfl
  | cons x l =>
   have hq:=hI.2 (by simp)
   dsimp only at hq
   have h3:=hI.1
   have hl:=linN_len (x::l)
   have hat:=linN_atoms (x::l)
   have hll:(x::l).length = l.length+1:=rfl
   rw [hll] at hl h3 ⊢
   dsimp only [HpS]
   refine W.run ?_
   rfl
end Go.Dp
