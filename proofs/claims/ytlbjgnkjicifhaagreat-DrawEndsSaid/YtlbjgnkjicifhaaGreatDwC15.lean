import Derived.Test.YtlbjgnkjicifhaaGreatDwC14
namespace Go.Dp
open Go.RowKit Go.Proofs
attribute [local irreducible] wp wpOps wpOp1 CallW CallT kSeq kBlk kLoop kReg retP retR kAsg kRound kRf kCut kItr kItr2
set_option linter.unusedVariables false
set_option linter.unusedSimpArgs false
def post3 (c:Cf) (b:Brd) (hall:Int) (got:List Int) (k:Int):List Ln:=if isInM c b k then (if fitsM c b k hall (gotM got k) then [⟨hall,5,k,[gotM got k]⟩] else if ansB c b k hall then [⟨hall,5,k,[ansN c b k hall]⟩] else []) else []
def pre3 (c:Cf) (b:Brd) (hall:Int) (poly:List Int):List Ln:=if isInM c b hall then [⟨hall,4,0,poly⟩] else []
def InvU (lo N:Nat) (L:List Ln) (q:Nat × Nat) (n:Nat):Prop:=L.length < 2 ^ 19∧(L≠[]→lo < q.1∧q.1 < n∧q.1≠N)
theorem InvU.mono {lo N n n':Nat} {L:List Ln} {q:Nat × Nat} (h:InvU lo N L q n) (hn:n≤n'):InvU lo N L q n':=⟨h.1,fun h2=>by have:=h.2 h2;omega⟩
set_option maxRecDepth 10000 in
set_option maxHeartbeats 2000000 in
theorem k59_3 (c:Cf) (hc:c.Ok) (b:Brd) (hb:b.Ok) (hall:Int) (hh:1≤hall∧hall≤c.H) (poly got:List Int) (hgl:(got.length:Int) = c.H):PureC Tryz.prog 59 [stV c b,.int .i64 hall,slI poly,slI got,.int .i64 3] (fun r=>r = .own (linN (pre3 c b hall poly++(oth c hall).flatMap (post3 c b hall got))) (pre3 c b hall poly++(oth c hall).flatMap (post3 c b hall got)).length 4):=by
 have hr:=hc.rng
 have hit:=oth_it c hc b hall
 have hLlen:=oth_len hc hall
 have hLm:=fun k=>oth_mem (c:=c) (hall:=hall) (k:=k)
 have c1:=k77 c b 118 [] [.fp [.int .i64 hall] 0] (by simp) (by simp [V.atom])
 have c0:=k74 c hc b hb hall (by omega)
 have c2:=fun k hk=>k74 c hc b hb k hk
 have c3:=fun k hk=>k81 c hc b hb k hall (gotM got k) hk
 have c7:=fun k hk=>k120 c hc b hb k hall hk (by omega)
 clear hc hb
 generalize oth c hall = L at hit hLlen hLm
 refine pureC_of_wp (.s 4) mixed ok59 rfl ?_
 unfold c59
 dsimp only [argE]
 obtain ⟨L0,hL0⟩:∃ L0,L0 = pre3 c b hall poly:=⟨_,rfl⟩
 rw [← hL0]
 have hl0:L0.length≤1:=by rw [hL0,pre3];split <;> simp
 have hst:∃ N:Nat,(N = 200∧isInM c b hall = false∨N = 296∧isInM c b hall = true)∧(L0 = []∨256 < N):=by
  cases hin:isInM c b hall
  ·exact ⟨200,.inl ⟨rfl,rfl⟩,.inl (by rw [hL0,pre3,hin];rfl)⟩
  ·exact ⟨296,.inr ⟨rfl,rfl⟩,.inr (by omega)⟩
 obtain ⟨N,hN | hN,hN2⟩:=hst
 case' inl =>
  obtain ⟨hN,hin⟩:=hN
  rw [hin] at c0
  refine W.run ?_
  have hH0:HS (HpP (stV c b) hall (slI got) L0 (256,0)) (HpP (stV c b) hall (slI got) [] (0,0)):=by rw [hL0,pre3,hin];exact HS.refl _
 case' inr =>
  obtain ⟨hN,hin⟩:=hN
  rw [hin] at c0
  refine W.run ?_
  refine W.ref (k117n _ _ 32 8 _ 0 hall 4 0 (slI poly) (.inr ⟨_,_,rfl⟩) rfl rfl (by omega) (fun j hj=>by simp only [Hp.put];repeat (rw [if_neg (by omega)]))) (by omega) (hd1 rfl (.inl (by omega))) ?_
  refine W.run ?_
  have hH0:HS (HpP (stV c b) hall (slI got) L0 (256,0)) (HpP (stV c b) hall (slI got) [⟨hall,4,0,poly⟩] (256,0)):=by rw [hL0,pre3,hin];exact HS.refl _
 all_goals
  refine W.rfi2 hit YEx.none rfl (fun vs hvs=>?_) (fun x:List Ln × Nat × Nat=>HpP (stV c b) hall (slI got) x.1 x.2)
   (fun i x n=>x.1 = L0++(L.take i).flatMap (post3 c b hall got)∧x.1.length≤i+1∧InvU 48 N x.1 x.2 n) (fun i x n n' hx hn=>⟨hx.1,hx.2.1,hx.2.2.mono hn⟩) (L0,256,0) hH0 ⟨by simp,by dsimp only;omega,⟨by dsimp only;omega,fun h=>by dsimp only at h ⊢;rcases hN2 with h1 | h1;exact absurd h1 h;omega⟩⟩ ?_ ?_ ?_
  ·obtain ⟨i,hi,rfl⟩:=List.getElem_of_mem hvs
   simp [itemsI]
  ·rintro i ⟨l,id,ver⟩ n ⟨_,_,hI⟩
   cases l with
   | nil=>simp [HpP,Hp.put]
   | cons x l =>
    have:=hI.2 (by simp)
    dsimp only at this
    simp only [HpP,Hp.put];rw [if_neg (by omega)];simp
  ·rintro i vs ⟨l,id,ver⟩ n hi ⟨hx,hxl,hI⟩ hn
   dsimp only at hx hxl hI hi ⊢
   obtain ⟨hi1,-⟩:=List.getElem?_eq_some_iff.1 hi
   rw [show (itemsI L).length = L.length by simp [itemsI]] at hi1
   rw [itemsI_get hi1,Option.some.injEq] at hi
   subst hi
   dsimp only [putL]
   have hkr:=hLm _ (List.getElem_mem hi1)
   have c4:=c2 L[i] (by omega)
   have c5:=c3 L[i] (by omega)
   have c6:=c7 L[i] (by omega)
   have hgi:(L[i] - 1).toNat < got.length:=by omega
   have hsn:L0++(L.take (i+1)).flatMap (post3 c b hall got) = l++post3 c b hall got L[i]:=by
    rw [← List.take_append_getElem hi1,List.flatMap_append,← List.append_assoc,← hx];simp
   have hkeep:post3 c b hall got L[i] = []→l = L0++(L.take (i+1)).flatMap (post3 c b hall got)∧l.length≤i+1+1:=fun h=>⟨by rw [hsn,h,List.append_nil],by omega⟩
   have hmore:∀ v,post3 c b hall got L[i] = [⟨hall,5,L[i],[v]⟩]→l++[⟨hall,5,L[i],[v]⟩] = L0++(L.take (i+1)).flatMap (post3 c b hall got)∧(l++[(⟨hall,5,L[i],[v]⟩:Ln)]).length≤i+1+1:=fun v h=>⟨by rw [hsn,h],by simp;omega⟩
   clear hit hLm c2 c3 c7 hsn hx hL0 hH0 hN2
   cases l with
   | nil =>
    dsimp only [HpP]
    cases hd:isInM c b L[i]
    ·rw [hd] at c4
     have ha:=hkeep (by rw [post3,hd];rfl)
     refine W.run ?_
     refine W.kasg2 (by simp (disch:=omega) only [put_same,put_ne,ne_eq]) rfl ?_
     refine W.run ?_
     exact W.kitr2 ([],id,ver) (HS.p (HS.p (HS.p (HS.p (HS.p (HS.p (HS.emp _))))))) ⟨ha.1,ha.2,hI.mono (by omega)⟩ (by omega)
    ·rw [hd] at c4
     cases hf:fitsM c b L[i] hall (gotM got L[i])
     ·rw [hf] at c5
      cases hs:ansB c b L[i] hall
      ·rw [hs] at c6
       have ha:=hkeep (by rw [post3,hd,hf,hs];rfl)
       rw [← gotM_get hgi] at c5
       refine W.run ?_
       refine W.kasg2 (by simp (disch:=omega) only [put_same,put_ne,ne_eq]) rfl ?_
       refine W.run ?_
       exact W.kitr2 ([],id,ver) (HS.p (HS.p (HS.p (HS.p (HS.p (HS.p (HS.emp _))))))) ⟨ha.1,ha.2,hI.mono (by omega)⟩ (by omega)
      ·rw [hs] at c6
       have ha:=hmore (ansN c b L[i] hall) (by rw [post3,hd,hf,hs];rfl)
       rw [← gotM_get hgi] at c5
       refine W.run ?_
       refine W.kasg2 (by simp (disch:=omega) only [put_same,put_ne,ne_eq]) rfl ?_
       refine W.run ?_
       refine W.ref (add_n _ _ 32 8 _ 1 _ hall 5 L[i] (ansN c b L[i] hall) (by simp (disch:=omega) only [put_same,put_ne,ne_eq]) (by simp (disch:=omega) only [put_same,put_ne,ne_eq] <;> rfl) (by simp (disch:=omega) only [put_same,put_ne,ne_eq]) (by omega) (fun j hj=>by simp (disch:=omega) only [put_ne,ne_eq])) (by omega) (hd2 (by simp (disch:=omega) only [put_same,put_ne,ne_eq];rfl) (by simp (disch:=omega) only [put_same,put_ne,ne_eq];rfl) (.inl (by omega))) ?_
       refine W.run ?_
       refine W.kitr2 ([]++[⟨hall,5,L[i],[ansN c b L[i] hall]⟩],n+232+56,0) ?_ ⟨ha.1,ha.2,by simp,fun _=>by dsimp only;omega⟩ (by omega)
       dsimp only [HpP,List.nil_append]
       exact HS.p (HS.p (HS.p (HS.p (HS.p (HS.p (HS.p (HS.emp _)))))))
     ·rw [hf] at c5
      have ha:=hmore (gotM got L[i]) (by rw [post3,hd,hf];rfl)
      rw [← gotM_get hgi] at c5 ha
      refine W.run ?_
      refine W.kasg2 (by simp (disch:=omega) only [put_same,put_ne,ne_eq]) rfl ?_
      refine W.run ?_
      refine W.ref (add_n _ _ 32 8 _ 1 _ hall 5 L[i] (got[(L[i] - 1).toNat]) (by simp (disch:=omega) only [put_same,put_ne,ne_eq]) (by simp (disch:=omega) only [put_same,put_ne,ne_eq] <;> rfl) (by simp (disch:=omega) only [put_same,put_ne,ne_eq]) (by omega) (fun j hj=>by simp (disch:=omega) only [put_ne,ne_eq])) (by omega) (hd2 (by simp (disch:=omega) only [put_same,put_ne,ne_eq];rfl) (by simp (disch:=omega) only [put_same,put_ne,ne_eq];rfl) (.inl (by omega))) ?_
      refine W.run ?_
      refine W.kitr2 ([]++[⟨hall,5,L[i],[got[(L[i] - 1).toNat]]⟩],n+184+56,0) ?_ ⟨ha.1,ha.2,by simp,fun _=>by dsimp only;omega⟩ (by omega)
      dsimp only [HpP,List.nil_append]
      exact HS.p (HS.p (HS.p (HS.p (HS.p (HS.p (HS.p (HS.emp _)))))))
   | cons x l =>
    have hq:=hI.2 (by simp)
    dsimp only at hq
    dsimp only [HpP]
    cases hd:isInM c b L[i]
    ·rw [hd] at c4
     have ha:=hkeep (by rw [post3,hd];rfl)
     refine W.run ?_
     refine W.kasg2 (by simp (disch:=omega) only [put_same,put_ne,ne_eq]) rfl ?_
     refine W.run ?_
     exact W.kitr2 (x::l,id,ver) (HS.p (HS.p (HS.p (HS.p (HS.p (HS.p (HS.p (HS.emp _)))))))) ⟨ha.1,ha.2,hI.mono (by omega)⟩ (by omega)
    ·rw [hd] at c4
     cases hf:fitsM c b L[i] hall (gotM got L[i])
     ·rw [hf] at c5
      cases hs:ansB c b L[i] hall
      ·rw [hs] at c6
       have ha:=hkeep (by rw [post3,hd,hf,hs];rfl)
       rw [← gotM_get hgi] at c5
       refine W.run ?_
       refine W.kasg2 (by simp (disch:=omega) only [put_same,put_ne,ne_eq]) rfl ?_
       refine W.run ?_
       exact W.kitr2 (x::l,id,ver) (HS.p (HS.p (HS.p (HS.p (HS.p (HS.p (HS.p (HS.emp _)))))))) ⟨ha.1,ha.2,hI.mono (by omega)⟩ (by omega)
      ·rw [hs] at c6
       have ha:=hmore (ansN c b L[i] hall) (by rw [post3,hd,hf,hs];rfl)
       rw [← gotM_get hgi] at c5
       refine W.run ?_
       refine W.kasg2 (by simp (disch:=omega) only [put_same,put_ne,ne_eq]) rfl ?_
       refine W.run ?_
       refine W.ref (add_c _ _ 32 8 _ 1 id ver (l.length+1) _ (linN (x::l)) hall 5 L[i] (ansN c b L[i] hall) (by simp (disch:=omega) only [put_same,put_ne,ne_eq]) (by simp (disch:=omega) only [put_same,put_ne,ne_eq] <;> rfl) (by simp (disch:=omega) only [put_same,put_ne,ne_eq]) (by simp (disch:=omega) only [put_same,put_ne,ne_eq]) (by rw [linN_len];rfl) (by have:=hI.1;simp at this;omega) (by omega) (fun j hj=>by simp (disch:=omega) only [put_ne,ne_eq])) (by omega) (hd2 (by simp (disch:=omega) only [put_same,put_ne,ne_eq];rfl) (by simp (disch:=omega) only [put_same,put_ne,ne_eq];rfl) (.inr ⟨_,by simp (disch:=omega) only [put_same,put_ne,ne_eq];rfl⟩)) ?_
       refine W.run ?_
       refine W.kitr2 (x::l++[⟨hall,5,L[i],[ansN c b L[i] hall]⟩],id,ver+1) ?_ ⟨ha.1,ha.2,by have h9:=ha.2;dsimp only;omega,fun _=>by dsimp only;omega⟩ (by omega)
       have e:linN (x::l)++[V.int .i64 hall,.int .i64 5,.int .i64 L[i],slI [ansN c b L[i] hall]] = linN (x::(l++[⟨hall,5,L[i],[ansN c b L[i] hall]⟩])):=(linN_snoc (x::l) ⟨hall,5,L[i],[ansN c b L[i] hall]⟩).symm
       dsimp only [HpP,List.cons_append]
       rw [e,show (l++[(⟨hall,5,L[i],[ansN c b L[i] hall]⟩:Ln)]).length = l.length+1 by simp]
       exact HS.p (HS.p (HS.p (HS.p (HS.p (HS.p (HS.p (HS.emp _)))))))
     ·rw [hf] at c5
      have ha:=hmore (gotM got L[i]) (by rw [post3,hd,hf];rfl)
      rw [← gotM_get hgi] at c5 ha
      refine W.run ?_
      refine W.kasg2 (by simp (disch:=omega) only [put_same,put_ne,ne_eq]) rfl ?_
      refine W.run ?_
      refine W.ref (add_c _ _ 32 8 _ 1 id ver (l.length+1) _ (linN (x::l)) hall 5 L[i] (got[(L[i] - 1).toNat]) (by simp (disch:=omega) only [put_same,put_ne,ne_eq]) (by simp (disch:=omega) only [put_same,put_ne,ne_eq] <;> rfl) (by simp (disch:=omega) only [put_same,put_ne,ne_eq]) (by simp (disch:=omega) only [put_same,put_ne,ne_eq]) (by rw [linN_len];rfl) (by have:=hI.1;simp at this;omega) (by omega) (fun j hj=>by simp (disch:=omega) only [put_ne,ne_eq])) (by omega) (hd2 (by simp (disch:=omega) only [put_same,put_ne,ne_eq];rfl) (by simp (disch:=omega) only [put_same,put_ne,ne_eq];rfl) (.inr ⟨_,by simp (disch:=omega) only [put_same,put_ne,ne_eq];rfl⟩)) ?_
      refine W.run ?_
      refine W.kitr2 (x::l++[⟨hall,5,L[i],[got[(L[i] - 1).toNat]]⟩],id,ver+1) ?_ ⟨ha.1,ha.2,by have h9:=ha.2;dsimp only;omega,fun _=>by dsimp only;omega⟩ (by omega)
      have e:linN (x::l)++[V.int .i64 hall,.int .i64 5,.int .i64 L[i],slI [got[(L[i] - 1).toNat]]] = linN (x::(l++[⟨hall,5,L[i],[got[(L[i] - 1).toNat]]⟩])):=(linN_snoc (x::l) ⟨hall,5,L[i],[got[(L[i] - 1).toNat]]⟩).symm
      dsimp only [HpP,List.cons_append]
      rw [e,show (l++[(⟨hall,5,L[i],[got[(L[i] - 1).toNat]]⟩:Ln)]).length = l.length+1 by simp]
      exact HS.p (HS.p (HS.p (HS.p (HS.p (HS.p (HS.p (HS.emp _)))))))
  ·rintro ⟨l,id,ver⟩ n ⟨hx,hxl,hI⟩ hn
   rw [show (itemsI L).length = L.length by simp [itemsI],List.take_length] at hx
   dsimp only at hx hI ⊢
   rw [← hx]
   clear hit hLm c1 c2 c3 c7 c0 hx hL0 hH0 hN2
   cases l with
   | nil =>
    dsimp only [HpP]
    refine W.run ?_
    rfl
   | cons x l =>
    have hq:=hI.2 (by simp)
    dsimp only at hq
    have h3:=hI.1
    have hl:=linN_len (x::l)
    have hat:=linN_atoms (x::l)
    have hll:(x::l).length = l.length+1:=rfl
    rw [hll] at hl h3 ⊢
    dsimp only [HpP]
    refine W.run ?_
    rfl
end Go.Dp
