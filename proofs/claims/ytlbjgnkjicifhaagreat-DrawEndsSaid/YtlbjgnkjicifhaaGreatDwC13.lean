import Derived.Test.YtlbjgnkjicifhaaGreatDwC12
namespace Go.Dp
open Go.RowKit Go.Proofs
attribute [local irreducible] wp wpOps wpOp1 CallW CallT kSeq kBlk kLoop kReg retP retR kAsg kRound kRf kCut kItr kItr2
set_option linter.unusedVariables false
set_option linter.unusedSimpArgs false
theorem k118 (h k:Int):PureC Tryz.prog 118 [.int .i64 k,.fp [.int .i64 h] 0] (fun r=>r = .bool (decide (k≠h))):=by
 refine pureC_of_wp .x mixed ok118 rfl ?_
 unfold c118
 dsimp only [argE]
 refine W.run ?_
 rfl
def oth (c:Cf) (hall:Int):List Int:=hallsL c fun k=>decide (k≠hall)
theorem oth_mem {c:Cf} {hall k:Int} (h:k∈oth c hall):(1≤k∧k≤c.H)∧k≠hall:=by
 obtain ⟨h1,h2⟩:=List.mem_filter.1 h
 have:=rngH_mem.1 h1
 exact ⟨by omega,by simpa using h2⟩
theorem oth_len {c:Cf} (hc:c.Ok) (hall:Int):(oth c hall).length≤16:=hallsL_len hc _
theorem oth_it (c:Cf) (hc:c.Ok) (b:Brd) (hall:Int):Iter Tryz.prog 126 [] [.fp [stV c b] 0,.fp [.clo (.func 118) [] [.fp [.int .i64 hall] 0]] 0] (itemsI (oth c hall)) :=
 it126 c hc b 118 [] [.fp [.int .i64 hall] 0] (by simp) (by simp [V.atom]) (fun k=>decide (k≠hall)) (fun k _=>k118 hall k)
def HpP (sv:V) (hall:Int) (gv:V):List Ln→Nat × Nat→Hp
 | [],_=>((((Hp.put (fun _=>none) 0 { cells:=[sv],sz:=1 }).put 8 { cells:=[.int .i64 hall],sz:=1,fz:=max 0 1 }).put 16 { cells:=[gv],sz:=1 }).put 32 { cells:=[.nils],sz:=1 }).put 48 { cells:=[.clo (.func 117) [] [.ptr 32 0 0,.ptr 8 0 0]],sz:=1 }
 | x::l,(id,ver)=>(((((Hp.put (fun _=>none) 0 { cells:=[sv],sz:=1 }).put 8 { cells:=[.int .i64 hall],sz:=1,fz:=max 0 1 }).put 16 { cells:=[gv],sz:=1 }).put 32 { cells:=[.ref id ver 0 (l.length+1)],sz:=1 }).put 48 { cells:=[.clo (.func 117) [] [.ptr 32 0 0,.ptr 8 0 0]],sz:=1 }).put id { cells:=linN (x::l),sz:=4,ver:=ver }
def gotM (got:List Int) (k:Int):Int:=got.getD (k - 1).toNat (-1)
theorem gotM_get {got:List Int} {k:Int} (h:(k - 1).toNat < got.length):got[(k - 1).toNat] = gotM got k:=by
 unfold gotM;rw [List.getD_eq_getElem?_getD,List.getElem?_eq_getElem h];rfl
theorem hd1 {H:Hp} {a b top:Nat} {x u v:Ob} (h1:H a = some x) (hb:top≤b∨∃ y,H b = some y):∀ j,j < top→H j = none→((H.put a u).put b v) j = none:=fun j hj hn=>by
 have e1:j≠a:=fun e=>by rw [e,h1] at hn;cases hn
 have e2:j≠b:=fun e=>by
  rcases hb with h | ⟨y,h⟩
  ·omega
  ·rw [e,h] at hn;cases hn
 rw [put_ne e2,put_ne e1,hn]
def post1 (c:Cf) (b:Brd) (hall:Int) (got:List Int) (k:Int):List Ln:=if (b.deal c k).isSome && !fitsM c b k hall (gotM got k) then [⟨hall,2,k,[]⟩] else []
set_option maxRecDepth 10000 in
set_option maxHeartbeats 1000000 in
theorem k59_0 (c:Cf) (hc:c.Ok) (b:Brd) (hall:Int) (poly:List Int) (hp:polyE c.P poly = 0) (hpl:poly.length < 2 ^ 20) (gv:V) (hgv:FzS gv):PureC Tryz.prog 59 [stV c b,.int .i64 hall,slI poly,gv,.int .i64 0] (fun r=>r = .own (linN [⟨hall,1,0,comM c.R c.G poly⟩]) 1 4):=by
 have hcl:(comM c.R c.G poly).length = poly.length:=by simp [comM]
 have c1:PureC Tryz.prog 119 [grp c.R c.P c.G,slI poly] (fun r=>r = .tup [.own ((comM c.R c.G poly).map (V.int .i64)) (comM c.R c.G poly).length 1,.int .i64 0]):=by rw [hcl];exact k119 hc.1 poly _ rfl (by omega) hp
 have hN:linN [⟨hall,1,0,comM c.R c.G poly⟩] = [.int .i64 hall,.int .i64 1,.int .i64 0,slI (comM c.R c.G poly)]:=rfl
 refine pureC_of_wp (.s 4) mixed ok59 rfl ?_
 unfold c59
 dsimp only [argE]
 rcases hgv with rfl | ⟨cs,n,rfl⟩
 all_goals
  refine W.run ?_
  refine W.ref (k117n _ _ 32 8 _ 0 hall 1 0 (slI (comM c.R c.G poly)) (.inr ⟨_,_,rfl⟩) rfl rfl (by omega) (fun j hj=>by simp only [Hp.put];repeat (rw [if_neg (by omega)]))) (by omega) (fun j hj hn=>by simp only [Hp.put] at hn ⊢;rw [if_neg (by omega)];split <;> simp_all) ?_
  refine W.run ?_
  rw [hN]
set_option maxRecDepth 10000 in
set_option maxHeartbeats 1000000 in
theorem k59_1 (c:Cf) (hc:c.Ok) (b:Brd) (hb:b.Ok) (hall:Int) (hh:1≤hall∧hall≤c.H) (poly got:List Int) (hgl:(got.length:Int) = c.H):PureC Tryz.prog 59 [stV c b,.int .i64 hall,slI poly,slI got,.int .i64 1] (fun r=>r = .own (linN ((oth c hall).flatMap (post1 c b hall got))) ((oth c hall).flatMap (post1 c b hall got)).length 4):=by
 have hr:=hc.rng
 have hit:=oth_it c hc b hall
 have hLlen:=oth_len hc hall
 have hLm:=fun k=>oth_mem (c:=c) (hall:=hall) (k:=k)
 have c1:=k77 c b 118 [] [.fp [.int .i64 hall] 0] (by simp) (by simp [V.atom])
 have c2:=fun k hk=>k79 c hc b hb k hk
 have c3:=fun k hk=>k81 c hc b hb k hall (gotM got k) hk
 clear hc hb
 generalize oth c hall = L at hit hLlen hLm
 refine pureC_of_wp (.s 4) mixed ok59 rfl ?_
 unfold c59
 dsimp only [argE]
 refine W.run ?_
 refine W.rfi2 hit YEx.none rfl (fun vs hvs=>?_) (fun x:List Ln × Nat × Nat=>HpP (stV c b) hall (slI got) x.1 x.2)
  (fun i x n=>x.1 = (L.take i).flatMap (post1 c b hall got)∧x.1.length≤i∧InvO 144 x.1 x.2 n) (fun i x n n' hx hn=>⟨hx.1,hx.2.1,hx.2.2.mono hn⟩) ([],0,0) (HS.refl _) ⟨rfl,by simp,by simp [InvO]⟩ ?_ ?_ ?_
 ·obtain ⟨i,hi,rfl⟩:=List.getElem_of_mem hvs
  simp [itemsI]
 ·rintro i ⟨l,id,ver⟩ n ⟨_,_,hI⟩
  cases l with
  | nil=>simp [HpP,Hp.put]
  | cons x l =>
   have:=hI.2 (by simp)
   dsimp only at this
   simp only [HpP,Hp.put];rw [if_neg (by omega)];simp
 ·rintro i vs ⟨l,id,ver⟩ n hi ⟨hx,hxl,hI⟩ hn
  dsimp only at hx hxl hI hi ⊢
  obtain ⟨hi1,-⟩:=List.getElem?_eq_some_iff.1 hi
  rw [show (itemsI L).length = L.length by simp [itemsI]] at hi1
  rw [itemsI_get hi1,Option.some.injEq] at hi
  subst hi
  dsimp only [putL]
  have hkr:=hLm _ (List.getElem_mem hi1)
  have c4:=c2 L[i] (by omega)
  have c5:=c3 L[i] (by omega)
  have hgi:(L[i] - 1).toNat < got.length:=by omega
  rw [← gotM_get hgi] at c5
  have hsn:(L.take (i+1)).flatMap (post1 c b hall got) = l++post1 c b hall got L[i]:=by
   rw [← List.take_append_getElem hi1,List.flatMap_append,← hx];simp
  unfold post1 at hsn
  rw [← gotM_get hgi] at hsn
  clear hit hLm c2 c3
  have hadd:∀ q,((b.deal c L[i]).isSome && !fitsM c b L[i] hall got[(L[i] - 1).toNat]) = q→(L.take (i+1)).flatMap (post1 c b hall got) = if q then l++[⟨hall,2,L[i],[]⟩] else l:=fun q hq=>by
   refine hsn.trans ?_
   rw [hq];cases q <;> simp
  clear hsn
  have hkeep:((b.deal c L[i]).isSome && !fitsM c b L[i] hall got[(L[i] - 1).toNat]) = false→l = (L.take (i+1)).flatMap (post1 c b hall got)∧l.length≤i+1:=fun h=>⟨by rw [hadd false h];rfl,by omega⟩
  have hmore:((b.deal c L[i]).isSome && !fitsM c b L[i] hall got[(L[i] - 1).toNat]) = true→l++[⟨hall,2,L[i],[]⟩] = (L.take (i+1)).flatMap (post1 c b hall got)∧(l++[(⟨hall,2,L[i],[]⟩:Ln)]).length≤i+1:=fun h=>⟨by rw [hadd true h];rfl,by simp;omega⟩
  clear hadd hx
  cases l with
  | nil =>
   dsimp only [HpP]
   cases hd:(b.deal c L[i]).isSome
   ·rw [hd] at c4 hkeep
    have ha:=hkeep rfl
    refine W.run ?_
    refine W.kasg2 (by simp (disch:=omega) only [put_same,put_ne,ne_eq]) rfl ?_
    refine W.run ?_
    exact W.kitr2 ([],id,ver) (HS.p (HS.p (HS.p (HS.p (HS.p (HS.p (HS.emp _))))))) ⟨ha.1,ha.2,hI.mono (by omega)⟩ (by omega)
   ·rw [hd] at c4 hkeep hmore
    cases hf:fitsM c b L[i] hall got[(L[i] - 1).toNat]
    ·rw [hf] at c5 hmore
     have ha:=hmore rfl
     refine W.run ?_
     refine W.kasg2 (by simp (disch:=omega) only [put_same,put_ne,ne_eq]) rfl ?_
     refine W.run ?_
     refine W.ref (k117n _ _ 32 8 _ 1 hall 2 L[i] .nils (.inl rfl) rfl rfl (by omega) (fun j hj=>by simp only [Hp.put];repeat (rw [if_neg (by omega)]))) (by omega) (fun j hj hn=>by simp only [Hp.put] at hn ⊢;rw [if_neg (by omega)];split <;> simp_all) ?_
     refine W.run ?_
     refine W.kitr2 ([]++[⟨hall,2,L[i],[]⟩],n+152+56,0) ?_ ⟨ha.1,ha.2,by simp,fun _=>by dsimp only;omega⟩ (by omega)
     dsimp only [HpP,List.nil_append]
     exact HS.p (HS.p (HS.p (HS.p (HS.p (HS.p (HS.p (HS.emp _)))))))
    ·rw [hf] at c5 hkeep
     have ha:=hkeep rfl
     refine W.run ?_
     refine W.kasg2 (by simp (disch:=omega) only [put_same,put_ne,ne_eq]) rfl ?_
     refine W.run ?_
     exact W.kitr2 ([],id,ver) (HS.p (HS.p (HS.p (HS.p (HS.p (HS.p (HS.emp _))))))) ⟨ha.1,ha.2,hI.mono (by omega)⟩ (by omega)
  | cons x l =>
   have hq:=hI.2 (by simp)
   dsimp only at hq
   dsimp only [HpP]
   cases hd:(b.deal c L[i]).isSome
   ·rw [hd] at c4 hkeep
    have ha:=hkeep rfl
    refine W.run ?_
    refine W.kasg2 (by simp (disch:=omega) only [put_same,put_ne,ne_eq]) rfl ?_
    refine W.run ?_
    exact W.kitr2 (x::l,id,ver) (HS.p (HS.p (HS.p (HS.p (HS.p (HS.p (HS.p (HS.emp _)))))))) ⟨ha.1,ha.2,hI.mono (by omega)⟩ (by omega)
   ·rw [hd] at c4 hkeep hmore
    cases hf:fitsM c b L[i] hall got[(L[i] - 1).toNat]
    ·rw [hf] at c5 hmore
     have ha:=hmore rfl
     refine W.run ?_
     refine W.kasg2 (by simp (disch:=omega) only [put_same,put_ne,ne_eq]) rfl ?_
     refine W.run ?_
     refine W.ref (k117c _ _ 32 8 _ 1 id ver (l.length+1) (linN (x::l)) hall 2 L[i] .nils (.inl rfl) (by simp (disch:=omega) only [put_same,put_ne,ne_eq] <;> rfl) (by simp (disch:=omega) only [put_same,put_ne,ne_eq]) (by simp (disch:=omega) only [put_same,put_ne,ne_eq]) (by rw [linN_len];rfl) (by have:=hI.1;simp at this;omega) (by omega) (fun j hj=>by simp (disch:=omega) only [put_ne,ne_eq])) (by omega) (hd1 (by simp (disch:=omega) only [put_same,put_ne,ne_eq];rfl) (.inr ⟨_,by simp (disch:=omega) only [put_same,put_ne,ne_eq];rfl⟩)) ?_
     refine W.run ?_
     refine W.kitr2 (x::l++[⟨hall,2,L[i],[]⟩],id,ver+1) ?_ ⟨ha.1,ha.2,by have h9:=ha.2;dsimp only;omega,fun _=>by dsimp only;omega⟩ (by omega)
     have e:linN (x::l)++[V.int .i64 hall,.int .i64 2,.int .i64 L[i],.nils] = linN (x::(l++[⟨hall,2,L[i],[]⟩])):=(linN_snoc (x::l) ⟨hall,2,L[i],[]⟩).symm
     dsimp only [HpP,List.cons_append]
     rw [e,show (l++[(⟨hall,2,L[i],[]⟩:Ln)]).length = l.length+1 by simp]
     exact HS.p (HS.p (HS.p (HS.p (HS.p (HS.p (HS.p (HS.emp _)))))))
    ·rw [hf] at c5 hkeep
     have ha:=hkeep rfl
     refine W.run ?_
     refine W.kasg2 (by simp (disch:=omega) only [put_same,put_ne,ne_eq]) rfl ?_
     refine W.run ?_
     exact W.kitr2 (x::l,id,ver) (HS.p (HS.p (HS.p (HS.p (HS.p (HS.p (HS.p (HS.emp _)))))))) ⟨ha.1,ha.2,hI.mono (by omega)⟩ (by omega)
 ·rintro ⟨l,id,ver⟩ n ⟨hx,hxl,hI⟩ hn
  rw [show (itemsI L).length = L.length by simp [itemsI],List.take_length] at hx
  dsimp only at hx hI ⊢
  rw [← hx]
  clear hit hLm c1 c2 c3 hx
  cases l with
  | nil =>
   dsimp only [HpP]
   refine W.run ?_
   rfl
  | cons x l =>
   have hq:=hI.2 (by simp)
   dsimp only at hq
   have h3:=hI.1
   have hl:=linN_len (x::l)
   have hat:=linN_atoms (x::l)
   have hll:(x::l).length = l.length+1:=rfl
   rw [hll] at hl h3 ⊢
   dsimp only [HpP]
   refine W.run ?_
   rfl
end Go.Dp
