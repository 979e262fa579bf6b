import Derived.Test.YtlbjgnkjicifhaaGreatDwC10
namespace Go.Dp
open Go.RowKit Go.Proofs
attribute [local irreducible] wp wpOps wpOp1 CallW CallT kSeq kBlk kLoop kReg retP retR kAsg kRound kRf kCut kItr kItr2
set_option linter.unusedVariables false
set_option linter.unusedSimpArgs false
theorem secM_rng {c:Cf} (hc:c.Ok) {b:Brd} {h n:Int} (e:secM c b h = some n):0≤n∧n < c.P:=by
 have hP:=hc.1.hP
 unfold secM at e
 split at e
 ·rename_i s hs
  cases e
  unfold revS at hs
  rw [Option.map_eq_some_iff] at hs
  obtain ⟨x,hx,rfl⟩:=hs
  have h1:=List.find?_some hx
  simp only [revR,Bool.and_eq_true,decide_eq_true_eq] at h1
  have h2:=polyE_rng h1.1.2.1
  have h3:=polyE_len h1.1.2.1
  rw [headD_get (by omega)]
  exact h2 _ (List.getElem_mem _)
 ·split at e
  ·cases e
  ·cases e;exact valM_rng (by omega) _
def sumS (c:Cf) (b:Brd):List Int→Int × Bool→Option (Int × Bool)
 | [],a=>some a
 | h::l,a=>match secM c b h with
  | some n=>sumS c b l ((a.1+n) % c.P,true)
  | none=>none
def sumM (c:Cf) (b:Brd):Int × Bool:=(sumS c b (hallsL c (isInM c b)) (0,false)).getD (0,false)
set_option maxRecDepth 10000 in
set_option maxHeartbeats 1000000 in
theorem k62 (c:Cf) (hc:c.Ok) (b:Brd) (hb:b.Ok):PureC Tryz.prog 62 [stV c b] (fun r=>r = .tup [.int .i64 (sumM c b).1,.bool (sumM c b).2]):=by
 have hr:=hc.rng
 have hP:=hc.1.hP
 have c1:=k77 c b 74 [stV c b] [] (by simp [V.atom]) (by simp)
 have hit:=it126 c hc b 74 [stV c b] [] (by simp [V.atom]) (by simp) (isInM c b) (fun h hh=>k74 c hc b hb h (by omega))
 have hLlen:=hallsL_len hc (isInM c b)
 have hLm:∀ k∈hallsL c (isInM c b),1≤k∧k≤c.H:=fun k hk=>by have:=rngH_mem.1 (List.mem_filter.1 hk).1;omega
 have c2:=fun h hh=>k89 c hc b hb h hh
 have hsr:=fun h n=>secM_rng hc (b:=b) (h:=h) (n:=n)
 unfold sumM
 clear hc hb
 generalize hallsL c (isInM c b) = L at hit hLlen hLm
 refine pureC_of_wp (.l [.x,.x]) mixed ok62 rfl ?_
 unfold c62
 dsimp only [argE]
 refine W.run ?_
 obtain ⟨E,hE⟩:∃ E,E = (sumS c b L (0,false)).getD (0,false):=⟨_,rfl⟩
 rw [← hE]
 refine W.rfi hit YEx.none rfl (fun vs hvs=>?_) (fun x:Int × Bool=>((((Hp.put (fun _=>none) 0 { cells:=[stV c b],sz:=1 }).put 8 { cells:=[.int .i64 0],sz:=1 }).put 16 { cells:=[.bool false],sz:=1 }).put 24 { cells:=[.int .i64 x.1],sz:=1 }).put 32 { cells:=[.bool x.2],sz:=1 })
  (fun i x=>E = (sumS c b (L.drop i) x).getD (0,false)∧0≤x.1∧x.1 < c.P) (0,false) (HS.refl _) ⟨hE,by dsimp only;omega,by dsimp only;omega⟩ ?_ ?_ ?_
 ·obtain ⟨i,hi,rfl⟩:=List.getElem_of_mem hvs
  simp [itemsI]
 ·rintro i x _
  simp [Hp.put]
 ·rintro i vs ⟨s,t⟩ n hi ⟨hx,hx1,hx2⟩ hn
  dsimp only at hx hx1 hx2 ⊢
  obtain ⟨hi1,-⟩:=List.getElem?_eq_some_iff.1 hi
  rw [show (itemsI L).length = L.length by simp [itemsI]] at hi1
  rw [itemsI_get hi1,Option.some.injEq] at hi
  subst hi
  dsimp only [putL]
  have c3:=c2 L[i] (hLm _ (List.getElem_mem hi1))
  have hsr':=hsr L[i]
  rw [List.drop_eq_getElem_cons hi1] at hx
  simp only [sumS] at hx
  clear hit hLm c2 hE hsr
  cases hs:secM c b L[i] with
  | none =>
   rw [hs] at c3 hx
   simp only [Option.getD_none] at hx
   simp only [Option.getD_none,Option.isSome_none] at c3
   subst hx
   refine W.run ?_
   refine W.kasg ?_
   refine W.run ?_
   refine W.kitrR _ (HS.refl _) (by simp [Hp.put]) fun m hm=>?_
   refine W.run ?_
   rfl
  | some m =>
   rw [hs] at c3 hx
   have hm:=hsr' m hs
   simp only [Option.getD_some,Option.isSome_some] at c3
   simp only at hx
   have hmod:=emod_rng (a:=s+m) (P:=c.P) (by omega)
   refine W.run ?_
   refine W.kasg ?_
   refine W.run ?_
   exact W.kitr ((s+m) % c.P,true) (HS.refl _) ⟨hx,hmod⟩ (by omega)
 ·rintro ⟨s,t⟩ n ⟨hx,hx1,hx2⟩ hn
  rw [show (itemsI L).length = L.length by simp [itemsI],List.drop_length] at hx
  simp only [sumS,Option.getD_some] at hx
  subst hx
  clear hit hE
  refine W.run ?_
  rfl
def sumQ (c:Cf) (b:Brd):Int × Int:=if (sumM c b).2 then ((sumM c b).1,0) else (0,4)
theorem k24 (c:Cf) (hc:c.Ok) (b:Brd) (hb:b.Ok):PureC Tryz.prog 24 [c.v,bdV b] (fun r=>r = if b.fits 400 then .tup [.int .i64 (sumQ c b).1,.int .i64 (sumQ c b).2] else .tup [.int .i64 0,.int .i64 2]):=by
 have c1:=k51b hc 400 (by omega) b hb
 have c2:=k58 c hc b hb
 have c3:=k62 c hc b hb
 clear hc
 refine pureC_of_wp (.l [.x,.x]) mixed ok24 rfl ?_
 unfold c24 sumQ
 dsimp only [argE,Cf.v,cfgV]
 cases hf:b.fits 400
 ·rw [hf] at c1
  refine W.run ?_
  rfl
 ·rw [hf] at c1
  cases hs:(sumM c b).2
  ·rw [hs] at c3
   refine W.run ?_
   rfl
  ·rw [hs] at c3
   refine W.run ?_
   rfl
theorem sumS_rng {c:Cf} (hP:0 < c.P) {b:Brd}:∀ (l:List Int) (a:Int × Bool) (r:Int × Bool),0≤a.1∧a.1 < c.P→sumS c b l a = some r→0≤r.1∧r.1 < c.P
 | [],a,r,h,e=>by simp only [sumS,Option.some.injEq] at e;exact e ▸ h
 | x::l,a,r,h,e=>by
  simp only [sumS] at e
  split at e
  ·exact sumS_rng hP l _ r (emod_rng hP) e
  ·cases e
theorem sumM_rng {c:Cf} (hc:c.Ok) (b:Brd):0≤(sumM c b).1∧(sumM c b).1 < c.P:=by
 have hP:=hc.1.hP
 unfold sumM
 cases e:sumS c b (hallsL c (isInM c b)) (0,false) with
 | none=>simp;omega
 | some r=>exact sumS_rng (by omega) _ _ r (by dsimp only;omega) e
def ballR (c:Cf) (b:Brd):Int × Int:=if (sumM c b).2 then (1+(sumM c b).1 % c.K,0) else (0,4)
theorem k31 (c:Cf) (hc:c.Ok) (b:Brd) (hb:b.Ok):PureC Tryz.prog 31 [c.v,bdV b] (fun r=>r = if b.fits 400 then .tup [.int .i64 (ballR c b).1,.int .i64 (ballR c b).2] else .tup [.int .i64 0,.int .i64 2]):=by
 have c1:=k24 c hc b hb
 have hK:1≤c.K∧c.K≤90:=hc.2.2.2
 have hrg:=sumM_rng hc b
 have hP:=hc.1.hP
 have hm:=emod_rng (a:=(sumM c b).1) (P:=c.K) (by omega)
 clear hc
 unfold sumQ at c1
 refine pureC_of_wp (.l [.x,.x]) mixed ok31 rfl ?_
 unfold c31 ballR
 dsimp only [argE,Cf.v,cfgV]
 cases hf:b.fits 400
 ·rw [hf] at c1
  refine W.run ?_
  rfl
 ·rw [hf] at c1
  cases hs:(sumM c b).2
  ·rw [hs] at c1
   refine W.run ?_
   rfl
  ·rw [hs] at c1
   refine W.run ?_
   rfl
theorem put_self {H:Hp} {o:Nat} {ob:Ob} (h:H o = some ob):H.put o ob = H:=by
 funext i;simp only [Hp.put];split
 ·rename_i e;rw [e,h]
 ·rfl
def FzS (v:V):Prop:=v = .nils∨∃ cs n,v = .sl cs n
theorem k117n (Y:Ys) (H:Hp) (oo oh top z:Nat) (hall kind other:Int) (nv:V) (hnv:FzS nv) (h1:H oh = some { cells:=[.int .i64 hall],sz:=1,fz:=z }) (h2:H oo = some { cells:=[.nils],sz:=1 }) (hlt:oh < oo∧oo < top) (hfr:∀ j,top≤j→H j = none) :
  RefC Tryz.prog Y 117 [.int .i64 kind,.int .i64 other,nv,.ptr oo 0 0,.ptr oh 0 0] H top (fun r H' t=>r = .tup []∧H' = (H.put oo { cells:=[.ref (top+56) 0 0 1],sz:=1 }).put (top+56) { cells:=[.int .i64 hall,.int .i64 kind,.int .i64 other,nv],sz:=4 }∧t = top+72):=by
 have hH:H = (H.put oh { cells:=[.int .i64 hall],sz:=1,fz:=z }).put oo { cells:=[.nils],sz:=1 }:=by rw [put_self h1,put_self h2]
 rw [hH]
 clear h1 h2 hH
 refine refC_of_wp mixed ok117 rfl ?_
 unfold c117
 dsimp only [argE]
 rcases hnv with rfl | ⟨cs,n,rfl⟩
 all_goals
  refine W.run ?_
  refine W.retRn rfl ?_ ⟨rfl,rfl,rfl⟩
  rw [put_put]
  exact HS.put rfl (HS.skip (HS.refl _) (by rw [put_ne (by omega),put_ne (by omega),hfr _ (by omega)]) _)
theorem k117c (Y:Ys) (H:Hp) (oo oh top z id ver n:Nat) (cells:List V) (hall kind other:Int) (nv:V) (hnv:FzS nv) (h1:H oh = some { cells:=[.int .i64 hall],sz:=1,fz:=z }) (h2:H oo = some { cells:=[.ref id ver 0 n],sz:=1 }) (h3:H id = some { cells:=cells,sz:=4,ver:=ver }) (hl:cells.length = n * 4) (hn:n < 2 ^ 20) (hlt:oh < oo∧oo < id∧id < top) (hfr:∀ j,top≤j→H j = none) :
  RefC Tryz.prog Y 117 [.int .i64 kind,.int .i64 other,nv,.ptr oo 0 0,.ptr oh 0 0] H top (fun r H' t=>r = .tup []∧H' = (H.put oo { cells:=[.ref id (ver+1) 0 (n+1)],sz:=1 }).put id { cells:=cells++[.int .i64 hall,.int .i64 kind,.int .i64 other,nv],sz:=4,ver:=ver+1 }∧t = top+72):=by
 have hH:H = ((H.put oh { cells:=[.int .i64 hall],sz:=1,fz:=z }).put oo { cells:=[.ref id ver 0 n],sz:=1 }).put id { cells:=cells,sz:=4,ver:=ver }:=by rw [put_self h1,put_self h2,put_self h3]
 rw [hH]
 clear h1 h2 h3 hH
 have ht:cells.take (n * 4) = cells:=by rw [← hl,List.take_length]
 refine refC_of_wp mixed ok117 rfl ?_
 unfold c117
 dsimp only [argE]
 rcases hnv with rfl | ⟨cs,m,rfl⟩
 all_goals
  refine W.run ?_
  refine W.retRn rfl ?_ ⟨rfl,rfl,rfl⟩
  rw [put_swap (show oo < id by omega),put2_eq,put_put,put_put]
  exact HS.skip (HS.refl _) (by rw [put_ne (by omega),put_ne (by omega),put_ne (by omega),hfr _ (by omega)]) _
def nvL (x:Ln):V:=if x.kind = 2 then .nils else slI x.nums
theorem nvL_atom (x:Ln):(nvL x).atom = true:=by unfold nvL;split <;> rfl
def linN (L:List Ln):List V:=lnsC (L.map fun x=>(x,nvL x))
theorem linN_len (L:List Ln):(linN L).length = L.length * 4:=by rw [linN,lnsC_len,List.length_map];omega
theorem lnsC_app:∀ (l m:List (Ln × V)),lnsC (l++m) = lnsC l++lnsC m
 | [],m=>rfl
 | x::l,m=>by simp [lnsC,lnsC_app l m]
theorem linN_snoc (L:List Ln) (x:Ln):linN (L++[x]) = linN L++[.int .i64 x.hall,.int .i64 x.kind,.int .i64 x.other,nvL x]:=by
 rw [linN,List.map_append,lnsC_app];simp [lnsC,linN]
theorem lnsC_atoms:∀ (l:List (Ln × V)),(∀ p∈l,p.2.atom = true)→∀ v∈lnsC l,v.atom = true
 | [],_,v,h=>by simp [lnsC] at h
 | x::l,hl,v,h=>by
  simp only [lnsC,List.mem_append,List.mem_cons,List.not_mem_nil,or_false] at h
  rcases h with (rfl | rfl | rfl | rfl) | h
  ·rfl
  ·rfl
  ·rfl
  ·exact hl x (by simp)
  ·exact lnsC_atoms l (fun p hp=>hl p (by simp [hp])) v h
theorem linN_atoms (L:List Ln):∀ v∈linN L,v.atom = true:=lnsC_atoms _ fun p hp=>by
 obtain ⟨x,_,rfl⟩:=List.mem_map.1 hp
 exact nvL_atom x
def InvO (lo:Nat) (L:List Ln) (q:Nat × Nat) (n:Nat):Prop:=L.length < 2 ^ 19∧(L≠[]→lo < q.1∧q.1 < n)
theorem InvO.mono {lo n n':Nat} {L:List Ln} {q:Nat × Nat} (h:InvO lo L q n) (hn:n≤n'):InvO lo L q n':=⟨h.1,fun h2=>by have:=h.2 h2;omega⟩
end Go.Dp
