import Derived.Test.YtlbjgnkjicifhaaGreatDwC10
namespace Go.Dp
open Go.RowKit Go.Proofs
attribute [local irreducible] wp wpOps wpOp1 CallW CallT kSeq kBlk kLoop kReg retP retR kAsg kRound kRf kCut kItr kItr2
set_option linter.unusedVariables false
set_option linter.unusedSimpArgs false
theorem secM_rng {c:Cf} (hc:c.Ok) {b:Brd} {h n:Int} (e:secM c b h = some n):0≤n∧n < c.P:=by
 have hP:=hc.1.hP
 unfold secM at e
 split at e
 ·rename_i s hs
  cases e
  unfold revS at hs
  rw [Option.map_eq_some_iff] at hs
  obtain ⟨x,hx,rfl⟩:=hs
  have h1:=List.find?_some hx
  simp only [revR,Bool.and_eq_true,decide_eq_true_eq] at h1
  have h2:=polyE_rng h1.1.2.1
  have h3:=polyE_len h1.1.2.1
  rw [headD_get (by omega)]
  exact h2 _ (List.getElem_mem _)
 ·split at e
  ·cases e
  ·cases e;exact valM_rng (by omega) _
def sumS (c:Cf) (b:Brd):List Int→Int × Bool→Option (Int × Bool)
 | [],a=>some a
 | h::l,a=>match secM c b h with
  | some n=>sumS c b l ((a.1+n) % c.P,true)
  | none=>none
def sumM (c:Cf) (b:Brd):Int × Bool:=(sumS c b (hallsL c (isInM c b)) (0,false)).getD (0,false)
set_option maxRecDepth 10000 in
set_option maxHeartbeats 1000000 in
theorem k62 (c:Cf) (hc:c.Ok) (b:Brd) (hb:b.Ok):PureC Tryz.prog 62 [stV c b] (fun r=>r = .tup [.int .i64 (sumM c b).1,.bool (sumM c b).2]):=by
 have hr:=hc.rng
 have hP:=hc.1.hP
 have c1:=k77 c b 74 [stV c b] [] (by simp [V.atom]) (by simp)
 have hit:=it126 c hc b 74 [stV c b] [] (by simp [V.atom]) (by simp) (isInM c b) (fun h hh=>k74 c hc b hb h (by omega))
 have hLlen:=hallsL_len hc (isInM c b)
 have hLm:∀ k∈hallsL c (isInM c b),1≤k∧k≤c.H:=fun k hk=>by have:=rngH_mem.1 (List.mem_filter.1 hk).1;omega
 have c2:=fun h hh=>k89 c hc b hb h hh
 have hsr:=fun h n=>secM_rng hc (b:=b) (h:=h) (n:=n)
 unfold sumM
 clear hc hb
 generalize hallsL c (isInM c b) = L at hit hLlen hLm
 refine pureC_of_wp (.l [.x,.x]) mixed ok62 rfl ?_
 unfold c62
 dsimp only [argE]
 refine W.run ?_
 obtain ⟨E,hE⟩:∃ E,E = (sumS c b L (0,false)).getD (0,false):=⟨_,rfl⟩
 rw [← hE]
 refine W.rfi hit YEx.none rfl (fun vs hvs=>?_) (fun x:Int × Bool=>((((Hp.put (fun _=>none) 0 { cells:=[stV c b],sz:=1 }).put 8 { cells:=[.int .i64 0],sz:=1 }).put 16 { cells:=[.bool false],sz:=1 }).put 24 { cells:=[.int .i64 x.1],sz:=1 }).put 32 { cells:=[.bool x.2],sz:=1 })
  (fun i x=>E = (sumS c b (L.drop i) x).getD (0,false)∧0≤x.1∧x.1 < c.P) (0,false) (HS.refl _) ⟨hE,by dsimp only;omega,by dsimp only;omega⟩ ?_ ?_ ?_
 ·obtain ⟨i,hi,rfl⟩:=List.getElem_of_mem hvs
  simp [itemsI]
 ·rintro i x _
  simp [Hp.put]
 ·rintro i vs ⟨s,t⟩ n hi ⟨hx,hx1,hx2⟩ hn
  dsimp only at hx hx1 hx2 ⊢
  obtain ⟨hi1,-⟩:=List.getElem?_eq_some_iff.1 hi
  rw [show (itemsI L).length = L.length by simp [itemsI]] at hi1
  rw [itemsI_get hi1,Option.some.injEq] at hi
  subst hi
  dsimp only [putL]
  have c3:=c2 L[i] (hLm _ (List.getElem_mem hi1))
  have hsr':=hsr L[i]
  rw [List.drop_eq_getElem_cons hi1] at hx
  simp only [sumS] at hx
  clear hit hLm c2 hE hsr
  cases hs:secM c b L[i] with
  | none =>
   rw [hs] at c3 hx
   simp only [Option.getD_none] at hx
   simp only [Option.getD_none,Option.isSome_none] at c3
   subst hx
   refine W.run ?_
   refine W.kasg ?_
   refine W.run ?_
   refine W.kitrR _ (HS.refl _) (by simp [Hp.put]) fun m hm=>?_
   refine W.run ?_
   rfl
  | some m =>
   rw [hs] at c3 hx
   have hm:=hsr' m hs
   simp only [Option.getD_some,Option.isSome_some] at c3
   simp only at hx
   have hmod:=emod_rng (a:=s+m) (P:=c.P) (by omega)
   refine W.run ?_
   refine W.kasg ?_
   refine W.run ?_
   exact W.kitr ((s+m) % c.P,true) (HS.refl _) ⟨hx,hmod⟩ (by omega)
 ·rintro ⟨s,t⟩ n ⟨hx,hx1,hx2⟩ hn
  rw [show (itemsI L).length = L.length by simp [itemsI],List.drop_length] at hx
  simp only [sumS,Option.getD_some] at hx
  subst hx
  clear hit hE
  refine W.run ?_
  rfl
def secR (c:Cf) (b:Brd) (h:Int):Int × Int:=if isHallB c.H h && isInM c b h then (match secM c b h with | some n=>(n,0) | none=>(0,4)) else (0,4)
theorem k38 (c:Cf) (hc:c.Ok) (b:Brd) (hb:b.Ok) (h:Int):PureC Tryz.prog 38 [c.v,bdV b,.int .i64 h] (fun r=>r = if b.fits 400 then .tup [.int .i64 (secR c b h).1,.int .i64 (secR c b h).2] else .tup [.int .i64 0,.int .i64 2]):=by
 have hr:=hc.rng
 have c1:=k51b hc 400 (by omega) b hb
 have c2:=k58 c hc b hb
 have c3:=k65 c.R c.P c.G c.H c.B c.K h
 refine pureC_of_wp (.l [.x,.x]) mixed ok38 rfl ?_
 unfold c38 secR
 dsimp only [argE,Cf.v,cfgV]
 cases hf:b.fits 400
 ·rw [hf] at c1
  clear hc
  refine W.run ?_
  rfl
 ·rw [hf] at c1
  cases hh:isHallB c.H h
  ·rw [hh] at c3
   clear hc
   refine W.run ?_
   rfl
  ·rw [hh] at c3
   have hh2:1≤h∧h≤c.H:=by simpa [isHallB] using hh
   have c4:=k74 c hc b hb h (by omega)
   have c5:=k89 c hc b hb h hh2
   clear hc
   cases hi:isInM c b h
   ·rw [hi] at c4
    refine W.run ?_
    rfl
   ·rw [hi] at c4
    cases hs:secM c b h with
    | none =>
     rw [hs] at c5
     refine W.run ?_
     rfl
    | some n =>
     rw [hs] at c5
     refine W.run ?_
     rfl
def sumQ (c:Cf) (b:Brd):Int × Int:=if (sumM c b).2 then ((sumM c b).1,0) else (0,4)
theorem k24 (c:Cf) (hc:c.Ok) (b:Brd) (hb:b.Ok):PureC Tryz.prog 24 [c.v,bdV b] (fun r=>r = if b.fits 400 then .tup [.int .i64 (sumQ c b).1,.int .i64 (sumQ c b).2] else .tup [.int .i64 0,.int .i64 2]):=by
 have c1:=k51b hc 400 (by omega) b hb
 have c2:=k58 c hc b hb
 have c3:=k62 c hc b hb
 clear hc
 refine pureC_of_wp (.l [.x,.x]) mixed ok24 rfl ?_
 unfold c24 sumQ
 dsimp only [argE,Cf.v,cfgV]
 cases hf:b.fits 400
 ·rw [hf] at c1
  refine W.run ?_
  rfl
 ·rw [hf] at c1
  cases hs:(sumM c b).2
  ·rw [hs] at c3
   refine W.run ?_
   rfl
  ·rw [hs] at c3
   refine W.run ?_
   rfl
theorem sumS_rng {c:Cf} (hP:0 < c.P) {b:Brd}:∀ (l:List Int) (a:Int × Bool) (r:Int × Bool),0≤a.1∧a.1 < c.P→sumS c b l a = some r→0≤r.1∧r.1 < c.P
 | [],a,r,h,e=>by simp only [sumS,Option.some.injEq] at e;exact e ▸ h
 | x::l,a,r,h,e=>by
  simp only [sumS] at e
  split at e
  ·exact sumS_rng hP l _ r (emod_rng hP) e
  ·cases e
theorem sumM_rng {c:Cf} (hc:c.Ok) (b:Brd):0≤(sumM c b).1∧(sumM c b).1 < c.P:=by
 have hP:=hc.1.hP
 unfold sumM
 cases e:sumS c b (hallsL c (isInM c b)) (0,false) with
 | none=>simp;omega
 | some r=>exact sumS_rng (by omega) _ _ r (by dsimp only;omega) e
def ballR (c:Cf) (b:Brd):Int × Int:=if (sumM c b).2 then (1+(sumM c b).1 % c.K,0) else (0,4)
theorem k31 (c:Cf) (hc:c.Ok) (b:Brd) (hb:b.Ok):PureC Tryz.prog 31 [c.v,bdV b] (fun r=>r = if b.fits 400 then .tup [.int .i64 (ballR c b).1,.int .i64 (ballR c b).2] else .tup [.int .i64 0,.int .i64 2]):=by
 have c1:=k24 c hc b hb
 have hK:1≤c.K∧c.K≤90:=hc.2.2.2
 have hrg:=sumM_rng hc b
 have hP:=hc.1.hP
 have hm:=emod_rng (a:=(sumM c b).1) (P:=c.K) (by omega)
 clear hc
 unfold sumQ at c1
 refine pureC_of_wp (.l [.x,.x]) mixed ok31 rfl ?_
 unfold c31 ballR
 dsimp only [argE,Cf.v,cfgV]
 cases hf:b.fits 400
 ·rw [hf] at c1
  refine W.run ?_
  rfl
 ·rw [hf] at c1
  cases hs:(sumM c b).2
  ·rw [hs] at c1
   refine W.run ?_
   rfl
  ·rw [hs] at c1
   refine W.run ?_
   rfl
theorem put_self {H:Hp} {o:Nat} {ob:Ob} (h:H o = some ob):H.put o ob = H:=by
 funext i;simp only [Hp.put];split
 ·rename_i e;rw [e,h]
 ·rfl
def FzS (v:V):Prop:=v = .nils∨∃ cs n,v = .sl cs n
theorem k117n (Y:Ys) (H:Hp) (oo oh top z:Nat) (hall kind other:Int) (nv:V) (hnv:FzS nv) (h1:H oh = some { cells:=[.int .i64 hall],sz:=1,fz:=z }) (h2:H oo = some { cells:=[.nils],sz:=1 }) (hlt:oh < oo∧oo < top) (hfr:∀ j,top≤j→H j = none) :
  RefC Tryz.prog Y 117 [.int .i64 kind,.int .i64 other,nv,.ptr oo 0 0,.ptr oh 0 0] H top (fun r H' t=>r = .tup []∧H' = (H.put oo { cells:=[.ref (top+56) 0 0 1],sz:=1 }).put (top+56) { cells:=[.int .i64 hall,.int .i64 kind,.int .i64 other,nv],sz:=4 }∧t = top+72):=by
 have hH:H = (H.put oh { cells:=[.int .i64 hall],sz:=1,fz:=z }).put oo { cells:=[.nils],sz:=1 }:=by rw [put_self h1,put_self h2]
 rw [hH]
 clear h1 h2 hH
 refine refC_of_wp mixed ok117 rfl ?_
 unfold c117
 dsimp only [argE]
 rcases hnv with rfl | ⟨cs,n,rfl⟩
 all_goals
  refine W.run ?_
  refine W.retRn rfl ?_ ⟨rfl,rfl,rfl⟩
  rw [put_put]
  exact HS.put rfl (HS.skip (HS.refl _) (by rw [put_ne (by omega),put_ne (by omega),hfr _ (by omega)]) _)
theorem k117c (Y:Ys) (H:Hp) (oo oh top z id ver n:Nat) (cells:List V) (hall kind other:Int) (nv:V) (hnv:FzS nv) (h1:H oh = some { cells:=[.int .i64 hall],sz:=1,fz:=z }) (h2:H oo = some { cells:=[.ref id ver 0 n],sz:=1 }) (h3:H id = some { cells:=cells,sz:=4,ver:=ver }) (hl:cells.length = n * 4) (hn:n < 2 ^ 20) (hlt:oh < oo∧oo < id∧id < top) (hfr:∀ j,top≤j→H j = none) :
  RefC Tryz.prog Y 117 [.int .i64 kind,.int .i64 other,nv,.ptr oo 0 0,.ptr oh 0 0] H top (fun r H' t=>r = .tup []∧H' = (H.put oo { cells:=[.ref id (ver+1) 0 (n+1)],sz:=1 }).put id { cells:=cells++[.int .i64 hall,.int .i64 kind,.int .i64 other,nv],sz:=4,ver:=ver+1 }∧t = top+72):=by
 have hH:H = ((H.put oh { cells:=[.int .i64 hall],sz:=1,fz:=z }).put oo { cells:=[.ref id ver 0 n],sz:=1 }).put id { cells:=cells,sz:=4,ver:=ver }:=by rw [put_self h1,put_self h2,put_self h3]
 rw [hH]
 clear h1 h2 h3 hH
 have ht:cells.take (n * 4) = cells:=by rw [← hl,List.take_length]
 refine refC_of_wp mixed ok117 rfl ?_
 unfold c117
 dsimp only [argE]
 rcases hnv with rfl | ⟨cs,m,rfl⟩
 all_goals
  refine W.run ?_
  refine W.retRn rfl ?_ ⟨rfl,rfl,rfl⟩
  rw [put_swap (show oo < id by omega),put2_eq,put_put,put_put]
  exact HS.skip (HS.refl _) (by rw [put_ne (by omega),put_ne (by omega),put_ne (by omega),hfr _ (by omega)]) _
def nvL (x:Ln):V:=if x.kind = 2 then .nils else slI x.nums
theorem nvL_atom (x:Ln):(nvL x).atom = true:=by unfold nvL;split <;> rfl
def linN (L:List Ln):List V:=lnsC (L.map fun x=>(x,nvL x))
theorem linN_len (L:List Ln):(linN L).length = L.length * 4:=by rw [linN,lnsC_len,List.length_map];omega
theorem lnsC_app:∀ (l m:List (Ln × V)),lnsC (l++m) = lnsC l++lnsC m
 | [],m=>rfl
 | x::l,m=>by simp [lnsC,lnsC_app l m]
theorem linN_snoc (L:List Ln) (x:Ln):linN (L++[x]) = linN L++[.int .i64 x.hall,.int .i64 x.kind,.int .i64 x.other,nvL x]:=by
 rw [linN,List.map_append,lnsC_app];simp [lnsC,linN]
theorem lnsC_atoms:∀ (l:List (Ln × V)),(∀ p∈l,p.2.atom = true)→∀ v∈lnsC l,v.atom = true
 | [],_,v,h=>by simp [lnsC] at h
 | x::l,hl,v,h=>by
  simp only [lnsC,List.mem_append,List.mem_cons,List.not_mem_nil,or_false] at h
  rcases h with (rfl | rfl | rfl | rfl) | h
  ·rfl
  ·rfl
  ·rfl
  ·exact hl x (by simp)
  ·exact lnsC_atoms l (fun p hp=>hl p (by simp [hp])) v h
theorem linN_atoms (L:List Ln):∀ v∈linN L,v.atom = true:=lnsC_atoms _ fun p hp=>by
 obtain ⟨x,_,rfl⟩:=List.mem_map.1 hp
 exact nvL_atom x
def InvO (lo:Nat) (L:List Ln) (q:Nat × Nat) (n:Nat):Prop:=L.length < 2 ^ 19∧(L≠[]→lo < q.1∧q.1 < n)
theorem InvO.mono {lo n n':Nat} {L:List Ln} {q:Nat × Nat} (h:InvO lo L q n) (hn:n≤n'):InvO lo L q n':=⟨h.1,fun h2=>by have:=h.2 h2;omega⟩
theorem k118 (h k:Int):PureC Tryz.prog 118 [.int .i64 k,.fp [.int .i64 h] 0] (fun r=>r = .bool (decide (k≠h))):=by
 refine pureC_of_wp .x mixed ok118 rfl ?_
 unfold c118
 dsimp only [argE]
 refine W.run ?_
 rfl
def oth (c:Cf) (hall:Int):List Int:=hallsL c fun k=>decide (k≠hall)
theorem oth_mem {c:Cf} {hall k:Int} (h:k∈oth c hall):(1≤k∧k≤c.H)∧k≠hall:=by
 obtain ⟨h1,h2⟩:=List.mem_filter.1 h
 have:=rngH_mem.1 h1
 exact ⟨by omega,by simpa using h2⟩
theorem oth_len {c:Cf} (hc:c.Ok) (hall:Int):(oth c hall).length≤16:=hallsL_len hc _
theorem oth_it (c:Cf) (hc:c.Ok) (b:Brd) (hall:Int):Iter Tryz.prog 126 [] [.fp [stV c b] 0,.fp [.clo (.func 118) [] [.fp [.int .i64 hall] 0]] 0] (itemsI (oth c hall)) :=
 it126 c hc b 118 [] [.fp [.int .i64 hall] 0] (by simp) (by simp [V.atom]) (fun k=>decide (k≠hall)) (fun k _=>k118 hall k)
def HpP (sv:V) (hall:Int) (gv:V):List Ln→Nat × Nat→Hp
 | [],_=>((((Hp.put (fun _=>none) 0 { cells:=[sv],sz:=1 }).put 8 { cells:=[.int .i64 hall],sz:=1,fz:=max 0 1 }).put 16 { cells:=[gv],sz:=1 }).put 32 { cells:=[.nils],sz:=1 }).put 48 { cells:=[.clo (.func 117) [] [.ptr 32 0 0,.ptr 8 0 0]],sz:=1 }
 | x::l,(id,ver)=>(((((Hp.put (fun _=>none) 0 { cells:=[sv],sz:=1 }).put 8 { cells:=[.int .i64 hall],sz:=1,fz:=max 0 1 }).put 16 { cells:=[gv],sz:=1 }).put 32 { cells:=[.ref id ver 0 (l.length+1)],sz:=1 }).put 48 { cells:=[.clo (.func 117) [] [.ptr 32 0 0,.ptr 8 0 0]],sz:=1 }).put id { cells:=linN (x::l),sz:=4,ver:=ver }
def gotM (got:List Int) (k:Int):Int:=got.getD (k - 1).toNat (-1)
theorem gotM_get {got:List Int} {k:Int} (h:(k - 1).toNat < got.length):got[(k - 1).toNat] = gotM got k:=by
 unfold gotM;rw [List.getD_eq_getElem?_getD,List.getElem?_eq_getElem h];rfl
theorem hd1 {H:Hp} {a b top:Nat} {x u v:Ob} (h1:H a = some x) (hb:top≤b∨∃ y,H b = some y):∀ j,j < top→H j = none→((H.put a u).put b v) j = none:=fun j hj hn=>by
 have e1:j≠a:=fun e=>by rw [e,h1] at hn;cases hn
 have e2:j≠b:=fun e=>by
  rcases hb with h | ⟨y,h⟩
  ·omega
  ·rw [e,h] at hn;cases hn
 rw [put_ne e2,put_ne e1,hn]
def post1 (c:Cf) (b:Brd) (hall:Int) (got:List Int) (k:Int):List Ln:=if (b.deal c k).isSome && !fitsM c b k hall (gotM got k) then [⟨hall,2,k,[]⟩] else []
set_option maxRecDepth 10000 in
set_option maxHeartbeats 1000000 in
theorem k59_0 (c:Cf) (hc:c.Ok) (b:Brd) (hall:Int) (poly:List Int) (hp:polyE c.P poly = 0) (hpl:poly.length < 2 ^ 20) (gv:V) (hgv:FzS gv):PureC Tryz.prog 59 [stV c b,.int .i64 hall,slI poly,gv,.int .i64 0] (fun r=>r = .own (linN [⟨hall,1,0,comM c.R c.G poly⟩]) 1 4):=by
 have hcl:(comM c.R c.G poly).length = poly.length:=by simp [comM]
 have c1:PureC Tryz.prog 119 [grp c.R c.P c.G,slI poly] (fun r=>r = .tup [.own ((comM c.R c.G poly).map (V.int .i64)) (comM c.R c.G poly).length 1,.int .i64 0]):=by rw [hcl];exact k119 hc.1 poly _ rfl (by omega) hp
 have hN:linN [⟨hall,1,0,comM c.R c.G poly⟩] = [.int .i64 hall,.int .i64 1,.int .i64 0,slI (comM c.R c.G poly)]:=rfl
 refine pureC_of_wp (.s 4) mixed ok59 rfl ?_
 unfold c59
 dsimp only [argE]
 rcases hgv with rfl | ⟨cs,n,rfl⟩
 all_goals
  refine W.run ?_
  refine W.ref (k117n _ _ 32 8 _ 0 hall 1 0 (slI (comM c.R c.G poly)) (.inr ⟨_,_,rfl⟩) rfl rfl (by omega) (fun j hj=>by simp only [Hp.put];repeat (rw [if_neg (by omega)]))) (by omega) (fun j hj hn=>by simp only [Hp.put] at hn ⊢;rw [if_neg (by omega)];split <;> simp_all) ?_
  refine W.run ?_
  rw [hN]
set_option maxRecDepth 10000 in
set_option maxHeartbeats 1000000 in
theorem k59_1 (c:Cf) (hc:c.Ok) (b:Brd) (hb:b.Ok) (hall:Int) (hh:1≤hall∧hall≤c.H) (poly got:List Int) (hgl:(got.length:Int) = c.H):PureC Tryz.prog 59 [stV c b,.int .i64 hall,slI poly,slI got,.int .i64 1] (fun r=>r = .own (linN ((oth c hall).flatMap (post1 c b hall got))) ((oth c hall).flatMap (post1 c b hall got)).length 4):=by
 have hr:=hc.rng
 have hit:=oth_it c hc b hall
 have hLlen:=oth_len hc hall
 have hLm:=fun k=>oth_mem (c:=c) (hall:=hall) (k:=k)
 have c1:=k77 c b 118 [] [.fp [.int .i64 hall] 0] (by simp) (by simp [V.atom])
 have c2:=fun k hk=>k79 c hc b hb k hk
 have c3:=fun k hk=>k81 c hc b hb k hall (gotM got k) hk
 clear hc hb
 generalize oth c hall = L at hit hLlen hLm
 refine pureC_of_wp (.s 4) mixed ok59 rfl ?_
 unfold c59
 dsimp only [argE]
 refine W.run ?_
 refine W.rfi2 hit YEx.none rfl (fun vs hvs=>?_) (fun x:List Ln × Nat × Nat=>HpP (stV c b) hall (slI got) x.1 x.2)
  (fun i x n=>x.1 = (L.take i).flatMap (post1 c b hall got)∧x.1.length≤i∧InvO 144 x.1 x.2 n) (fun i x n n' hx hn=>⟨hx.1,hx.2.1,hx.2.2.mono hn⟩) ([],0,0) (HS.refl _) ⟨rfl,by simp,by simp [InvO]⟩ ?_ ?_ ?_
 ·obtain ⟨i,hi,rfl⟩:=List.getElem_of_mem hvs
  simp [itemsI]
 ·rintro i ⟨l,id,ver⟩ n ⟨_,_,hI⟩
  cases l with
  | nil=>simp [HpP,Hp.put]
  | cons x l =>
   have:=hI.2 (by simp)
   dsimp only at this
   simp only [HpP,Hp.put];rw [if_neg (by omega)];simp
 ·rintro i vs ⟨l,id,ver⟩ n hi ⟨hx,hxl,hI⟩ hn
  dsimp only at hx hxl hI hi ⊢
  obtain ⟨hi1,-⟩:=List.getElem?_eq_some_iff.1 hi
  rw [show (itemsI L).length = L.length by simp [itemsI]] at hi1
  rw [itemsI_get hi1,Option.some.injEq] at hi
  subst hi
  dsimp only [putL]
  have hkr:=hLm _ (List.getElem_mem hi1)
  have c4:=c2 L[i] (by omega)
  have c5:=c3 L[i] (by omega)
  have hgi:(L[i] - 1).toNat < got.length:=by omega
  rw [← gotM_get hgi] at c5
  have hsn:(L.take (i+1)).flatMap (post1 c b hall got) = l++post1 c b hall got L[i]:=by
   rw [← List.take_append_getElem hi1,List.flatMap_append,← hx];simp
  unfold post1 at hsn
  rw [← gotM_get hgi] at hsn
  clear hit hLm c2 c3
  have hadd:∀ q,((b.deal c L[i]).isSome && !fitsM c b L[i] hall got[(L[i] - 1).toNat]) = q→(L.take (i+1)).flatMap (post1 c b hall got) = if q then l++[⟨hall,2,L[i],[]⟩] else l:=fun q hq=>by
   refine hsn.trans ?_
   rw [hq];cases q <;> simp
  clear hsn
  have hkeep:((b.deal c L[i]).isSome && !fitsM c b L[i] hall got[(L[i] - 1).toNat]) = false→l = (L.take (i+1)).flatMap (post1 c b hall got)∧l.length≤i+1:=fun h=>⟨by rw [hadd false h];rfl,by omega⟩
  have hmore:((b.deal c L[i]).isSome && !fitsM c b L[i] hall got[(L[i] - 1).toNat]) = true→l++[⟨hall,2,L[i],[]⟩] = (L.take (i+1)).flatMap (post1 c b hall got)∧(l++[(⟨hall,2,L[i],[]⟩:Ln)]).length≤i+1:=fun h=>⟨by rw [hadd true h];rfl,by simp;omega⟩
  clear hadd hx
  cases l with
  | nil =>
   dsimp only [HpP]
   cases hd:(b.deal c L[i]).isSome
   ·rw [hd] at c4 hkeep
    have ha:=hkeep rfl
    refine W.run ?_
    refine W.kasg2 (by simp (disch:=omega) only [put_same,put_ne,ne_eq]) rfl ?_
    refine W.run ?_
    exact W.kitr2 ([],id,ver) (HS.p (HS.p (HS.p (HS.p (HS.p (HS.p (HS.emp _))))))) ⟨ha.1,ha.2,hI.mono (by omega)⟩ (by omega)
   ·rw [hd] at c4 hkeep hmore
    cases hf:fitsM c b L[i] hall got[(L[i] - 1).toNat]
    ·rw [hf] at c5 hmore
     have ha:=hmore rfl
     refine W.run ?_
     refine W.kasg2 (by simp (disch:=omega) only [put_same,put_ne,ne_eq]) rfl ?_
     refine W.run ?_
     refine W.ref (k117n _ _ 32 8 _ 1 hall 2 L[i] .nils (.inl rfl) rfl rfl (by omega) (fun j hj=>by simp only [Hp.put];repeat (rw [if_neg (by omega)]))) (by omega) (fun j hj hn=>by simp only [Hp.put] at hn ⊢;rw [if_neg (by omega)];split <;> simp_all) ?_
     refine W.run ?_
     refine W.kitr2 ([]++[⟨hall,2,L[i],[]⟩],n+152+56,0) ?_ ⟨ha.1,ha.2,by simp,fun _=>by dsimp only;omega⟩ (by omega)
     dsimp only [HpP,List.nil_append]
     exact HS.p (HS.p (HS.p (HS.p (HS.p (HS.p (HS.p (HS.emp _)))))))
    ·rw [hf] at c5 hkeep
     have ha:=hkeep rfl
     refine W.run ?_
     refine W.kasg2 (by simp (disch:=omega) only [put_same,put_ne,ne_eq]) rfl ?_
     refine W.run ?_
     exact W.kitr2 ([],id,ver) (HS.p (HS.p (HS.p (HS.p (HS.p (HS.p (HS.emp _))))))) ⟨ha.1,ha.2,hI.mono (by omega)⟩ (by omega)
  | cons x l =>
   have hq:=hI.2 (by simp)
   dsimp only at hq
   dsimp only [HpP]
   cases hd:(b.deal c L[i]).isSome
   ·rw [hd] at c4 hkeep
    have ha:=hkeep rfl
    refine W.run ?_
    refine W.kasg2 (by simp (disch:=omega) only [put_same,put_ne,ne_eq]) rfl ?_
    refine W.run ?_
    exact W.kitr2 (x::l,id,ver) (HS.p (HS.p (HS.p (HS.p (HS.p (HS.p (HS.p (HS.emp _)))))))) ⟨ha.1,ha.2,hI.mono (by omega)⟩ (by omega)
   ·rw [hd] at c4 hkeep hmore
    cases hf:fitsM c b L[i] hall got[(L[i] - 1).toNat]
    ·rw [hf] at c5 hmore
     have ha:=hmore rfl
     refine W.run ?_
     refine W.kasg2 (by simp (disch:=omega) only [put_same,put_ne,ne_eq]) rfl ?_
     refine W.run ?_
     refine W.ref (k117c _ _ 32 8 _ 1 id ver (l.length+1) (linN (x::l)) hall 2 L[i] .nils (.inl rfl) (by simp (disch:=omega) only [put_same,put_ne,ne_eq] <;> rfl) (by simp (disch:=omega) only [put_same,put_ne,ne_eq]) (by simp (disch:=omega) only [put_same,put_ne,ne_eq]) (by rw [linN_len];rfl) (by have:=hI.1;simp at this;omega) (by omega) (fun j hj=>by simp (disch:=omega) only [put_ne,ne_eq])) (by omega) (hd1 (by simp (disch:=omega) only [put_same,put_ne,ne_eq];rfl) (.inr ⟨_,by simp (disch:=omega) only [put_same,put_ne,ne_eq];rfl⟩)) ?_
     refine W.run ?_
     refine W.kitr2 (x::l++[⟨hall,2,L[i],[]⟩],id,ver+1) ?_ ⟨ha.1,ha.2,by have h9:=ha.2;dsimp only;omega,fun _=>by dsimp only;omega⟩ (by omega)
     have e:linN (x::l)++[V.int .i64 hall,.int .i64 2,.int .i64 L[i],.nils] = linN (x::(l++[⟨hall,2,L[i],[]⟩])):=(linN_snoc (x::l) ⟨hall,2,L[i],[]⟩).symm
     dsimp only [HpP,List.cons_append]
     rw [e,show (l++[(⟨hall,2,L[i],[]⟩:Ln)]).length = l.length+1 by simp]
     exact HS.p (HS.p (HS.p (HS.p (HS.p (HS.p (HS.p (HS.emp _)))))))
    ·rw [hf] at c5 hkeep
     have ha:=hkeep rfl
     refine W.run ?_
     refine W.kasg2 (by simp (disch:=omega) only [put_same,put_ne,ne_eq]) rfl ?_
     refine W.run ?_
     exact W.kitr2 (x::l,id,ver) (HS.p (HS.p (HS.p (HS.p (HS.p (HS.p (HS.p (HS.emp _)))))))) ⟨ha.1,ha.2,hI.mono (by omega)⟩ (by omega)
 ·rintro ⟨l,id,ver⟩ n ⟨hx,hxl,hI⟩ hn
  rw [show (itemsI L).length = L.length by simp [itemsI],List.take_length] at hx
  dsimp only at hx hI ⊢
  rw [← hx]
  clear hit hLm c1 c2 c3 hx
  cases l with
  | nil =>
   dsimp only [HpP]
   refine W.run ?_
   rfl
  | cons x l =>
   have hq:=hI.2 (by simp)
   dsimp only at hq
   have h3:=hI.1
   have hl:=linN_len (x::l)
   have hat:=linN_atoms (x::l)
   have hll:(x::l).length = l.length+1:=rfl
   rw [hll] at hl h3 ⊢
   dsimp only [HpP]
   refine W.run ?_
   rfl
end Go.Dp
