import Derived.Test.YtlbjgnkjicifhaaGreatDwJ3
import Derived.Test.YtlbjgnkjicifhaaGreatDwC24
namespace Go.Dp
open Go.RowKit Go.Proofs
attribute [local irreducible] wp wpOps wpOp1 CallW CallT kSeq kBlk kLoop kReg retP retR kAsg kRound kRf kCut kItr kItr2
set_option linter.unusedVariables false
set_option linter.unusedSimpArgs false
def HpV (B:Hp) (os:List (Nat × Ob)) (lo n:Nat):Hp:=os.foldl (fun H p=>H.put p.1 p.2) B
def BV (os:List (Nat × Ob)) (lo n:Nat):Prop:=(os.map Prod.fst).Nodup∧∀ p∈os,lo < p.1∧p.1 < n
theorem HpV_snoc {B:Hp} {os:List (Nat × Ob)} {lo n n':Nat} {p:Nat × Ob}:HpV B (os++[p]) lo n' = (HpV B os lo n).put p.1 p.2:=by
 unfold HpV;rw [List.foldl_append];rfl
theorem HpV_at0 {i:Nat}:∀ (os:List (Nat × Ob)) (B:Hp),(∀ p∈os,p.1≠i)→os.foldl (fun H p=>H.put p.1 p.2) B i = B i
 | [],B,_=>rfl
 | p::os,B,h=>by
  rw [List.foldl_cons,HpV_at0 os _ fun q hq=>h q (by simp [hq]),put_ne (Ne.symm (h p (by simp)))]
theorem HpV_put0 {i:Nat} {ob:Ob}:∀ (os:List (Nat × Ob)) (B:Hp),(∀ p∈os,p.1≠i)→(os.foldl (fun H p=>H.put p.1 p.2) B).put i ob = os.foldl (fun H p=>H.put p.1 p.2) (B.put i ob)
 | [],B,_=>rfl
 | p::os,B,h=>by
  rw [List.foldl_cons,List.foldl_cons,HpV_put0 os _ fun q hq=>h q (by simp [hq]),put_comm (h p (by simp))]
theorem BV.nil {lo n:Nat}:BV [] lo n:=⟨List.nodup_nil,fun p hp=>by cases hp⟩
section
variable {B:Hp} {os:List (Nat × Ob)} {lo n i:Nat} {ob:Ob}
@[go_sem] theorem HpV_at (hb:BV os lo n) (hi:i≤lo∨n≤i):HpV B os lo n i = B i :=
 HpV_at0 os B fun p hp e=>by have:=hb.2 p hp;omega
@[go_sem] theorem HpV_put (hb:BV os lo n) (hi:i≤lo∨n≤i):(HpV B os lo n).put i ob = HpV (B.put i ob) os lo n :=
 HpV_put0 os B fun p hp e=>by have:=hb.2 p hp;omega
theorem HpV_HS {B':Hp} {n':Nat} (h:HS B B'):HS (HpV B os lo n') (HpV B' os lo n):=by
 unfold HpV
 induction os generalizing B B' with
 | nil=>exact h
 | cons p os ih =>
  rw [List.foldl_cons,List.foldl_cons]
  exact ih fun j x e=>by
   simp only [Hp.put] at e ⊢
   split
   ·rename_i hc;rw [if_pos hc] at e;exact e
   ·rename_i hc;rw [if_neg hc] at e;exact h j x e
theorem HpV_obj (hb:BV os lo n) {p:Nat × Ob} (hp:p∈os):HpV B os lo n p.1 = some p.2:=by
 have hn:=hb.1
 unfold HpV
 clear hb
 induction os generalizing B with
 | nil=>cases hp
 | cons q os ih =>
  have hn':=List.nodup_cons.1 hn
  rw [List.foldl_cons]
  rcases List.mem_cons.1 hp with rfl | hp
  ·rw [HpV_at0 os _ fun r hr e=>hn'.1 (List.mem_map.2 ⟨r,hr,e⟩),put_same]
  ·exact ih hp hn'.2
end
theorem BV.mono {os:List (Nat × Ob)} {lo n n':Nat} (h:BV os lo n) (hn:n≤n'):BV os lo n':=⟨h.1,fun p hp=>by have:=h.2 p hp;omega⟩
theorem BV.snoc {os:List (Nat × Ob)} {lo n n':Nat} {p:Nat × Ob} (h:BV os lo n) (hp:n≤p.1∧p.1 < n') (hlo:lo < n):BV (os++[p]) lo n':=by
 refine ⟨?_,fun q hq=>?_⟩
 ·rw [List.map_append]
  refine List.nodup_append.2 ⟨h.1,by simp,fun a ha b hb=>?_⟩
  obtain ⟨q,hq,rfl⟩:=List.mem_map.1 ha
  have:=h.2 q hq
  simp only [List.map_cons,List.map_nil,List.mem_singleton] at hb
  omega
 ·rcases List.mem_append.1 hq with hq | hq
  ·have:=h.2 q hq;omega
  ·rw [List.mem_singleton.1 hq];omega
def RdL (H:Hp) (p:Ln × V):Prop:=(p.1.kind = 2∧p.2 = .nils)∨(p.1.kind≠2∧∃ id ver z,p.2 = .ref id ver 0 p.1.nums.length∧H id = some { cells:=p.1.nums.map (V.int .i64),sz:=1,ver:=ver,fz:=z })
theorem RdL.mark {H:Hp} {p:Ln × V} {id a:Nat} (h:RdL H p):RdL (H.mark id a) p:=by
 rcases h with h | ⟨h1,id2,ver,z,h2,h3⟩
 ·exact .inl h
 ·refine .inr ⟨h1,id2,ver,?_⟩
  by_cases e:id2 = id
  ·subst e
   exact ⟨max z a,h2,by unfold Hp.mark;rw [h3];simp [Hp.put]⟩
  ·exact ⟨z,h2,by
    unfold Hp.mark
    cases H id with
    | none=>exact h3
    | some ob=>simp only;rw [put_ne e];exact h3⟩
theorem mapS_ints3 {k:Nat} {x:Ln} {l:List V} {H:Hp}:mapS (frz (k+1)) (V.int .i64 x.hall::.int .i64 x.kind::.int .i64 x.other::l) H = (mapS (frz (k+1)) l H).map fun r=>(V.int .i64 x.hall::.int .i64 x.kind::.int .i64 x.other::r.1,r.2):=by
 simp only [mapS]
 have e:∀ n,frz (k+1) (V.int .i64 n) H = some (.int .i64 n,H):=fun n=>rfl
 simp only [e,Option.bind_some]
 cases mapS (frz (k+1)) l H <;> rfl
theorem mapS_lnsC {k:Nat}:∀ (X:List (Ln × V)) (H:Hp),(∀ p∈X,RdL H p)→∃ H',mapS (frz (k+1)) (lnsC X) H = some (linN (X.map Prod.fst),H')∧∀ i,(∀ p∈X,∀ id ver len,p.2 = .ref id ver 0 len→id≠i)→H' i = H i
 | [],H,_=>⟨H,rfl,fun _ _=>rfl⟩
 | (x,v)::X,H,h=>by
  have h0:=h (x,v) (by simp)
  rcases h0 with ⟨h1,h2⟩ | ⟨h1,id,ver,z,h2,h3⟩
  ·dsimp only at h1 h2
   subst h2
   obtain ⟨H',hH',ho⟩:=mapS_lnsC (k:=k) X H fun q hq=>h q (by simp [hq])
   refine ⟨H',?_,fun i hi=>ho i fun q hq=>hi q (by simp [hq])⟩
   show mapS (frz (k+1)) (V.int .i64 x.hall::.int .i64 x.kind::.int .i64 x.other::.nils::lnsC X) H = _
   rw [mapS_ints3,mapS]
   have e:frz (k+1) V.nils H = some (.nils,H):=rfl
   rw [e]
   simp only [Option.bind_some,hH',Option.map_some,List.map_cons,linN,lnsC,lnC,nvL,if_pos h1]
   rfl
  ·dsimp only at h1 h2 h3
   subst h2
   obtain ⟨H',hH',ho⟩:=mapS_lnsC (k:=k) X (H.mark id (0+x.nums.length * 1)) fun q hq=>(h q (by simp [hq])).mark
   have hmk:∀ i,i≠id→(H.mark id (0+x.nums.length * 1)) i = H i:=fun i hi=>by unfold Hp.mark;rw [h3];simp only;rw [put_ne hi]
   refine ⟨H',?_,fun i hi=>by rw [ho i fun q hq=>hi q (by simp [hq]),hmk i (Ne.symm (hi (x,.ref id ver 0 x.nums.length) (by simp) id ver _ rfl))]⟩
   show mapS (frz (k+1)) (V.int .i64 x.hall::.int .i64 x.kind::.int .i64 x.other::.ref id ver 0 x.nums.length::lnsC X) H = _
   rw [mapS_ints3,mapS]
   have e:frz (k+1) (.ref id ver 0 x.nums.length) H = some (slI x.nums,H.mark id (0+x.nums.length * 1)):=by
    have hq:=frzRef_some (n:=k) (o:=id) (ver:=ver) (off:=0) (len:=x.nums.length) (H:=H) (ob:={ cells:=x.nums.map (V.int .i64),sz:=1,ver:=ver,fz:=z }) ⟨rfl,by simp,rfl⟩
    rw [frz_ref,h3,hq]
    simp only [List.drop_zero,Nat.mul_one,Nat.zero_add]
    rw [List.take_of_length_le (by simp),mapS_int1]
    rfl
   rw [e]
   simp only [Option.bind_some,hH',Option.map_some,List.map_cons,linN,lnsC,lnC,nvL,if_neg h1]
   rfl
def HpY (c:Cf) (b:Brd) (X:List (Ln × V)) (os:List (Nat × Ob)) (n:Nat):Hp:=HpV ((HB c b).put 24 { cells:=lnsC X,sz:=4,ver:=X.length,nl:=if X.length = 0 then 1 else 0 }) os 24 n
def InvY (X:List (Ln × V)) (os:List (Nat × Ob)) (n:Nat):Prop:=BV os 24 n∧24 < n∧∀ p∈X,(p.1.kind = 2∧p.1.nums = []∧p.2 = .nils)∨(p.1.kind≠2∧∃ id ver,p.2 = .ref id ver 0 p.1.nums.length∧(id,({ cells:=p.1.nums.map (V.int .i64),sz:=1,ver:=ver }:Ob))∈os)
theorem InvY.nil {n:Nat} (h:24 < n):InvY [] [] n:=⟨BV.nil,h,fun p hp=>by cases hp⟩
theorem InvY.mono {X:List (Ln × V)} {os:List (Nat × Ob)} {n n':Nat} (h:InvY X os n) (hn:n≤n'):InvY X os n':=⟨h.1.mono hn,by have:=h.2.1;omega,h.2.2⟩
theorem InvY.cpl {X:List (Ln × V)} {os:List (Nat × Ob)} {n n':Nat} {x:Ln} (h:InvY X os n) (hn:n≤n') (hk:x.kind = 2) (hx:x.nums = []):InvY (X++[(x,.nils)]) os n' :=
 ⟨h.1.mono hn,by have:=h.2.1;omega,fun p hp=>(List.mem_append.1 hp).elim (h.2.2 p) fun hp=>by rw [List.mem_singleton.1 hp];exact .inl ⟨hk,hx,rfl⟩⟩
theorem InvY.num {X:List (Ln × V)} {os:List (Nat × Ob)} {n n' id ver:Nat} {x:Ln} (h:InvY X os n) (hn:n≤id∧id < n') (hk:x.kind≠2):InvY (X++[(x,.ref id ver 0 x.nums.length)]) (os++[(id,{ cells:=x.nums.map (V.int .i64),sz:=1,ver:=ver })]) n':=by
 refine ⟨h.1.snoc hn h.2.1,by have:=h.2.1;omega,fun p hp=>?_⟩
 rcases List.mem_append.1 hp with hp | hp
 ·rcases h.2.2 p hp with h1 | ⟨h1,id2,ver2,h2,h3⟩
  ·exact .inl h1
  ·exact .inr ⟨h1,id2,ver2,h2,List.mem_append_left _ h3⟩
 ·rw [List.mem_singleton.1 hp]
  exact .inr ⟨hk,id,ver,rfl,by simp⟩
theorem InvY.fin {c:Cf} {b:Brd} {X:List (Ln × V)} {os:List (Nat × Ob)} {n:Nat} (h:InvY X os n):∃ H',Go.Dp.fin 12 (.s 4) (.ref 24 X.length 0 X.length) (HpY c b X os n) = some (.own (linN (X.map Prod.fst)) (X.map Prod.fst).length 4,H'):=by
 have e24:HpY c b X os n 24 = some { cells:=lnsC X,sz:=4,ver:=X.length,nl:=if X.length = 0 then 1 else 0 }:=by
  unfold HpY;rw [HpV_at h.1 (by omega),put_same]
 have hRd:∀ p∈X,RdL (HpY c b X os n) p:=fun p hp=>by
  rcases h.2.2 p hp with ⟨h1,h2,h3⟩ | ⟨h1,id,ver,h2,h3⟩
  ·exact .inl ⟨h1,h3⟩
  ·exact .inr ⟨h1,id,ver,0,h2,HpV_obj h.1 h3⟩
 obtain ⟨H',hH',ho⟩:=mapS_lnsC (k:=10) X _ hRd
 have h24:H' 24 = some { cells:=lnsC X,sz:=4,ver:=X.length,nl:=if X.length = 0 then 1 else 0 }:=by
  rw [ho 24 fun p hp id ver len e=>?_,e24]
  rcases h.2.2 p hp with ⟨h1,h2,h3⟩ | ⟨h1,id2,ver2,h2,h3⟩
  ·rw [h3] at e;cases e
  ·rw [h2] at e;cases e
   have:=h.1.2 _ h3;dsimp only at this;omega
 refine ⟨H'.del 24,?_⟩
 rw [fin_sref,e24,finRefO_some (ob:={ cells:=lnsC X,sz:=4,ver:=X.length,nl:=if X.length = 0 then 1 else 0 }) ⟨rfl,rfl,rfl,rfl,by dsimp only;rw [lnsC_len];omega,rfl⟩,List.take_of_length_le (by dsimp only;rw [lnsC_len];omega),hH']
 simp only [Option.bind_some,finRef,h24,if_true]
 rw [List.length_map]
end Go.Dp
namespace Go.Dp
open Go.RowKit Go.Proofs
attribute [local irreducible] wp wpOps wpOp1 CallW CallT kSeq kBlk kLoop kReg retP retR kAsg kRound kRf kCut kItr kItr2
set_option linter.unusedVariables false
set_option linter.unusedSimpArgs false
def upO (hall:Int) (f:Int→List Ln) (j:Nat):List Ln:=((rngH j).filter fun k=>decide (k≠hall)).flatMap f
theorem upO_skip {hall:Int} {f:Int→List Ln} {j:Nat} (h:(j:Int)+1 = hall):upO hall f (j+1) = upO hall f j:=by
 unfold upO;rw [rngH_succ,List.filter_append];simp [h]
theorem upO_succ {hall:Int} {f:Int→List Ln} {j:Nat} (h:(j:Int)+1≠hall):upO hall f (j+1) = upO hall f j++f ((j:Int)+1):=by
 unfold upO;rw [rngH_succ,List.filter_append,List.flatMap_append];simp [h]
theorem upO_all (c:Cf) (hall:Int) (f:Int→List Ln):upO hall f c.H.toNat = (oth c hall).flatMap f:=rfl
theorem upO_len {hall:Int} {f:Int→List Ln} (h:∀ k,(f k).length≤1):∀ j,(upO hall f j).length≤j
 | 0=>by simp [upO,rngH]
 | j+1=>by
  have:=upO_len (hall:=hall) h j
  by_cases e:(j:Int)+1 = hall
  ·rw [upO_skip e];omega
  ·rw [upO_succ e,List.length_append];have:=h ((j:Int)+1);omega
theorem St_fr {fr fr':List (Nat × V)} {H:Hp} {n:Nat} (h:fr = fr'):(⟨fr,H,n⟩:St) = ⟨fr',H,n⟩:=by rw [h]
theorem HB_none {c:Cf} {b:Brd} {i:Nat} (h:8 < i):HB c b i = none:=by
 unfold HB
 simp only [Hp.put]
 repeat (rw [if_neg (by omega)])
theorem HpY_add {c:Cf} {b:Brd} {X:List (Ln × V)} {os:List (Nat × Ob)} {n n' m:Nat} {g:Ob} {h k o:Int} {nums:List Int} {v:V} (hm:24 < m) :
  HS (HpY c b (X++[(⟨h,k,o,nums⟩,v)]) os n') (HpV (((HB c b).put 24 { cells:=lnsC X++[.int .i64 h,.int .i64 k,.int .i64 o,v],sz:=4,ver:=X.length+1 }).put m g) os 24 n):=by
 unfold HpY
 rw [lnsC_app,List.length_append,List.length_singleton,if_neg (by omega)]
 refine HpV_HS (HS.skip ?_ (by rw [put_ne (by omega),HB_none (by omega)]) _)
 exact HS.refl _
theorem HpY_num {c:Cf} {b:Brd} {X:List (Ln × V)} {os:List (Nat × Ob)} {n n' m id:Nat} {g:Ob} {h k o v:Int} {ver:Nat} (hb:BV os 24 n) (h24:24 < n) (hid:n≤id) (hm:id < m) :
  HS (HpY c b (X++[(⟨h,k,o,[v]⟩,.ref id ver 0 1)]) (os++[(id,{ cells:=[.int .i64 v],sz:=1,ver:=ver })]) n') (HpV ((((HB c b).put 24 { cells:=lnsC X++[.int .i64 h,.int .i64 k,.int .i64 o,.ref id ver 0 1],sz:=4,ver:=X.length+1 }).put id { cells:=[.int .i64 v],sz:=1,ver:=ver }).put m g) os 24 n):=by
 unfold HpY
 rw [HpV_snoc (n:=n),HpV_put hb (by dsimp only;omega),lnsC_app,List.length_append,List.length_singleton,if_neg (by omega)]
 refine HpV_HS (HS.skip ?_ (by rw [put_ne (by omega),put_ne (by omega),HB_none (by omega)]) _)
 exact HS.refl _
set_option maxRecDepth 10000 in
theorem k28_0 (c:Cf) (hc:c.Ok) (b:Brd) (hb:b.Ok) (hall:Int) (poly got:List Int) (hp:polyE c.P poly = 0) (hgl:(got.length:Int) = c.H):PureC Tryz.prog 28 [c.v,.int .i64 hall,slI poly,slI got,bdV b,.int .i64 0] (fun r=>r = .own (linN (postM c b hall poly got 0)) (postM c b hall poly got 0).length 4):=by
 have hpl:=polyE_len hp
 have hpr:=polyE_rng hp
 have c1:=k66 hc.1 poly poly.length rfl (by omega) hpr
 have hcl:(comM c.R c.G poly).length = poly.length:=by simp [comM]
 have hN:linN (postM c b hall poly got 0) = [.int .i64 hall,.int .i64 1,.int .i64 0,slI (comM c.R c.G poly)]:=rfl
 refine pureC_of_wp (.s 4) mixed ok28 rfl ?_
 unfold c28
 dsimp only [argE,Cf.v,cfgV,bdV]
 refine W.run ?_
 rw [hN,← hcl];rfl
set_option maxRecDepth 10000 in
set_option maxHeartbeats 2000000 in
theorem k28_1 (c:Cf) (hc:c.Ok) (b:Brd) (hb:b.Ok) (hall:Int) (hh:1≤hall∧hall≤c.H) (poly got:List Int) (hgl:(got.length:Int) = c.H):PureC Tryz.prog 28 [c.v,.int .i64 hall,slI poly,slI got,bdV b,.int .i64 1] (fun r=>r = .own (linN (postM c b hall poly got 1)) (postM c b hall poly got 1).length 4):=by
 have hr:=hc.rng
 have c1:=fun j=>k68 c hc b hb j
 have hdo:=fun k A (e:b.deal c k = some A)=>deal_ok hb e
 have c2:=fun (A:List Int) (h1:A.length < 2 ^ 40) (h2:∀ x∈A,B64 x) (n:Int)=>k69 hc.1 A A.length rfl h1 h2 hall n
 clear hc hb
 show PureC _ _ _ (fun r=>r = .own (linN ((oth c hall).flatMap (post1 c b hall got))) ((oth c hall).flatMap (post1 c b hall got)).length 4)
 rw [← upO_all]
 have hl1:∀ k,(post1 c b hall got k).length≤1:=fun k=>by unfold post1;split <;> simp
 have hlen:=fun j=>upO_len (hall:=hall) hl1 j
 refine pureC_of_wp (.s 4) mixed ok28 rfl ?_
 unfold c28
 dsimp only [argE,Cf.v,cfgV,bdV]
 refine W.run ?_
 refine W.loop (fun y:Nat × List (Ln × V) × List (Nat × Ob) × Nat=>⟨[(1,.int .i64 hall),(2,slI poly),(3,slI got),(5,.int .i64 1),(6,.ptr 0 0 0),(10,.ptr 8 0 0),(13,.ref 24 y.2.1.length 0 y.2.1.length),(15,.int .i64 ((y.1:Int)+1))],HpY c b y.2.1 y.2.2.1 y.2.2.2,y.2.2.2⟩)
  (fun y=>y.1≤c.H.toNat∧y.2.1.map Prod.fst = upO hall (post1 c b hall got) y.1∧InvY y.2.1 y.2.2.1 y.2.2.2) (fun y=>c.H.toNat - y.1) (0,[],[],120) ⟨by dsimp only;omega,rfl,InvY.nil (by dsimp only;omega)⟩ ?_ rfl (HS.refl _) rfl
 rintro ⟨j,X,os,n⟩ ⟨h1,h2,h3⟩
 dsimp only at h1 h2 h3 ⊢
 have hXl:=hlen j
 rw [← h2,List.length_map] at hXl
 have hX4:=lnsC_len X
 unfold HpY
 have hb3:=h3.1
 have hn3:=h3.2.1
 by_cases hj:j < c.H.toNat
 ·by_cases he:(j:Int)+1 = hall
  ·have hs:=upO_skip (f:=post1 c b hall got) he
   clear hdo c2 c1
   refine W.run ?_
   refine W.kl0 _ ?_ ⟨(j+1,X,os,_),⟨by dsimp only;omega,by rw [hs];exact h2,h3.mono (by dsimp only;omega)⟩,rfl,by dsimp only;omega⟩ Nat.zero_lt_one <;> exact HS.refl _
  ·have hs:=upO_succ (f:=post1 c b hall got) he
   have c3:=c1 ((j:Int)+1)
   have hno:post1 c b hall got ((j:Int)+1) = []→X.map Prod.fst = upO hall (post1 c b hall got) (j+1):=fun e=>by rw [hs,e,List.append_nil];exact h2
   have hgi:((j:Int)+1 - 1).toNat < got.length:=by omega
   have hgj:=(gotM_get hgi).symm
   cases hd:b.deal c ((j:Int)+1) with
   | none =>
    rw [hd] at c3
    dsimp only [dealV] at c3
    have hs2:=hno (by rw [post1,hd];rfl)
    clear hdo c2 c1 hno hs
    refine W.run ?_
    refine W.kl0 _ ?_ ⟨(j+1,X,os,_),⟨by dsimp only;omega,hs2,h3.mono (by dsimp only;omega)⟩,rfl,by dsimp only;omega⟩ Nat.zero_lt_one <;> exact HS.refl _
   | some A =>
    rw [hd] at c3
    dsimp only [dealV] at c3
    have hA:=hdo _ A hd
    have c4:=c2 A (by omega) hA.2.1 got[((j:Int)+1 - 1).toNat]
    have hft:fitsM c b ((j:Int)+1) hall (gotM got ((j:Int)+1)) = fitB c.R c.P c.G A hall got[((j:Int)+1 - 1).toNat]:=by unfold fitsM;rw [hd,hgj]
    clear hdo c2 c1
    cases hf:fitB c.R c.P c.G A hall got[((j:Int)+1 - 1).toNat]
    ·rw [hf] at c4 hft
     have hs2:upO hall (post1 c b hall got) (j+1) = upO hall (post1 c b hall got) j++[⟨hall,2,(j:Int)+1,[]⟩]:=by rw [hs,post1,hd,hft];rfl
     clear hno hs
     refine W.run ?_
     refine W.kl0 (HpY c b (X++[(⟨hall,2,(j:Int)+1,[]⟩,.nils)]) os (n+384)) (HpY_add (by omega)) ⟨(j+1,X++[(⟨hall,2,(j:Int)+1,[]⟩,.nils)],os,n+384),⟨by dsimp only;omega,?_,h3.cpl (by dsimp only;omega) rfl rfl⟩,St_fr (by dsimp only;rw [List.length_append];rfl),by dsimp only;omega⟩ Nat.zero_lt_one
     dsimp only
     rw [List.map_append,h2,hs2];rfl
    ·rw [hf] at c4 hft
     have hs2:=hno (by rw [post1,hd,hft];rfl)
     clear hno hs
     refine W.run ?_
     refine W.kl0 _ ?_ ⟨(j+1,X,os,_),⟨by dsimp only;omega,hs2,h3.mono (by dsimp only;omega)⟩,rfl,by dsimp only;omega⟩ Nat.zero_lt_one <;> exact HS.refl _
 ·have hj2 : j = c.H.toNat := by omega
  subst hj2
  obtain ⟨H',hf⟩:=InvY.fin (c:=c) (b:=b) h3
  unfold HpY at hf
  clear c1 c2 hdo
  refine W.run ?_
  rw [h2] at hf
  exact W.retP rfl hf rfl
set_option maxRecDepth 10000 in
set_option maxHeartbeats 2000000 in
theorem k28_2 (c:Cf) (hc:c.Ok) (b:Brd) (hb:b.Ok) (hall:Int) (hh:1≤hall∧hall≤c.H) (poly got:List Int) (hgl:(got.length:Int) = c.H) (hp:polyE c.P poly = 0):PureC Tryz.prog 28 [c.v,.int .i64 hall,slI poly,slI got,bdV b,.int .i64 2] (fun r=>r = .own (linN (postM c b hall poly got 2)) (postM c b hall poly got 2).length 4):=by
 have hr:=hc.rng
 have c1:=fun j=>k68 c hc b hb j
 have hdo:=fun k A (e:b.deal c k = some A)=>deal_ok hb e
 have c2:=fun (A:List Int) (h1:A.length < 2 ^ 40) (h2:∀ x∈A,B64 x) (n:Int)=>k69 hc.1 A A.length rfl h1 h2 hall n
 have c5:=fun (x:Int) (hx:0≤x∧x < 2 ^ 40)=>k29 (R:=c.R) (G:=c.G) hc.1.hP poly poly.length rfl (by have:=polyE_len hp;omega) (polyE_rng hp) x hx
 have c6:=fun j=>k70 c hc b hb j hall
 clear hc hb
 show PureC _ _ _ (fun r=>r = .own (linN ((oth c hall).flatMap (post2 c b hall poly))) ((oth c hall).flatMap (post2 c b hall poly)).length 4)
 rw [← upO_all]
 have hl1:∀ k,(post2 c b hall poly k).length≤1:=fun k=>by unfold post2;split <;> simp
 have hlen:=fun j=>upO_len (hall:=hall) hl1 j
 refine pureC_of_wp (.s 4) mixed ok28 rfl ?_
 unfold c28
 dsimp only [argE,Cf.v,cfgV,bdV]
 refine W.run ?_
 refine W.loop (fun y:Nat × List (Ln × V) × List (Nat × Ob) × Nat=>⟨[(1,.int .i64 hall),(2,slI poly),(3,slI got),(5,.int .i64 2),(6,.ptr 0 0 0),(10,.ptr 8 0 0),(13,.ref 24 y.2.1.length 0 y.2.1.length),(15,.int .i64 ((y.1:Int)+1))],HpY c b y.2.1 y.2.2.1 y.2.2.2,y.2.2.2⟩)
  (fun y=>y.1≤c.H.toNat∧y.2.1.map Prod.fst = upO hall (post2 c b hall poly) y.1∧InvY y.2.1 y.2.2.1 y.2.2.2) (fun y=>c.H.toNat - y.1) (0,[],[],120) ⟨by dsimp only;omega,rfl,InvY.nil (by dsimp only;omega)⟩ ?_ rfl (HS.refl _) rfl
 rintro ⟨j,X,os,n⟩ ⟨h1,h2,h3⟩
 dsimp only at h1 h2 h3 ⊢
 have hXl:=hlen j
 rw [← h2,List.length_map] at hXl
 have hX4:=lnsC_len X
 unfold HpY
 have hb3:=h3.1
 have hn3:=h3.2.1
 by_cases hj:j < c.H.toNat
 ·by_cases he:(j:Int)+1 = hall
  ·have hs:=upO_skip (f:=post2 c b hall poly) he
   clear hdo c2 c1 c5 c6
   refine W.run ?_
   refine W.kl0 _ ?_ ⟨(j+1,X,os,_),⟨by dsimp only;omega,by rw [hs];exact h2,h3.mono (by dsimp only;omega)⟩,rfl,by dsimp only;omega⟩ Nat.zero_lt_one <;> exact HS.refl _
  ·have hs:=upO_succ (f:=post2 c b hall poly) he
   have c3:=c1 ((j:Int)+1)
   have hno:post2 c b hall poly ((j:Int)+1) = []→X.map Prod.fst = upO hall (post2 c b hall poly) (j+1):=fun e=>by rw [hs,e,List.append_nil];exact h2
   have hgi:((j:Int)+1 - 1).toNat < got.length:=by omega
   have c7:=c6 ((j:Int)+1)
   have c8:=c5 ((j:Int)+1) (by omega)
   cases hd:b.deal c ((j:Int)+1) with
   | none =>
    rw [hd] at c3
    dsimp only [dealV] at c3
    clear hdo c2 c1 c5 c6
    cases hcm:b.compl c ((j:Int)+1) hall
    ·rw [hcm] at c7
     have hs2:=hno (by rw [post2,hcm];rfl)
     clear hno hs
     refine W.run ?_
     refine W.kl0 _ ?_ ⟨(j+1,X,os,_),⟨by dsimp only;omega,hs2,h3.mono (by dsimp only;omega)⟩,rfl,by dsimp only;omega⟩ Nat.zero_lt_one <;> exact HS.refl _
    ·rw [hcm] at c7
     have hs2:upO hall (post2 c b hall poly) (j+1) = upO hall (post2 c b hall poly) j++[⟨hall,3,(j:Int)+1,[valM c.P ((j:Int)+1) poly]⟩]:=by rw [hs,post2,hcm];rfl
     clear hno hs
     refine W.run ?_
     refine W.kl0 (HpY c b (X++[(⟨hall,3,(j:Int)+1,[valM c.P ((j:Int)+1) poly]⟩,.ref (n+320+64) 0 0 1)]) (os++[(n+320+64,{ cells:=[.int .i64 (valM c.P ((j:Int)+1) poly)],sz:=1,ver:=0 })]) (n+448)) (HpY_num hb3 (by omega) (by omega) (by omega)) ⟨(j+1,X++[(⟨hall,3,(j:Int)+1,[valM c.P ((j:Int)+1) poly]⟩,.ref (n+320+64) 0 0 1)],os++[(n+320+64,{ cells:=[.int .i64 (valM c.P ((j:Int)+1) poly)],sz:=1,ver:=0 })],n+448),⟨by dsimp only;omega,?_,h3.num (x:=⟨hall,3,(j:Int)+1,[valM c.P ((j:Int)+1) poly]⟩) (by dsimp only;omega) (by dsimp only;decide)⟩,St_fr (by dsimp only;rw [List.length_append];rfl),by dsimp only;omega⟩ Nat.zero_lt_one
     dsimp only
     rw [List.map_append,h2,hs2];rfl
   | some A =>
    rw [hd] at c3
    dsimp only [dealV] at c3
    have hA:=hdo _ A hd
    have c4:=c2 A (by omega) hA.2.1 got[((j:Int)+1 - 1).toNat]
    clear hdo c2 c1 c5 c6
    cases hcm:b.compl c ((j:Int)+1) hall
    ·rw [hcm] at c7
     have hs2:=hno (by rw [post2,hcm];rfl)
     clear hno hs
     refine W.run ?_
     refine W.kl0 _ ?_ ⟨(j+1,X,os,_),⟨by dsimp only;omega,hs2,h3.mono (by dsimp only;omega)⟩,rfl,by dsimp only;omega⟩ Nat.zero_lt_one <;> exact HS.refl _
    ·rw [hcm] at c7
     have hs2:upO hall (post2 c b hall poly) (j+1) = upO hall (post2 c b hall poly) j++[⟨hall,3,(j:Int)+1,[valM c.P ((j:Int)+1) poly]⟩]:=by rw [hs,post2,hcm];rfl
     clear hno hs
     refine W.run ?_
     refine W.kl0 (HpY c b (X++[(⟨hall,3,(j:Int)+1,[valM c.P ((j:Int)+1) poly]⟩,.ref (n+320+64) 0 0 1)]) (os++[(n+320+64,{ cells:=[.int .i64 (valM c.P ((j:Int)+1) poly)],sz:=1,ver:=0 })]) (n+448)) (HpY_num hb3 (by omega) (by omega) (by omega)) ⟨(j+1,X++[(⟨hall,3,(j:Int)+1,[valM c.P ((j:Int)+1) poly]⟩,.ref (n+320+64) 0 0 1)],os++[(n+320+64,{ cells:=[.int .i64 (valM c.P ((j:Int)+1) poly)],sz:=1,ver:=0 })],n+448),⟨by dsimp only;omega,?_,h3.num (x:=⟨hall,3,(j:Int)+1,[valM c.P ((j:Int)+1) poly]⟩) (by dsimp only;omega) (by dsimp only;decide)⟩,St_fr (by dsimp only;rw [List.length_append];rfl),by dsimp only;omega⟩ Nat.zero_lt_one
     dsimp only
     rw [List.map_append,h2,hs2];rfl
 ·have hj2 : j = c.H.toNat := by omega
  subst hj2
  obtain ⟨H',hf⟩:=InvY.fin (c:=c) (b:=b) h3
  unfold HpY at hf
  clear c1 c2 hdo c5 c6
  refine W.run ?_
  rw [h2] at hf
  exact W.retP rfl hf rfl
end Go.Dp
