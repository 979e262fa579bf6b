import Derived.Test.YtlbjgnkjicifhaaGreatDwE6
import Derived.Test.YtlbjgnkjicifhaaGreatDwC24
import Derived.Test.YtlbjgnkjicifhaaGreatDwL4
import Derived.Test.YtlbjgnkjicifhaaGreatDwC23
import Derived.Test.YtlbjgnkjicifhaaGreatDwL5
import Derived.Test.YtlbjgnkjicifhaaGreatDwC12
import Derived.Test.YtlbjgnkjicifhaaGreatDsM12
import Derived.Test.YtlbjgnkjicifhaaGreatDwB6
import Derived.Test.YtlbjgnkjicifhaaGreatDwE4
import Derived.Test.YtlbjgnkjicifhaaGreatDwC9
namespace Go.Dp
open Go.RowKit Go.Proofs
attribute [local irreducible] wp wpOps wpOp1 CallW CallT kSeq kBlk kLoop kReg retP retR kAsg kRound kRf kCut kItr kItr2
set_option linter.unusedVariables false
set_option linter.unusedSimpArgs false
abbrev HB (c:Cf) (b:Brd):Hp:=(Hp.put (fun _=>none) 0 { cells:=[.int .i64 c.R,.int .i64 c.P,.int .i64 c.G,.int .i64 c.H,.int .i64 c.B,.int .i64 c.K],sz:=6 }).put 8 { cells:=[linV b.d,linV b.c,linV b.a,linV b.r],sz:=4 }
theorem linC_j {l:List Ln} {i j:Nat} (h:i < l.length) (hj:j < 4):(linC l)[i * 4+j]? = (lnK l[i])[j]?:=by
 have e:((linC l).drop (i * 4)).take 4 = lnK l[i]:=linC_get h
 have:=congrArg (fun m=>m[j]?) e
 simp only [List.getElem?_take,hj,if_true,List.getElem?_drop] at this
 exact this
@[go_sem] theorem linC_0 {l:List Ln} {i:Nat} (h:i < l.length):(linC l)[i * 4]? = some (.int .i64 l[i].hall):=linC_j (j:=0) h (by omega)
@[go_sem] theorem linC_2 {l:List Ln} {i:Nat} (h:i < l.length):(linC l)[i * 4+2]? = some (.int .i64 l[i].other):=linC_j (j:=2) h (by omega)
theorem fits_at {most:Int} {b:Brd}:b.fits most = true↔∀ k,k < 4→okL most (b.at k) = true:=by
 simp only [Brd.fits,Bool.and_eq_true]
 constructor
 ·rintro ⟨⟨⟨h0,h1⟩,h2⟩,h3⟩ k hk
  match k with
  | 0=>exact h0
  | 1=>exact h1
  | 2=>exact h2
  | 3=>exact h3
  | k+4=>omega
 ·intro h
  exact ⟨⟨⟨h 0 (by omega),h 1 (by omega)⟩,h 2 (by omega)⟩,h 3 (by omega)⟩
theorem okL_all {most:Int} {l:List Ln} (h1:(l.length:Int)≤most) (h:∀ x∈l,¬ 64 < x.nums.length):okL most l = true:=by
 unfold okL
 rw [decide_eq_true h1,Bool.true_and,Bool.not_eq_true',List.any_eq_false]
 intro x hx;rw [decide_eq_true_eq];exact h x hx
def HpV (B:Hp) (os:List (Nat × Ob)) (lo n:Nat):Hp:=os.foldl (fun H p=>H.put p.1 p.2) B
def BV (os:List (Nat × Ob)) (lo n:Nat):Prop:=(os.map Prod.fst).Nodup∧∀ p∈os,lo < p.1∧p.1 < n
theorem HpV_snoc {B:Hp} {os:List (Nat × Ob)} {lo n n':Nat} {p:Nat × Ob}:HpV B (os++[p]) lo n' = (HpV B os lo n).put p.1 p.2:=by
 unfold HpV;rw [List.foldl_append];rfl
theorem HpV_at0 {i:Nat}:∀ (os:List (Nat × Ob)) (B:Hp),(∀ p∈os,p.1≠i)→os.foldl (fun H p=>H.put p.1 p.2) B i = B i
 | [],B,_=>rfl
 | p::os,B,h=>by
  rw [List.foldl_cons,HpV_at0 os _ fun q hq=>h q (by simp [hq]),put_ne (Ne.symm (h p (by simp)))]
theorem HpV_put0 {i:Nat} {ob:Ob}:∀ (os:List (Nat × Ob)) (B:Hp),(∀ p∈os,p.1≠i)→(os.foldl (fun H p=>H.put p.1 p.2) B).put i ob = os.foldl (fun H p=>H.put p.1 p.2) (B.put i ob)
 | [],B,_=>rfl
 | p::os,B,h=>by
  rw [List.foldl_cons,List.foldl_cons,HpV_put0 os _ fun q hq=>h q (by simp [hq]),put_comm (h p (by simp))]
theorem BV.nil {lo n:Nat}:BV [] lo n:=⟨List.nodup_nil,fun p hp=>by cases hp⟩
section
variable {B:Hp} {os:List (Nat × Ob)} {lo n i:Nat} {ob:Ob}
@[go_sem] theorem HpV_at (hb:BV os lo n) (hi:i≤lo∨n≤i):HpV B os lo n i = B i :=
 HpV_at0 os B fun p hp e=>by have:=hb.2 p hp;omega
@[go_sem] theorem HpV_put (hb:BV os lo n) (hi:i≤lo∨n≤i):(HpV B os lo n).put i ob = HpV (B.put i ob) os lo n :=
 HpV_put0 os B fun p hp e=>by have:=hb.2 p hp;omega
theorem HpV_HS {B':Hp} {n':Nat} (h:HS B B'):HS (HpV B os lo n') (HpV B' os lo n):=by
 unfold HpV
 induction os generalizing B B' with
 | nil=>exact h
 | cons p os ih =>
  rw [List.foldl_cons,List.foldl_cons]
  exact ih fun j x e=>by
   simp only [Hp.put] at e ⊢
   split
   ·rename_i hc;rw [if_pos hc] at e;exact e
   ·rename_i hc;rw [if_neg hc] at e;exact h j x e
theorem HpV_obj (hb:BV os lo n) {p:Nat × Ob} (hp:p∈os):HpV B os lo n p.1 = some p.2:=by
 have hn:=hb.1
 unfold HpV
 clear hb
 induction os generalizing B with
 | nil=>cases hp
 | cons q os ih =>
  have hn':=List.nodup_cons.1 hn
  rw [List.foldl_cons]
  rcases List.mem_cons.1 hp with rfl | hp
  ·rw [HpV_at0 os _ fun r hr e=>hn'.1 (List.mem_map.2 ⟨r,hr,e⟩),put_same]
  ·exact ih hp hn'.2
end
theorem BV.mono {os:List (Nat × Ob)} {lo n n':Nat} (h:BV os lo n) (hn:n≤n'):BV os lo n':=⟨h.1,fun p hp=>by have:=h.2 p hp;omega⟩
theorem BV.snoc {os:List (Nat × Ob)} {lo n n':Nat} {p:Nat × Ob} (h:BV os lo n) (hp:n≤p.1∧p.1 < n') (hlo:lo < n):BV (os++[p]) lo n':=by
 refine ⟨?_,fun q hq=>?_⟩
 ·rw [List.map_append]
  refine List.nodup_append.2 ⟨h.1,by simp,fun a ha b hb=>?_⟩
  obtain ⟨q,hq,rfl⟩:=List.mem_map.1 ha
  have:=h.2 q hq
  simp only [List.map_cons,List.map_nil,List.mem_singleton] at hb
  omega
 ·rcases List.mem_append.1 hq with hq | hq
  ·have:=h.2 q hq;omega
  ·rw [List.mem_singleton.1 hq];omega
def RdL (H:Hp) (p:Ln × V):Prop:=(p.1.kind = 2∧p.2 = .nils)∨(p.1.kind≠2∧∃ id ver z,p.2 = .ref id ver 0 p.1.nums.length∧H id = some { cells:=p.1.nums.map (V.int .i64),sz:=1,ver:=ver,fz:=z })
theorem RdL.mark {H:Hp} {p:Ln × V} {id a:Nat} (h:RdL H p):RdL (H.mark id a) p:=by
 rcases h with h | ⟨h1,id2,ver,z,h2,h3⟩
 ·exact .inl h
 ·refine .inr ⟨h1,id2,ver,?_⟩
  by_cases e:id2 = id
  ·subst e
   exact ⟨max z a,h2,by unfold Hp.mark;rw [h3];simp [Hp.put]⟩
  ·exact ⟨z,h2,by
    unfold Hp.mark
    cases H id with
    | none=>exact h3
    | some ob=>simp only;rw [put_ne e];exact h3⟩
theorem mapS_ints3 {k:Nat} {x:Ln} {l:List V} {H:Hp}:mapS (frz (k+1)) (V.int .i64 x.hall::.int .i64 x.kind::.int .i64 x.other::l) H = (mapS (frz (k+1)) l H).map fun r=>(V.int .i64 x.hall::.int .i64 x.kind::.int .i64 x.other::r.1,r.2):=by
 simp only [mapS]
 have e:∀ n,frz (k+1) (V.int .i64 n) H = some (.int .i64 n,H):=fun n=>rfl
 simp only [e,Option.bind_some]
 cases mapS (frz (k+1)) l H <;> rfl
theorem mapS_lnsC {k:Nat}:∀ (X:List (Ln × V)) (H:Hp),(∀ p∈X,RdL H p)→∃ H',mapS (frz (k+1)) (lnsC X) H = some (linN (X.map Prod.fst),H')∧∀ i,(∀ p∈X,∀ id ver len,p.2 = .ref id ver 0 len→id≠i)→H' i = H i
 | [],H,_=>⟨H,rfl,fun _ _=>rfl⟩
 | (x,v)::X,H,h=>by
  have h0:=h (x,v) (by simp)
  rcases h0 with ⟨h1,h2⟩ | ⟨h1,id,ver,z,h2,h3⟩
  ·dsimp only at h1 h2
   subst h2
   obtain ⟨H',hH',ho⟩:=mapS_lnsC (k:=k) X H fun q hq=>h q (by simp [hq])
   refine ⟨H',?_,fun i hi=>ho i fun q hq=>hi q (by simp [hq])⟩
   show mapS (frz (k+1)) (V.int .i64 x.hall::.int .i64 x.kind::.int .i64 x.other::.nils::lnsC X) H = _
   rw [mapS_ints3,mapS]
   have e:frz (k+1) V.nils H = some (.nils,H):=rfl
   rw [e]
   simp only [Option.bind_some,hH',Option.map_some,List.map_cons,linN,lnsC,lnC,nvL,if_pos h1]
   rfl
  ·dsimp only at h1 h2 h3
   subst h2
   obtain ⟨H',hH',ho⟩:=mapS_lnsC (k:=k) X (H.mark id (0+x.nums.length * 1)) fun q hq=>(h q (by simp [hq])).mark
   have hmk:∀ i,i≠id→(H.mark id (0+x.nums.length * 1)) i = H i:=fun i hi=>by unfold Hp.mark;rw [h3];simp only;rw [put_ne hi]
   refine ⟨H',?_,fun i hi=>by rw [ho i fun q hq=>hi q (by simp [hq]),hmk i (Ne.symm (hi (x,.ref id ver 0 x.nums.length) (by simp) id ver _ rfl))]⟩
   show mapS (frz (k+1)) (V.int .i64 x.hall::.int .i64 x.kind::.int .i64 x.other::.ref id ver 0 x.nums.length::lnsC X) H = _
   rw [mapS_ints3,mapS]
   have e:frz (k+1) (.ref id ver 0 x.nums.length) H = some (slI x.nums,H.mark id (0+x.nums.length * 1)):=by
    have hq:=frzRef_some (n:=k) (o:=id) (ver:=ver) (off:=0) (len:=x.nums.length) (H:=H) (ob:={ cells:=x.nums.map (V.int .i64),sz:=1,ver:=ver,fz:=z }) ⟨rfl,by simp,rfl⟩
    rw [frz_ref,h3,hq]
    simp only [List.drop_zero,Nat.mul_one,Nat.zero_add]
    rw [List.take_of_length_le (by simp),mapS_int1]
    rfl
   rw [e]
   simp only [Option.bind_some,hH',Option.map_some,List.map_cons,linN,lnsC,lnC,nvL,if_neg h1]
   rfl
def HpY (c:Cf) (b:Brd) (X:List (Ln × V)) (os:List (Nat × Ob)) (n:Nat):Hp:=HpV ((HB c b).put 24 { cells:=lnsC X,sz:=4,ver:=X.length,nl:=if X.length = 0 then 1 else 0 }) os 24 n
def InvY (X:List (Ln × V)) (os:List (Nat × Ob)) (n:Nat):Prop:=BV os 24 n∧24 < n∧∀ p∈X,(p.1.kind = 2∧p.1.nums = []∧p.2 = .nils)∨(p.1.kind≠2∧∃ id ver,p.2 = .ref id ver 0 p.1.nums.length∧(id,({ cells:=p.1.nums.map (V.int .i64),sz:=1,ver:=ver }:Ob))∈os)
theorem InvY.nil {n:Nat} (h:24 < n):InvY [] [] n:=⟨BV.nil,h,fun p hp=>by cases hp⟩
theorem InvY.mono {X:List (Ln × V)} {os:List (Nat × Ob)} {n n':Nat} (h:InvY X os n) (hn:n≤n'):InvY X os n':=⟨h.1.mono hn,by have:=h.2.1;omega,h.2.2⟩
theorem InvY.fin {c:Cf} {b:Brd} {X:List (Ln × V)} {os:List (Nat × Ob)} {n:Nat} (h:InvY X os n):∃ H',Go.Dp.fin 12 (.s 4) (.ref 24 X.length 0 X.length) (HpY c b X os n) = some (.own (linN (X.map Prod.fst)) (X.map Prod.fst).length 4,H'):=by
 have e24:HpY c b X os n 24 = some { cells:=lnsC X,sz:=4,ver:=X.length,nl:=if X.length = 0 then 1 else 0 }:=by
  unfold HpY;rw [HpV_at h.1 (by omega),put_same]
 have hRd:∀ p∈X,RdL (HpY c b X os n) p:=fun p hp=>by
  rcases h.2.2 p hp with ⟨h1,h2,h3⟩ | ⟨h1,id,ver,h2,h3⟩
  ·exact .inl ⟨h1,h3⟩
  ·exact .inr ⟨h1,id,ver,0,h2,HpV_obj h.1 h3⟩
 obtain ⟨H',hH',ho⟩:=mapS_lnsC (k:=10) X _ hRd
 have h24:H' 24 = some { cells:=lnsC X,sz:=4,ver:=X.length,nl:=if X.length = 0 then 1 else 0 }:=by
  rw [ho 24 fun p hp id ver len e=>?_,e24]
  rcases h.2.2 p hp with ⟨h1,h2,h3⟩ | ⟨h1,id2,ver2,h2,h3⟩
  ·rw [h3] at e;cases e
  ·rw [h2] at e;cases e
   have:=h.1.2 _ h3;dsimp only at this;omega
 refine ⟨H'.del 24,?_⟩
 rw [fin_sref,e24,finRefO_some (ob:={ cells:=lnsC X,sz:=4,ver:=X.length,nl:=if X.length = 0 then 1 else 0 }) ⟨rfl,rfl,rfl,rfl,by dsimp only;rw [lnsC_len];omega,rfl⟩,List.take_of_length_le (by dsimp only;rw [lnsC_len];omega),hH']
 simp only [Option.bind_some,finRef,h24,if_true]
 rw [List.length_map]
end Go.Dp
namespace Go.Dp
open Go.RowKit Go.Proofs
attribute [local irreducible] wp wpOps wpOp1 CallW CallT kSeq kBlk kLoop kReg retP retR kAsg kRound kRf kCut kItr kItr2
set_option linter.unusedVariables false
set_option linter.unusedSimpArgs false
theorem secs_poly {P:Int} {A:List Int} (h:secsB P A = true) (hl:1≤A.length∧A.length≤16):polyE P A = 0:=by
 refine polyE_of hl fun a ha=>?_
 rw [secsB,Bool.not_eq_true',List.any_eq_false] at h
 have:=h a ha
 simp only [decide_eq_true_eq,not_or] at this
 omega
abbrev G3:=Int × Int × Int
def gC:List G3→List V
 | []=>[]
 | x::l=>[.int .i64 x.1,.int .i64 x.2.1,.int .i64 x.2.2]++gC l
theorem gC_len:∀ l,(gC l).length = l.length * 3
 | []=>rfl
 | x::l=>by simp [gC,gC_len l];omega
theorem gC_app:∀ l m,gC (l++m) = gC l++gC m
 | [],m=>rfl
 | x::l,m=>by simp [gC,gC_app l m]
theorem gC_atoms:∀ l,∀ v∈gC l,v.atom = true
 | [],v,h=>by cases h
 | x::l,v,h=>by
  simp only [gC,List.cons_append,List.nil_append,List.mem_cons] at h
  rcases h with rfl | rfl | rfl | h
  ·rfl
  ·rfl
  ·rfl
  ·exact gC_atoms l v h
def HpG (B:Hp) (oo:Nat) (G:List G3) (id ver:Nat):Hp:=if id = 0 then B.put oo { cells:=[.nils],sz:=1 } else (B.put oo { cells:=[.ref id ver 0 G.length],sz:=1 }).put id { cells:=gC G,sz:=3,ver:=ver }
section
variable {B:Hp} {oo id ver i:Nat} {G:List G3} {ob:Ob}
@[go_sem] theorem HpG_at (h1:i≠oo) (h2:id = 0∨i≠id):HpG B oo G id ver i = B i:=by
 unfold HpG
 split
 ·exact put_ne h1
 ·rw [put_ne (by omega),put_ne h1]
@[go_sem] theorem HpG_put (h1:i≠oo) (h2:id = 0∨i≠id):(HpG B oo G id ver).put i ob = HpG (B.put i ob) oo G id ver:=by
 unfold HpG
 split
 ·rw [put_comm (Ne.symm h1)]
 ·rw [put_comm (show id≠i by omega),put_comm (Ne.symm h1)]
@[go_sem] theorem HpG_mark {a:Nat} (h1:i≠oo) (h2:id = 0∨i≠id):(HpG B oo G id ver).mark i a = HpG (B.mark i a) oo G id ver:=by
 unfold Hp.mark
 rw [HpG_at h1 h2]
 cases B i with
 | none=>rfl
 | some ob=>exact HpG_put h1 h2
theorem HpG_HS {B':Hp} (h:HS B B'):HS (HpG B oo G id ver) (HpG B' oo G id ver):=by
 have hp:∀ {A A':Hp} {o:Nat} {ob:Ob},HS A A'→HS (A.put o ob) (A'.put o ob):=fun {A A' o ob} h i x e=>by
  simp only [Hp.put] at e ⊢
  split
  ·rename_i hc;rw [if_pos hc] at e;exact e
  ·rename_i hc;rw [if_neg hc] at e;exact h i x e
 unfold HpG
 split
 ·exact hp h
 ·exact hp (hp h)
end
def nid (id top:Nat):Nat:=if id = 0 then top else id
def nver (id ver:Nat):Nat:=if id = 0 then 0 else ver+1
theorem k75 (Y:Ys) (B:Hp) (oo top id ver:Nat) (G:List G3) (h w l:Int) (hid:id = 0∨(oo < id∧id < top)) (h0:id = 0→G = []) (hG:G.length < 2 ^ 20) (hoo:oo < top) (hfr:∀ j,top≤j→B j = none) :
  RefC Tryz.prog Y 75 [.int .i64 h,.int .i64 w,.int .i64 l,.ptr oo 0 0] (HpG B oo G id ver) top (fun r H' t=>r = .tup []∧H' = HpG B oo (G++[(h,w,l)]) (nid id (top+48)) (nver id ver)∧t = top+64):=by
 refine refC_of_wp mixed ok75 rfl ?_
 unfold c75
 dsimp only [argE]
 by_cases hz:id = 0
 ·rw [h0 hz]
  unfold HpG nid nver
  rw [if_pos hz,if_pos hz,if_pos hz,if_neg (by omega)]
  refine W.run ?_
  refine W.retRn rfl ?_ ⟨rfl,rfl,rfl⟩
  exact HS.put rfl (HS.skip (HS.refl _) (by rw [put_ne (by omega),hfr _ (by omega)]) _)
 ·have hl:=gC_len G
  unfold HpG nid nver
  rw [if_neg hz,if_neg hz,if_neg hz,if_neg hz]
  refine W.run ?_
  refine W.retRn rfl ?_ ⟨rfl,rfl,rfl⟩
  rw [gC_app,List.length_append,List.length_singleton]
  exact HS.skip (HS.refl _) (by rw [put_ne (by omega),put_ne (by omega),hfr _ (by omega)]) _
theorem hdG {B:Hp} {oo id ver ver' top:Nat} {G G':List G3}:∀ j,j < top→HpG B oo G id ver j = none→HpG B oo G' (nid id (top+48)) ver' j = none:=fun j hj h=>by
 unfold HpG nid at *
 by_cases hz:id = 0
 ·rw [if_pos hz] at h
  rw [if_pos hz,if_neg (by omega)]
  simp only [Hp.put] at h ⊢
  rw [if_neg (by omega)]
  by_cases ho:j = oo
  ·rw [if_pos ho] at h;cases h
  ·rw [if_neg ho] at h ⊢;exact h
 ·rw [if_neg hz] at h
  rw [if_neg hz,if_neg hz]
  simp only [Hp.put] at h ⊢
  by_cases h1:j = id
  ·rw [if_pos h1] at h;cases h
  ·rw [if_neg h1] at h ⊢
   by_cases ho:j = oo
   ·rw [if_pos ho] at h;cases h
   ·rw [if_neg ho] at h ⊢;exact h
theorem nid_ne {id i top:Nat} (h:id = 0∨i≠id) (ht:i < top):nid id top = 0∨i≠nid id top:=by
 unfold nid;split <;> omega
theorem nid_ne' {id i top:Nat} (h:i≠id) (ht:i < top):nid id top≠i:=by
 unfold nid;split <;> omega
theorem k76 (h:Int):PureC Tryz.prog 76 [.int .i64 h] (fun r=>r = .bool true):=by
 refine pureC_of_wp .x mixed ok76 rfl ?_
 unfold c76
 dsimp only [argE]
 refine W.run ?_
 rfl
theorem k80 (c:Cf) (hc:c.Ok) (b:Brd) (h k:Int) (hh:0≤h∧h≤16) (hk:0≤k∧k≤16):PureC Tryz.prog 80 [.int .i64 k,.fp [stV c b] 0,.fp [.int .i64 h] 0] (fun r=>r = .bool (b.compl c k h)):=by
 obtain ⟨n,rfl⟩:∃ n:Nat,h = n:=⟨h.toNat,by omega⟩
 obtain ⟨m,rfl⟩:∃ m:Nat,k = m:=⟨k.toNat,by omega⟩
 refine pureC_of_wp .x mixed ok80 rfl ?_
 unfold c80
 dsimp only [argE]
 refine W.run ?_
 rfl
def g1 (c:Cf) (b:Brd) (h:Int):List G3:=if 0≤twiceM c b h then [(h,1,twiceM c b h)] else []
def g2 (c:Cf) (b:Brd) (h:Int):List G3:=if 0≤b.first c h∧(b.deal c h).isSome = false then [(h,2,b.first c h)] else []
def g3 (c:Cf) (b:Brd) (h:Int):List G3:=(hallsL c fun k=>b.compl c k h).flatMap fun k=>if b.ans c h k < 0 then [(h,3,-1)] else []
def idxG (f:Nat→Ln→List G3):Nat→List Ln→List G3
 | _,[]=>[]
 | n,x::l=>f n x++idxG f (n+1) l
theorem idxG_succ (f:Nat→Ln→List G3):∀ (n:Nat) (l:List Ln) (i:Nat) (h:i < l.length),idxG f n (l.take (i+1)) = idxG f n (l.take i)++f (n+i) l[i]
 | n,x::l,0,_=>by simp [idxG]
 | n,x::l,i+1,h=>by
  have:=idxG_succ f (n+1) l i (by simpa using h)
  simp only [List.take_succ_cons,idxG,List.getElem_cons_succ]
  rw [this,List.append_assoc,show n+1+i = n+(i+1) by omega]
def q4 (c:Cf) (b:Brd) (h:Int) (i:Nat) (x:Ln):Bool:=decide (x.hall = h) && isHallB c.H x.other && decide (b.ans c h x.other = i) && b.compl c x.other h && !fitsM c b h x.other (x.nums.headD 0)
def g4 (c:Cf) (b:Brd) (h:Int):List G3:=idxG (fun i x=>if q4 c b h i x then [(h,4,(i:Int))] else []) 0 b.a
def q5 (c:Cf) (b:Brd) (h:Int) (x:Ln):Bool:=decide (x.hall = h) && ((revC c b x && !revR c b x) || (opnC c b x && !opnR c b x))
def g5 (c:Cf) (b:Brd) (h:Int):List G3:=idxG (fun i x=>if q5 c b h x then [(h,5,(i:Int))] else []) 0 b.r
def allH (c:Cf):List Int:=hallsL c fun _=>true
def dltH (c:Cf) (b:Brd):List Int:=hallsL c fun h=>(b.deal c h).isSome
def guiltM (c:Cf) (b:Brd):List G3:=(allH c).flatMap (g1 c b)++(allH c).flatMap (g2 c b)++(dltH c b).flatMap (g3 c b)++(dltH c b).flatMap (g4 c b)++(allH c).flatMap (g5 c b)
def InvG (oo:Nat) (G:List G3) (id n:Nat):Prop:=(id = 0∨(oo < id∧id < n))∧(id = 0→G = [])∧(id≠0→G.length≠0)
def gV (G:List G3):V:=if G.length = 0 then .nils else .sl (gC G) G.length
@[go_sem] theorem int_beq_t {a b:Int} (h:a = b):(a == b) = true:=by simp [h]
@[go_sem] theorem int_beq_f {a b:Int} (h:¬ a = b):(a == b) = false:=by simp [h]
theorem InvG.mono {oo:Nat} {G:List G3} {id n n':Nat} (h:InvG oo G id n) (hn:n≤n'):InvG oo G id n':=⟨by have:=h.1;omega,h.2⟩
theorem InvG.add {oo top:Nat} {G:List G3} {id n:Nat} {x:G3} (h:InvG oo G id top) (hn:top+64≤n) (ho:oo < top):InvG oo (G++[x]) (nid id (top+48)) n:=by
 unfold nid
 have:=h.1
 split
 ·exact ⟨.inr (by omega),fun e=>by omega,fun _=>by simp⟩
 ·exact ⟨by omega,fun e=>by omega,fun _=>by simp⟩
abbrev mpO:Ob:={ cells:=[],sz:=0,sp:=2,mp:=[(.int .i64 4,.clo (.func 129) [] []),(.int .i64 5,.clo (.func 130) [] [])] }
theorem k82 (Y:Ys) (H:Hp) (top:Nat) (hfr:∀ j,top≤j→H j = none):RefC Tryz.prog Y 82 [] H top (fun r H' t=>r = .mp (top+8)∧H' = H.put (top+8) mpO∧t = top+48):=by
 refine refC_of_wp mixed ok82 rfl ?_
 unfold c82
 dsimp only [argE]
 refine W.run ?_
 exact W.retR rfl (HS.refl _) ⟨rfl,rfl,rfl⟩
theorem ans_at' {c:Cf} {b:Brd} {h k:Int} {i:Nat} (hf:b.ans c h k = i):∃ hi:i < b.a.length,qAns c h k b.a[i] = true∧ansL c b h k = some b.a[i]:=by
 obtain ⟨h1,h2⟩:=fstI_get (q:=qAns c h k) (l:=b.a) (show 0≤b.ans c h k by omega)
 change (b.ans c h k).toNat < b.a.length at h1
 have e:(fstI (qAns c h k) b.a).toNat = i:=by
  show (b.ans c h k).toNat = i
  omega
 have hi:i < b.a.length:=by omega
 refine ⟨hi,?_⟩
 have h3:b.a.find? (qAns c h k) = some b.a[i]:=by
  rw [h2];simp only [e]
 exact ⟨List.find?_some h3,h3⟩
def HQ (c:Cf) (b:Brd) (z:Nat):Hp:=(((Hp.put (fun _=>none) 0 { cells:=[.int .i64 c.R,.int .i64 c.P,.int .i64 c.G,.int .i64 c.H,.int .i64 c.B,.int .i64 c.K],sz:=6 }).put 8 { cells:=[linV b.d,linV b.c,linV b.a,linV b.r],sz:=4 }).put 104 { cells:=[stV c b],sz:=1,fz:=z }).put 136 { cells:=[.clo (.func 75) [] [.ptr 120 0 0]],sz:=1 }
theorem HQ_none {c:Cf} {b:Brd} {z i:Nat} (h:136 < i):HQ c b z i = none:=by
 unfold HQ
 simp only [Hp.put]
 repeat (rw [if_neg (by omega)])
theorem allH_mem {c:Cf} {k:Int} (h:k∈allH c):1≤k∧k≤c.H:=by
 have:=rngH_mem.1 (List.mem_filter.1 h).1;omega
theorem dltH_mem {c:Cf} {b:Brd} {k:Int} (h:k∈dltH c b):(1≤k∧k≤c.H)∧(b.deal c k).isSome = true:=by
 have h1:=List.mem_filter.1 h
 have:=rngH_mem.1 h1.1
 exact ⟨by omega,h1.2⟩
theorem fits_len {most:Int} {b:Brd} (hf:b.fits most = true) (k:Nat):((b.at k).length:Int)≤most:=by
 have h:okL most (b.at k) = true:=by
  simp only [Brd.fits,Bool.and_eq_true] at hf
  match k with
  | 0=>exact hf.1.1.1
  | 1=>exact hf.1.1.2
  | 2=>exact hf.1.2
  | _+3=>exact hf.2
 unfold okL at h
 rw [Bool.and_eq_true] at h
 exact of_decide_eq_true h.1
theorem flat_take {f:Int→List G3} {L:List Int} {i:Nat} (hi:i < L.length):(L.take (i+1)).flatMap f = (L.take i).flatMap f++f L[i]:=by
 rw [← List.take_append_getElem hi,List.flatMap_append];simp
def rtC:C→C
 | .seq _ b=>b
 | c=>c
end Go.Dp
namespace Go.Dp
open Go.RowKit Go.Proofs
attribute [local irreducible] wp wpOps wpOp1 CallW CallT kSeq kBlk kLoop kReg retP retR kAsg kRound kRf kCut kItr kItr2
set_option linter.unusedVariables false
set_option linter.unusedSimpArgs false
def NzE (p:Nat) (xs:List Ent):Prop:=∀ k (h:k < xs.length),p≤k→xs[k].id = 0
theorem NzE.frz {p:Nat} {xs:List Ent} (h:NzE p xs):NzE p (xs.map Ent.frz):=fun k hk hp=>by
 rw [List.length_map] at hk
 rw [List.getElem_map]
 exact h k hk hp
theorem NzE.set {p:Nat} {xs:List Ent} {e:Ent} (h:NzE p xs):NzE (p+1) (xs.set p e):=fun k hk hp=>by
 rw [List.length_set] at hk
 rw [List.getElem_set_ne (by omega)]
 exact h k hk (by omega)
theorem polysM_len (c:Cf) (l:List (List Int)):(polysM c l).length = c.H.toNat:=by simp [polysM]
theorem polyR_ok {c:Cf} (hc:c.Ok) {l:List (List Int)} (hx:∀ p∈l,p.length < 2 ^ 63∧∀ n∈p,B64 n) (h:Nat):(polyR c l h).length≠0→((polyR c l h).length:Int) = c.B+1∧polyE c.P (polyR c l h) = 0:=by
 have hr:=hc.rng
 have hP:=hc.1.hP
 intro hz
 have hl:(polyR c l h).length = (c.B+1).toNat:=by
  unfold polyR at hz ⊢
  split
  ·simp
  ·rename_i hn;rw [if_neg hn] at hz;simp at hz
 refine ⟨by omega,polyE_of (by omega) fun a ha=>?_⟩
 unfold polyR at ha
 split at ha
 ·obtain ⟨k,_,rfl⟩:=List.mem_map.1 ha
  unfold polyX
  split
  ·exact emod_rng (by omega)
  ·exact emod_rng (by omega)
 ·cases ha
theorem polysM_ok {c:Cf} (hc:c.Ok) {l:List (List Int)} (hx:∀ p∈l,p.length < 2 ^ 63∧∀ n∈p,B64 n):∀ q∈polysM c l,q.length≠0→(q.length:Int) = c.B+1∧polyE c.P q = 0:=fun q hq=>by
 obtain ⟨h,_,rfl⟩:=List.mem_map.1 hq
 exact polyR_ok hc hx h
end Go.Dp
namespace Go.Dp
open Go.RowKit Go.Proofs
set_option linter.unusedVariables false
set_option linter.unusedSimpArgs false
theorem nodup_len {M L:List Int} (hn:M.Nodup) (hs:∀ x∈M,x∈L):M.length≤L.length:=by
 rcases Nat.le_total L.length M.length with h | h
 ·exact Nat.le_of_eq (perm_of_sub hn hs h).length_eq
 ·exact h
def opnX (c:Cf) (b:Brd) (h j:Int):Bool:=b.r.any fun x=>opnR c b x && decide (x.other = h) && decide (x.hall = j)
def foundB (c:Cf) (b:Brd) (h j:Int):Bool:=ansB c b h j || opnX c b h j
def foundL (c:Cf) (b:Brd) (h:Int):List Int:=(rngH c.H.toNat).filter (foundB c b h)
def revB (c:Cf) (b:Brd) (h:Int):Bool:=b.r.any fun x=>revR c b x && decide (x.hall = h)
def PolyOf (c:Cf) (A a:List Int):Prop:=comM c.R c.G a = A∧a.length = A.length∧InF c.P a
theorem polyOf_ex {c:Cf} (hc:c.Ok) {b:Brd} (hb:b.Ok) {h:Int} {A:List Int} (e:b.deal c h = some A):∃ a,PolyOf c A a:=com_log hc.1 (deal_ok hb e).2.2.1
theorem fitsM_val {c:Cf} (hc:c.Ok) {b:Brd} {h x n:Int} {A a:List Int} (e:b.deal c h = some A) (ha:PolyOf c A a) (hf:fitsM c b h x n = true):n = valM c.P x a:=by
 unfold fitsM at hf
 rw [e] at hf
 simp only [fitB,Bool.and_eq_true,decide_eq_true_eq] at hf
 obtain ⟨⟨⟨⟨h1,h2⟩,h3⟩,h4⟩,h5⟩:=hf
 rw [← ha.1] at h5
 exact (fits_iff hc.1 (by omega) (fun y hy=>(ha.2.2 y hy).1) h3).1 h5
theorem fitsM_of {c:Cf} (hc:c.Ok) {b:Brd} (hb:b.Ok) {h x:Int} {A a:List Int} (e:b.deal c h = some A) (ha:PolyOf c A a) (hx:1≤x∧x≤c.H):fitsM c b h x (valM c.P x a) = true:=by
 have hr:=hc.rng
 have hP:=hc.1.hP
 have hd:=deal_ok hb e
 have hv:=valM_rng (P:=c.P) (x:=x) (by omega) a
 unfold fitsM
 rw [e]
 simp only [fitB,Bool.and_eq_true,decide_eq_true_eq]
 refine ⟨⟨⟨⟨by omega,by omega⟩,hv⟩,hd.2.2.1⟩,?_⟩
 rw [← ha.1]
 exact (fits_iff hc.1 (by omega) (fun y hy=>(ha.2.2 y hy).1) hv).2 rfl
theorem ansB_val {c:Cf} (hc:c.Ok) {b:Brd} {h k:Int} {A a:List Int} (e:b.deal c h = some A) (ha:PolyOf c A a) (hf:ansB c b h k = true):ansN c b h k = valM c.P k a:=by
 unfold ansB at hf
 unfold ansN
 split at hf
 ·rename_i x hx;exact fitsM_val hc e ha hf
 ·cases hf
theorem opnR_val {c:Cf} (hc:c.Ok) {b:Brd} {h:Int} {x:Ln} {A a:List Int} (e:b.deal c h = some A) (ha:PolyOf c A a) (hf:opnR c b x = true) (ho:x.other = h):x.nums.headD 0 = valM c.P x.hall a:=by
 simp only [opnR,Bool.and_eq_true] at hf
 exact fitsM_val hc (by rw [ho];exact e) ha hf.2
theorem plcL_val {c:Cf} (hc:c.Ok) {b:Brd} {h:Int} {A a:List Int} (e:b.deal c h = some A) (ha:PolyOf c A a):∀ p∈plcL c b h,p.2 = valM c.P p.1 a:=by
 intro p hp
 rcases List.mem_append.1 hp with hp | hp
 ·unfold plcA at hp
  obtain ⟨k,hk,rfl⟩:=List.mem_map.1 hp
  exact ansB_val hc e ha (List.mem_filter.1 hk).2
 ·unfold plcO at hp
  obtain ⟨x,hx,rfl⟩:=List.mem_map.1 hp
  have h2:=(List.mem_filter.1 hx).2
  rw [Bool.and_eq_true] at h2
  exact opnR_val hc e ha h2.1 (of_decide_eq_true h2.2)
theorem ansB_self {c:Cf} {b:Brd} {h:Int}:ansB c b h h = false:=by
 unfold ansB
 split
 ·rename_i x hx
  exfalso
  have:=List.find?_some hx
  simp [qAns,cntB] at this
  omega
 ·rfl
theorem plcL_found {c:Cf} (hc:c.Ok) {b:Brd} {h:Int} (k:Int):(k∈(plcL c b h).map Prod.fst)↔k∈foundL c b h:=by
 have hr:=hc.rng
 constructor
 ·intro hk
  obtain ⟨p,hp,rfl⟩:=List.mem_map.1 hk
  refine List.mem_filter.2 ?_
  rcases List.mem_append.1 hp with hp | hp
  ·unfold plcA at hp
   obtain ⟨k',hk',rfl⟩:=List.mem_map.1 hp
   obtain ⟨h1,h2⟩:=List.mem_filter.1 hk'
   refine ⟨(List.mem_filter.1 h1).1,?_⟩
   simp only [foundB,h2,Bool.true_or]
  ·have hok:=plcO_ok hc b h _ p hp
   unfold plcO at hp
   obtain ⟨x,hx',rfl⟩:=List.mem_map.1 hp
   obtain ⟨h1,h2⟩:=List.mem_filter.1 hx'
   refine ⟨rngH_mem.2 (by have:=hok.1;omega),?_⟩
   have:opnX c b h x.hall = true:=List.any_eq_true.2 ⟨x,h1,by simp only [h2,decide_true,Bool.and_true]⟩
   simp only [foundB,this,Bool.or_true]
 ·intro hk
  obtain ⟨h1,h2⟩:=List.mem_filter.1 hk
  unfold foundB at h2
  rw [Bool.or_eq_true] at h2
  rcases h2 with h2 | h2
  ·refine List.mem_map.2 ⟨(k,ansN c b h k),List.mem_append_left _ (List.mem_map.2 ⟨k,List.mem_filter.2 ⟨List.mem_filter.2 ⟨h1,?_⟩,h2⟩,rfl⟩),rfl⟩
   rw [decide_eq_true_eq]
   intro e;subst e;rw [ansB_self] at h2;cases h2
  ·obtain ⟨x,hx,h3⟩:=List.any_eq_true.1 h2
   rw [Bool.and_eq_true] at h3
   refine List.mem_map.2 ⟨(x.hall,x.nums.headD 0),List.mem_append_right _ (List.mem_map.2 ⟨x,List.mem_filter.2 ⟨hx,h3.1⟩,rfl⟩),of_decide_eq_true h3.2⟩
theorem addP_val {P B:Int} {a:List Int}:∀ (l:List (Int × Int)) (q:List Int × List Int),(∀ p∈l,p.2 = valM P p.1 a)→SharesOf P a q.1 q.2→SharesOf P a (l.foldl (addP B) q).1 (l.foldl (addP B) q).2
 | [],q,_,h=>h
 | p::l,q,hl,h=>by
  rw [List.foldl_cons]
  refine addP_val l _ (fun r hr=>hl r (by simp [hr])) ?_
  unfold addP
  split
  ·show q.2++[p.2] = (q.1++[p.1]).map fun x=>valM P x a
   rw [List.map_append,← h,hl p (by simp)];rfl
  ·exact h
theorem addP_keep {B:Int} {x:Int}:∀ (l:List (Int × Int)) (q:List Int × List Int),x∈q.1→x∈(l.foldl (addP B) q).1
 | [],q,h=>h
 | p::l,q,h=>by
  rw [List.foldl_cons]
  refine addP_keep l _ ?_
  unfold addP
  split
  ·exact List.mem_append_left _ h
  ·exact h
theorem addP_from {B:Int} {x:Int}:∀ (l:List (Int × Int)) (q:List Int × List Int),x∈(l.foldl (addP B) q).1→x∈q.1∨x∈l.map Prod.fst
 | [],q,h=>.inl h
 | p::l,q,h=>by
  rw [List.foldl_cons] at h
  rcases addP_from l _ h with h | h
  ·unfold addP at h
   split at h
   ·rcases List.mem_append.1 h with h | h
    ·exact .inl h
    ·exact .inr (by rw [List.mem_singleton.1 h];simp)
   ·exact .inl h
  ·exact .inr (by simp only [List.map_cons,List.mem_cons];exact .inr h)
theorem addP_full {B:Int}:∀ (l:List (Int × Int)) (q:List Int × List Int),((l.foldl (addP B) q).1.length:Int)≤B→∀ x∈l.map Prod.fst,x∈(l.foldl (addP B) q).1
 | [],q,_,x,hx=>by cases hx
 | p::l,q,h,x,hx=>by
  rw [List.foldl_cons] at h ⊢
  rcases List.mem_cons.1 hx with rfl | hx
  ·refine addP_keep l _ ?_
   have hle:((addP B q p).1.length:Int)≤B:=by
    have:∀ (l:List (Int × Int)) (q:List Int × List Int),q.1.length≤(l.foldl (addP B) q).1.length:=by
     intro l
     induction l with
     | nil=>intro q;exact Nat.le_refl _
     | cons p l ih =>
      intro q
      rw [List.foldl_cons]
      refine Nat.le_trans ?_ (ih _)
      unfold addP
      split
      ·simp
      ·exact Nat.le_refl _
    have:=this l (addP B q p)
    omega
   unfold addP at hle ⊢
   split
   ·simp
   ·rename_i hc
    rw [if_neg hc] at hle
    simp only [Bool.and_eq_true,decide_eq_true_eq,Bool.not_eq_true',decide_eq_false_iff_not,not_and,Classical.not_not] at hc
    exact hc hle
  ·exact addP_full l _ h x hx
theorem foundL_nodup (c:Cf) (b:Brd) (h:Int):(foundL c b h).Nodup:=by
 refine List.Pairwise.filter _ ?_
 unfold rngH
 rw [List.pairwise_map]
 exact List.nodup_range.imp fun hne e=>hne (by omega)
theorem accP_cnt {c:Cf} (hc:c.Ok) (b:Brd) (h:Int):((accP c b h).1.length:Int)≤c.B↔((foundL c b h).length:Int)≤c.B:=by
 have h0:=accP_ok hc b h
 constructor
 ·intro hle
  have:=nodup_len (foundL_nodup c b h) (L:=(accP c b h).1) fun x hx=>addP_full _ _ hle x ((plcL_found hc x).2 hx)
  omega
 ·intro hle
  have:=nodup_len h0.1 (L:=foundL c b h) fun x hx=>by
   rcases addP_from _ _ hx with hx | hx
   ·cases hx
   ·exact (plcL_found hc x).1 hx
  omega
theorem revS_some {c:Cf} (hc:c.Ok) {b:Brd} {h:Int} {A a:List Int} (e:b.deal c h = some A) (ha:PolyOf c A a):revS c b h = if revB c b h then some (a.headD 0) else none:=by
 unfold revS revB
 cases hf:b.r.find? fun x=>revR c b x && decide (x.hall = h) with
 | none =>
  rw [if_neg,Option.map_none]
  rw [List.any_eq_true]
  rintro ⟨x,hx,h2⟩
  exact absurd h2 (List.find?_eq_none.1 hf x hx)
 | some x =>
  have h1:=List.find?_some hf
  rw [if_pos (List.any_eq_true.2 ⟨x,List.mem_of_find?_eq_some hf,h1⟩),Option.map_some]
  simp only [revR,Bool.and_eq_true,decide_eq_true_eq] at h1
  obtain ⟨⟨h2,h3,h4⟩,h5⟩:=h1
  rw [h5,e,Option.some.injEq,← ha.1] at h4
  rw [com_inj hc.1 (polyE_rng h3) ha.2.2 h4]
theorem secM_eq {c:Cf} (hc:c.Ok) {b:Brd} (hb:b.Ok) {h:Int} {A a:List Int} (e:b.deal c h = some A) (ha:PolyOf c A a):secM c b h = if revB c b h || decide (c.B < (foundL c b h).length) then some (a.headD 0) else none:=by
 have hr:=hc.rng
 have hP:=hc.1.hP
 have hcnt:=accP_cnt hc b h
 have hok:=accP_ok hc b h
 have hd:=deal_ok hb e
 unfold secM
 rw [revS_some hc e ha]
 cases hrv:revB c b h
 ·simp only [Bool.false_or,decide_eq_true_eq,Bool.false_eq_true,if_false]
  by_cases hle:((accP c b h).1.length:Int)≤c.B
  ·rw [if_pos hle,if_neg (by have:=hcnt.1 hle;omega)]
  ·rw [if_neg hle, if_pos (by have := mt hcnt.2 hle; omega)]
   congr 1
   refine newt_zero hc.1.pP hP.1 (fun x hx=>by have:=hok.2.1 x hx;omega) hok.1 ha.2.2 (by have:=ha.2.1;omega) ?_
   exact addP_val _ _ (plcL_val hc e ha) rfl
 ·simp only [Bool.true_or,if_true]
end Go.Dp
namespace Go.Dp
open Go.RowKit Go.Proofs
attribute [local irreducible] wp wpOps wpOp1 CallW CallT kSeq kBlk kLoop kReg retP retR kAsg kRound kRf kCut kItr
set_option linter.unusedVariables false
set_option linter.unusedSimpArgs false
end Go.Dp
namespace Go.Dp
open Go.RowKit Go.Proofs
attribute [local irreducible] wp wpOps wpOp1 CallW CallT kSeq kBlk kLoop kReg retP retR kAsg kRound kRf kCut
set_option linter.unusedVariables false
set_option linter.unusedSimpArgs false
end Go.Dp
namespace Go.Dp
open Go.RowKit Go.Proofs
attribute [local irreducible] wp wpOps wpOp1 CallW CallT kSeq kBlk kLoop kReg retP retR kAsg kRound kRf kCut kItr
set_option linter.unusedVariables false
set_option linter.unusedSimpArgs false
end Go.Dp
namespace Go.Dp
open Go.RowKit Go.Proofs
attribute [local irreducible] wp wpOps wpOp1 CallW CallT kSeq kBlk kLoop kReg retP retR kAsg kRound kRf kCut kItr kItr2
set_option linter.unusedVariables false
set_option linter.unusedSimpArgs false
theorem allH_eq (c:Cf):allH c = rngH c.H.toNat:=by
 unfold allH hallsL;rw [List.filter_eq_self];intros;rfl
def upH (f:Int→List G3) (j:Nat):List G3:=(rngH j).flatMap f
theorem upH_len {f:Int→List G3} {m:Nat} (h:∀ k,(f k).length≤m) (j:Nat):(upH f j).length≤j * m:=by
 have:=flatMap_le h (rngH j)
 rwa [rngH_len] at this
def g3k (c:Cf) (b:Brd) (h k:Int):List G3:=if b.compl c k h = true∧b.ans c h k < 0 then [(h,3,-1)] else []
end Go.Dp
