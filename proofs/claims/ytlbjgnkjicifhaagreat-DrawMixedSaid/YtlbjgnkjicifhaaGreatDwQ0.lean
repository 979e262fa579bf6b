import Derived.Test.YtlbjgnkjicifhaaGreatDwM3
import Derived.Test.YtlbjgnkjicifhaaGreatDwE8
import Derived.Test.YtlbjgnkjicifhaaGreatDwC24
namespace Go.Dp
open Go.RowKit Go.Proofs
attribute [local irreducible] wp wpOps wpOp1 CallW CallT kSeq kBlk kLoop kReg retP retR kAsg kRound kRf kCut kItr kItr2
set_option linter.unusedVariables false
set_option linter.unusedSimpArgs false
theorem prime_sm {n:Int} (b:Nat) (h1:1 < n) (hb:n < ((b:Int)+1) * ((b:Int)+1)) (h:∀ d:Nat,d≤b→2≤d→n % (d:Int)≠0):PrimeI n:=by
 refine ⟨h1,fun d h2 h3=>?_⟩
 have h4:d≤b:=by
  rcases Int.lt_or_le (b:Int) d with h5 | h5
  ·have h6 : ((b : Int) + 1) * ((b : Int) + 1) ≤ d * d := Int.mul_le_mul (by omega) (by omega) (by omega) (by omega)
   omega
  ·exact h5
 have:=h d.toNat (by omega) (by omega)
 rwa [Int.toNat_of_nonneg (by omega)] at this
theorem pr11:PrimeI 11:=prime_sm 3 (by omega) (by decide) (by decide)
theorem pr23:PrimeI 23:=prime_sm 4 (by omega) (by decide) (by decide)
theorem find11:FindI 11 23 4 1 2 where
 hp:=⟨pr11,by omega,by omega⟩
 hK:=by omega
 hR:=by omega
 hR2:=by omega
 pr:=pr23
 mn:=fun k h0 h1 h=>by
  have e:k = 0:=by omega
  subst e
  exact h.2 2 (by omega) (by decide) (by decide)
 h2:=by omega
 hh:=by omega
 hG:=by decide
 hG1:=by omega
 hmn:=fun i h1 h2=>by omega
theorem grp11:GroupI 23 11 4 where
 hR:=by omega
 hP:=by omega
 hd:=by decide
 hG:=by omega
 pR:=pr23
 pP:=pr11
 one:=by decide
def awC:Cf:=⟨23,11,4,3,1,90⟩
def awP:List (List Int):=[[7,3],[1,1],[2,5]]
def brd0:Brd:=⟨[],[],[],[]⟩
def awB:Brd:=runB awC awP [] brd0
theorem aw_ok:awC.Ok:=⟨grp11,by unfold CfgI awC;dsimp only;omega⟩
theorem aw_r:awB.r.length = 9:=by kernel_rfl
theorem aw_ball:ballR awC awB = (11,0):=by kernel_rfl
theorem aw_bad:awP.any (badP awC.P awC.B) = false:=by kernel_rfl
theorem aw_poly:∀ q∈awP,q.length≠0→polyE awC.P q = 0:=fun q hq=>(polys_ok aw_ok (polys:=awP) (by decide) aw_bad q hq).2
theorem brd0_ok:brd0.Ok:=⟨⟨by decide,fun x h=>by cases h⟩,⟨by decide,fun x h=>by cases h⟩,⟨by decide,fun x h=>by cases h⟩,⟨by decide,fun x h=>by cases h⟩⟩
theorem brd0_vw:VW (.agg [.nils,.nils,.nils,.nils]) (bdV brd0):=.agg (.cons .nils (.cons .nils (.cons .nils (.cons .nils .nil))))
theorem rep6:List.replicate 6 (V.int .i64 0) = [.int .i64 0,.int .i64 0,.int .i64 0,.int .i64 0,.int .i64 0,.int .i64 0]:=rfl
@[go_sem] theorem fill3 {a b c d e f x y z:V} {rest:List (Nat × Nat × V)}:fillO [a,b,c,d,e,f] 0 3 rest (some [x,y,z]) = fillV [x,y,z,d,e,f] rest:=rfl
set_option maxRecDepth 10000 in
theorem k22:PureC Tryz.prog 22 [] (fun r=>r = .bool true):=by
 have c1:=k25 find11
 have c2:=(k15x awC aw_ok brd0 brd0_ok awP (by decide) [] (by decide) (by decide) (by decide) aw_bad).weak (VWL.cons (.refl awC.v) (VWL.cons (.refl (polV awP)) (VWL.cons brd0_vw (VWL.cons .nils .nil))))
 have c3:=k31 awC aw_ok awB (runB_ok aw_ok aw_poly (by decide) [] brd0_ok (by decide))
 have hf:awB.fits 400 = true:=runB_fits aw_ok aw_poly (by decide) [] (by decide)
 rw [hf,if_pos rfl,aw_ball] at c3
 clear hf
 have h1:=aw_r
 change PureC Tryz.prog 15 [.agg [.int .i64 23,.int .i64 11,.int .i64 4,.int .i64 3,.int .i64 1,.int .i64 90],.sl [.sl [.int .i64 7,.int .i64 3] 2,.sl [.int .i64 1,.int .i64 1] 2,.sl [.int .i64 2,.int .i64 5] 2] 3,.agg [.nils,.nils,.nils,.nils],.nils] (fun r=>r = .tup [bdV awB,.int .i64 0]) at c2
 change PureC Tryz.prog 31 [.agg [.int .i64 23,.int .i64 11,.int .i64 4,.int .i64 3,.int .i64 1,.int .i64 90],bdV awB] (fun r=>r = .tup [.int .i64 11,.int .i64 0]) at c3
 generalize awB = B at c2 c3 h1
 obtain ⟨d,c,a,r⟩:=B
 dsimp only at h1
 refine pureC_of_wp .x mixed ok22 rfl ?_
 unfold c22
 rw [rep6]
 dsimp only [argE]
 refine W.run ?_
 rfl
abbrev G3:=Int × Int × Int
def gC:List G3→List V
 | []=>[]
 | x::l=>[.int .i64 x.1,.int .i64 x.2.1,.int .i64 x.2.2]++gC l
theorem gC_len:∀ l,(gC l).length = l.length * 3
 | []=>rfl
 | x::l=>by simp [gC,gC_len l];omega
theorem gC_app:∀ l m,gC (l++m) = gC l++gC m
 | [],m=>rfl
 | x::l,m=>by simp [gC,gC_app l m]
theorem gC_atoms:∀ l,∀ v∈gC l,v.atom = true
 | [],v,h=>by cases h
 | x::l,v,h=>by
  simp only [gC,List.cons_append,List.nil_append,List.mem_cons] at h
  rcases h with rfl | rfl | rfl | h
  ·rfl
  ·rfl
  ·rfl
  ·exact gC_atoms l v h
def HpG (B:Hp) (oo:Nat) (G:List G3) (id ver:Nat):Hp:=if id = 0 then B.put oo { cells:=[.nils],sz:=1 } else (B.put oo { cells:=[.ref id ver 0 G.length],sz:=1 }).put id { cells:=gC G,sz:=3,ver:=ver }
section
variable {B:Hp} {oo id ver i:Nat} {G:List G3} {ob:Ob}
@[go_sem] theorem HpG_at (h1:i≠oo) (h2:id = 0∨i≠id):HpG B oo G id ver i = B i:=by
 unfold HpG
 split
 ·exact put_ne h1
 ·rw [put_ne (by omega),put_ne h1]
@[go_sem] theorem HpG_put (h1:i≠oo) (h2:id = 0∨i≠id):(HpG B oo G id ver).put i ob = HpG (B.put i ob) oo G id ver:=by
 unfold HpG
 split
 ·rw [put_comm (Ne.symm h1)]
 ·rw [put_comm (show id≠i by omega),put_comm (Ne.symm h1)]
@[go_sem] theorem HpG_mark {a:Nat} (h1:i≠oo) (h2:id = 0∨i≠id):(HpG B oo G id ver).mark i a = HpG (B.mark i a) oo G id ver:=by
 unfold Hp.mark
 rw [HpG_at h1 h2]
 cases B i with
 | none=>rfl
 | some ob=>exact HpG_put h1 h2
theorem HpG_HS {B':Hp} (h:HS B B'):HS (HpG B oo G id ver) (HpG B' oo G id ver):=by
 have hp:∀ {A A':Hp} {o:Nat} {ob:Ob},HS A A'→HS (A.put o ob) (A'.put o ob):=fun {A A' o ob} h i x e=>by
  simp only [Hp.put] at e ⊢
  split
  ·rename_i hc;rw [if_pos hc] at e;exact e
  ·rename_i hc;rw [if_neg hc] at e;exact h i x e
 unfold HpG
 split
 ·exact hp h
 ·exact hp (hp h)
end
def nid (id top:Nat):Nat:=if id = 0 then top else id
def nver (id ver:Nat):Nat:=if id = 0 then 0 else ver+1
theorem k75 (Y:Ys) (B:Hp) (oo top id ver:Nat) (G:List G3) (h w l:Int) (hid:id = 0∨(oo < id∧id < top)) (h0:id = 0→G = []) (hG:G.length < 2 ^ 20) (hoo:oo < top) (hfr:∀ j,top≤j→B j = none) :
  RefC Tryz.prog Y 75 [.int .i64 h,.int .i64 w,.int .i64 l,.ptr oo 0 0] (HpG B oo G id ver) top (fun r H' t=>r = .tup []∧H' = HpG B oo (G++[(h,w,l)]) (nid id (top+48)) (nver id ver)∧t = top+64):=by
 refine refC_of_wp mixed ok75 rfl ?_
 unfold c75
 dsimp only [argE]
 by_cases hz:id = 0
 ·rw [h0 hz]
  unfold HpG nid nver
  rw [if_pos hz,if_pos hz,if_pos hz,if_neg (by omega)]
  refine W.run ?_
  refine W.retRn rfl ?_ ⟨rfl,rfl,rfl⟩
  exact HS.put rfl (HS.skip (HS.refl _) (by rw [put_ne (by omega),hfr _ (by omega)]) _)
 ·have hl:=gC_len G
  unfold HpG nid nver
  rw [if_neg hz,if_neg hz,if_neg hz,if_neg hz]
  refine W.run ?_
  refine W.retRn rfl ?_ ⟨rfl,rfl,rfl⟩
  rw [gC_app,List.length_append,List.length_singleton]
  exact HS.skip (HS.refl _) (by rw [put_ne (by omega),put_ne (by omega),hfr _ (by omega)]) _
theorem hdG {B:Hp} {oo id ver ver' top:Nat} {G G':List G3}:∀ j,j < top→HpG B oo G id ver j = none→HpG B oo G' (nid id (top+48)) ver' j = none:=fun j hj h=>by
 unfold HpG nid at *
 by_cases hz:id = 0
 ·rw [if_pos hz] at h
  rw [if_pos hz,if_neg (by omega)]
  simp only [Hp.put] at h ⊢
  rw [if_neg (by omega)]
  by_cases ho:j = oo
  ·rw [if_pos ho] at h;cases h
  ·rw [if_neg ho] at h ⊢;exact h
 ·rw [if_neg hz] at h
  rw [if_neg hz,if_neg hz]
  simp only [Hp.put] at h ⊢
  by_cases h1:j = id
  ·rw [if_pos h1] at h;cases h
  ·rw [if_neg h1] at h ⊢
   by_cases ho:j = oo
   ·rw [if_pos ho] at h;cases h
   ·rw [if_neg ho] at h ⊢;exact h
theorem nid_ne {id i top:Nat} (h:id = 0∨i≠id) (ht:i < top):nid id top = 0∨i≠nid id top:=by
 unfold nid;split <;> omega
theorem nid_ne' {id i top:Nat} (h:i≠id) (ht:i < top):nid id top≠i:=by
 unfold nid;split <;> omega
theorem k76 (h:Int):PureC Tryz.prog 76 [.int .i64 h] (fun r=>r = .bool true):=by
 refine pureC_of_wp .x mixed ok76 rfl ?_
 unfold c76
 dsimp only [argE]
 refine W.run ?_
 rfl
theorem k80 (c:Cf) (hc:c.Ok) (b:Brd) (h k:Int) (hh:0≤h∧h≤16) (hk:0≤k∧k≤16):PureC Tryz.prog 80 [.int .i64 k,.fp [stV c b] 0,.fp [.int .i64 h] 0] (fun r=>r = .bool (b.compl c k h)):=by
 obtain ⟨n,rfl⟩:∃ n:Nat,h = n:=⟨h.toNat,by omega⟩
 obtain ⟨m,rfl⟩:∃ m:Nat,k = m:=⟨k.toNat,by omega⟩
 refine pureC_of_wp .x mixed ok80 rfl ?_
 unfold c80
 dsimp only [argE]
 refine W.run ?_
 rfl
def g1 (c:Cf) (b:Brd) (h:Int):List G3:=if 0≤twiceM c b h then [(h,1,twiceM c b h)] else []
def g2 (c:Cf) (b:Brd) (h:Int):List G3:=if 0≤b.first c h∧(b.deal c h).isSome = false then [(h,2,b.first c h)] else []
def g3 (c:Cf) (b:Brd) (h:Int):List G3:=(hallsL c fun k=>b.compl c k h).flatMap fun k=>if b.ans c h k < 0 then [(h,3,-1)] else []
def idxG (f:Nat→Ln→List G3):Nat→List Ln→List G3
 | _,[]=>[]
 | n,x::l=>f n x++idxG f (n+1) l
theorem idxG_succ (f:Nat→Ln→List G3):∀ (n:Nat) (l:List Ln) (i:Nat) (h:i < l.length),idxG f n (l.take (i+1)) = idxG f n (l.take i)++f (n+i) l[i]
 | n,x::l,0,_=>by simp [idxG]
 | n,x::l,i+1,h=>by
  have:=idxG_succ f (n+1) l i (by simpa using h)
  simp only [List.take_succ_cons,idxG,List.getElem_cons_succ]
  rw [this,List.append_assoc,show n+1+i = n+(i+1) by omega]
def q4 (c:Cf) (b:Brd) (h:Int) (i:Nat) (x:Ln):Bool:=decide (x.hall = h) && isHallB c.H x.other && decide (b.ans c h x.other = i) && b.compl c x.other h && !fitsM c b h x.other (x.nums.headD 0)
def g4 (c:Cf) (b:Brd) (h:Int):List G3:=idxG (fun i x=>if q4 c b h i x then [(h,4,(i:Int))] else []) 0 b.a
def q5 (c:Cf) (b:Brd) (h:Int) (x:Ln):Bool:=decide (x.hall = h) && ((revC c b x && !revR c b x) || (opnC c b x && !opnR c b x))
def g5 (c:Cf) (b:Brd) (h:Int):List G3:=idxG (fun i x=>if q5 c b h x then [(h,5,(i:Int))] else []) 0 b.r
def allH (c:Cf):List Int:=hallsL c fun _=>true
def dltH (c:Cf) (b:Brd):List Int:=hallsL c fun h=>(b.deal c h).isSome
def guiltM (c:Cf) (b:Brd):List G3:=(allH c).flatMap (g1 c b)++(allH c).flatMap (g2 c b)++(dltH c b).flatMap (g3 c b)++(dltH c b).flatMap (g4 c b)++(allH c).flatMap (g5 c b)
def InvG (oo:Nat) (G:List G3) (id n:Nat):Prop:=(id = 0∨(oo < id∧id < n))∧(id = 0→G = [])∧(id≠0→G.length≠0)
def gV (G:List G3):V:=if G.length = 0 then .nils else .sl (gC G) G.length
@[go_sem] theorem int_beq_t {a b:Int} (h:a = b):(a == b) = true:=by simp [h]
@[go_sem] theorem int_beq_f {a b:Int} (h:¬ a = b):(a == b) = false:=by simp [h]
theorem InvG.mono {oo:Nat} {G:List G3} {id n n':Nat} (h:InvG oo G id n) (hn:n≤n'):InvG oo G id n':=⟨by have:=h.1;omega,h.2⟩
theorem InvG.add {oo top:Nat} {G:List G3} {id n:Nat} {x:G3} (h:InvG oo G id top) (hn:top+64≤n) (ho:oo < top):InvG oo (G++[x]) (nid id (top+48)) n:=by
 unfold nid
 have:=h.1
 split
 ·exact ⟨.inr (by omega),fun e=>by omega,fun _=>by simp⟩
 ·exact ⟨by omega,fun e=>by omega,fun _=>by simp⟩
abbrev mpO:Ob:={ cells:=[],sz:=0,sp:=2,mp:=[(.int .i64 4,.clo (.func 129) [] []),(.int .i64 5,.clo (.func 130) [] [])] }
theorem k82 (Y:Ys) (H:Hp) (top:Nat) (hfr:∀ j,top≤j→H j = none):RefC Tryz.prog Y 82 [] H top (fun r H' t=>r = .mp (top+8)∧H' = H.put (top+8) mpO∧t = top+48):=by
 refine refC_of_wp mixed ok82 rfl ?_
 unfold c82
 dsimp only [argE]
 refine W.run ?_
 exact W.retR rfl (HS.refl _) ⟨rfl,rfl,rfl⟩
theorem ans_at' {c:Cf} {b:Brd} {h k:Int} {i:Nat} (hf:b.ans c h k = i):∃ hi:i < b.a.length,qAns c h k b.a[i] = true∧ansL c b h k = some b.a[i]:=by
 obtain ⟨h1,h2⟩:=fstI_get (q:=qAns c h k) (l:=b.a) (show 0≤b.ans c h k by omega)
 change (b.ans c h k).toNat < b.a.length at h1
 have e:(fstI (qAns c h k) b.a).toNat = i:=by
  show (b.ans c h k).toNat = i
  omega
 have hi:i < b.a.length:=by omega
 refine ⟨hi,?_⟩
 have h3:b.a.find? (qAns c h k) = some b.a[i]:=by
  rw [h2];simp only [e]
 exact ⟨List.find?_some h3,h3⟩
def HQ (c:Cf) (b:Brd) (z:Nat):Hp:=(((Hp.put (fun _=>none) 0 { cells:=[.int .i64 c.R,.int .i64 c.P,.int .i64 c.G,.int .i64 c.H,.int .i64 c.B,.int .i64 c.K],sz:=6 }).put 8 { cells:=[linV b.d,linV b.c,linV b.a,linV b.r],sz:=4 }).put 104 { cells:=[stV c b],sz:=1,fz:=z }).put 136 { cells:=[.clo (.func 75) [] [.ptr 120 0 0]],sz:=1 }
theorem HQ_none {c:Cf} {b:Brd} {z i:Nat} (h:136 < i):HQ c b z i = none:=by
 unfold HQ
 simp only [Hp.put]
 repeat (rw [if_neg (by omega)])
theorem allH_mem {c:Cf} {k:Int} (h:k∈allH c):1≤k∧k≤c.H:=by
 have:=rngH_mem.1 (List.mem_filter.1 h).1;omega
theorem dltH_mem {c:Cf} {b:Brd} {k:Int} (h:k∈dltH c b):(1≤k∧k≤c.H)∧(b.deal c k).isSome = true:=by
 have h1:=List.mem_filter.1 h
 have:=rngH_mem.1 h1.1
 exact ⟨by omega,h1.2⟩
theorem fits_len {most:Int} {b:Brd} (hf:b.fits most = true) (k:Nat):((b.at k).length:Int)≤most:=by
 have h:okL most (b.at k) = true:=by
  simp only [Brd.fits,Bool.and_eq_true] at hf
  match k with
  | 0=>exact hf.1.1.1
  | 1=>exact hf.1.1.2
  | 2=>exact hf.1.2
  | _+3=>exact hf.2
 unfold okL at h
 rw [Bool.and_eq_true] at h
 exact of_decide_eq_true h.1
theorem flat_take {f:Int→List G3} {L:List Int} {i:Nat} (hi:i < L.length):(L.take (i+1)).flatMap f = (L.take i).flatMap f++f L[i]:=by
 rw [← List.take_append_getElem hi,List.flatMap_append];simp
def rtC:C→C
 | .seq _ b=>b
 | c=>c
end Go.Dp
