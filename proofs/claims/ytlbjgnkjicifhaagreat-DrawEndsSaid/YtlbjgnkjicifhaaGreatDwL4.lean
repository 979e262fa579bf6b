import Derived.Test.YtlbjgnkjicifhaaGreatDwC24
import Derived.Test.YtlbjgnkjicifhaaGreatDwC23
import Derived.Test.YtlbjgnkjicifhaaGreatDwD1
import Derived.Test.YtlbjgnkjicifhaaGreatDwE4
namespace Go.Dp
open Go.RowKit Go.Proofs
set_option linter.unusedVariables false
set_option linter.unusedSimpArgs false
theorem postM_congr {c:Cf} {b b':Brd} {hall:Int} {poly got:List Int}:∀ {p:Nat},(∀ k,k < p→k < 3→b.at k = b'.at k)→postM c b hall poly got p = postM c b' hall poly got p
 | 0,_=>rfl
 | 1,h=>by
  obtain ⟨d,e,f,g⟩:=b
  obtain ⟨d',e',f',g'⟩:=b'
  have h0:d = d':=h 0 (by omega) (by omega)
  subst h0
  rfl
 | 2,h=>by
  obtain ⟨d,e,f,g⟩:=b
  obtain ⟨d',e',f',g'⟩:=b'
  have h0:d = d':=h 0 (by omega) (by omega)
  have h1:e = e':=h 1 (by omega) (by omega)
  subst h0;subst h1
  rfl
 | p+3,h=>by
  obtain ⟨d,e,f,g⟩:=b
  obtain ⟨d',e',f',g'⟩:=b'
  have h0:d = d':=h 0 (by omega) (by omega)
  have h1:e = e':=h 1 (by omega) (by omega)
  have h2:f = f':=h 2 (by omega) (by omega)
  subst h0;subst h1;subst h2
  rfl
theorem pollH_congr {c:Cf} {polys:List (List Int)} {lost:List (Int × Int)} {b b':Brd} {p h:Nat} (e:∀ k,k < p→k < 3→b.at k = b'.at k):pollH c polys lost b p h = pollH c polys lost b' p h:=by
 unfold pollH
 rw [postM_congr e]
def rfB (c:Cf) (polys:List (List Int)) (lost:List (Int × Int)) (b:Brd) (p:Nat):Brd:=brdOf (runL c polys lost b p)
theorem rfB_at (c:Cf) (polys:List (List Int)) (lost:List (Int × Int)) (b:Brd) {p k:Nat} (hp:p≤4) (hk:k < 4):(rfB c polys lost b p).at k = if k < p then (runX c polys lost b k).map Prod.fst else []:=by
 rw [rfB,brdOf_at (by rw [runL_len];omega) k hk,List.getD_eq_getElem?_getD]
 by_cases h:k < p
 ·rw [runL_get c polys lost b p k h,if_pos h];rfl
 ·rw [if_neg h,List.getElem?_eq_none (by rw [runL_len];omega)];rfl
theorem phB_rfB (c:Cf) (polys:List (List Int)) (lost:List (Int × Int)) (b:Brd) {p:Nat} (hp:p < 4) (h:Nat):pollH c polys lost (phB c polys lost b p) p h = pollH c polys lost (rfB c polys lost b p) p h :=
 pollH_congr fun k hk hk3=>by rw [phB_at c polys lost b hp (by omega),rfB_at c polys lost b (by omega) (by omega),if_pos hk,if_pos hk]
theorem runX_fst (c:Cf) (polys:List (List Int)) (lost:List (Int × Int)) (b:Brd) {p:Nat} (hp:p < 4):(runX c polys lost b p).map Prod.fst = b.at p++(List.range polys.length).flatMap (pollH c polys lost (rfB c polys lost b p) p):=by
 rw [runX,List.map_append,map_fst_pair,map_fst_pair,pollM]
 have e:pollH c polys lost (brdOf (runL c polys lost b p++[b.at p])) p = pollH c polys lost (rfB c polys lost b p) p:=funext fun h=>phB_rfB c polys lost b hp h
 rw [e]
theorem runB_at (c:Cf) (polys:List (List Int)) (lost:List (Int × Int)) (b:Brd) {k:Nat} (hk:k < 4):(runB c polys lost b).at k = (runX c polys lost b k).map Prod.fst:=by
 have:=rfB_at c polys lost b (p:=4) (Nat.le_refl _) hk
 rw [if_pos hk] at this
 exact this
theorem postM_num {c:Cf} (b:Brd) (hall:Int) {poly got:List Int} (hp:polyE c.P poly = 0) (p:Nat):∀ x∈postM c b hall poly got p,x.nums.length≤64:=by
 have hl:=polyE_len hp
 match p with
 | 0 =>
  intro x hx
  rw [postM,List.mem_singleton] at hx
  subst hx
  simp [comM];omega
 | 1 =>
  intro x hx
  simp only [postM,List.mem_flatMap] at hx
  obtain ⟨k,_,hx⟩:=hx
  unfold post1 at hx
  split at hx
  ·rw [List.mem_singleton] at hx;subst hx;simp
  ·simp at hx
 | 2 =>
  intro x hx
  simp only [postM,List.mem_flatMap] at hx
  obtain ⟨k,_,hx⟩:=hx
  unfold post2 at hx
  split at hx
  ·rw [List.mem_singleton] at hx;subst hx;simp
  ·simp at hx
 | p+3 =>
  intro x hx
  simp only [postM,List.mem_append,List.mem_flatMap] at hx
  rcases hx with hx | ⟨k,_,hx⟩
  ·unfold pre3 at hx
   split at hx
   ·rw [List.mem_singleton] at hx;subst hx;dsimp only;omega
   ·simp at hx
  ·unfold post3 at hx
   split at hx
   ·split at hx
    ·rw [List.mem_singleton] at hx;subst hx;simp
    ·split at hx
     ·rw [List.mem_singleton] at hx;subst hx;simp
     ·simp at hx
   ·simp at hx
theorem pollH_num {c:Cf} {polys:List (List Int)} (hp:∀ q∈polys,q.length≠0→polyE c.P q = 0) (lost:List (Int × Int)) (b:Brd) (p h:Nat):∀ x∈pollH c polys lost b p h,x.nums.length≤64:=by
 unfold pollH
 split
 ·simp
 ·rename_i hz
  refine postM_num b _ ?_ p
  have:h < polys.length:=by
   rcases Nat.lt_or_ge h polys.length with h1 | h1
   ·exact h1
   ·exfalso;apply hz;unfold polyAt;rw [List.getD_eq_getElem?_getD,List.getElem?_eq_none h1];rfl
  have e:polyAt polys h = polys[h]:=by unfold polyAt;rw [List.getD_eq_getElem?_getD,List.getElem?_eq_getElem this];rfl
  rw [e] at hz ⊢
  exact hp _ (List.getElem_mem this) hz
theorem fits_num {most:Int} {b:Brd} (hf:b.fits most = true) {k:Nat}:∀ x∈b.at k,x.nums.length≤64:=by
 have h:okL most (b.at k) = true:=by
  simp only [Brd.fits,Bool.and_eq_true] at hf
  match k with
  | 0=>exact hf.1.1.1
  | 1=>exact hf.1.1.2
  | 2=>exact hf.1.2
  | _+3=>exact hf.2
 intro x hx
 unfold okL at h
 rw [Bool.and_eq_true,Bool.not_eq_true',List.any_eq_false] at h
 have:=h.2 x hx
 rw [decide_eq_true_eq] at this;omega
theorem fits_of {most:Int} {b:Brd} (h:∀ k,k < 4→((b.at k).length:Int)≤most∧∀ x∈b.at k,x.nums.length≤64):b.fits most = true:=by
 have hk:∀ k,k < 4→okL most (b.at k) = true:=fun k hk=>by
  obtain ⟨h1,h2⟩:=h k hk
  unfold okL
  rw [decide_eq_true h1,Bool.true_and,Bool.not_eq_true',List.any_eq_false]
  intro x hx
  rw [decide_eq_true_eq]
  have:=h2 x hx
  omega
 have h0:=hk 0 (by omega)
 have h1:=hk 1 (by omega)
 have h2:=hk 2 (by omega)
 have h3:=hk 3 (by omega)
 simp only [Brd.at] at h0 h1 h2 h3
 simp only [Brd.fits,h0,h1,h2,h3,Bool.and_self]
theorem runB_ok {c:Cf} (hc:c.Ok) {polys:List (List Int)} (hp:∀ q∈polys,q.length≠0→polyE c.P q = 0) (hn:polys.length≤16) (lost:List (Int × Int)) {b:Brd} (hb:b.Ok) (hf:b.fits 100 = true):(runB c polys lost b).Ok :=
 Brd.ok_at fun k hk=>by rw [runB_at c polys lost b hk];exact runX_ok hc hp hn lost hb hf k
theorem runB_fits {c:Cf} (hc:c.Ok) {polys:List (List Int)} (hp:∀ q∈polys,q.length≠0→polyE c.P q = 0) (hn:polys.length≤16) (lost:List (Int × Int)) {b:Brd} (hf:b.fits 100 = true):(runB c polys lost b).fits 400 = true :=
 fits_of fun k hk=>by
  rw [runB_at c polys lost b hk]
  constructor
  ·rw [List.length_map,← curX_end]
   have:=curX_len hc hp lost hf k polys.length
   omega
  ·rw [runX_fst c polys lost b hk]
   intro x hx
   rcases List.mem_append.1 hx with hx | hx
   ·exact fits_num hf x hx
   ·obtain ⟨h,_,hx⟩:=List.mem_flatMap.1 hx
    exact pollH_num hp lost _ k h x hx
end Go.Dp
namespace Go.Dp
open Go.RowKit Go.Proofs
attribute [local irreducible] wp wpOps wpOp1 CallW CallT kSeq kBlk kLoop kReg retP retR kAsg kRound kRf kCut kItr kItr2
set_option linter.unusedVariables false
set_option linter.unusedSimpArgs false
theorem prime_sm {n:Int} (b:Nat) (h1:1 < n) (hb:n < ((b:Int)+1) * ((b:Int)+1)) (h:∀ d:Nat,d≤b→2≤d→n % (d:Int)≠0):PrimeI n:=by
 refine ⟨h1,fun d h2 h3=>?_⟩
 have h4:d≤b:=by
  rcases Int.lt_or_le (b:Int) d with h5 | h5
  ·have h6 : ((b : Int) + 1) * ((b : Int) + 1) ≤ d * d := Int.mul_le_mul (by omega) (by omega) (by omega) (by omega)
   omega
  ·exact h5
 have:=h d.toNat (by omega) (by omega)
 rwa [Int.toNat_of_nonneg (by omega)] at this
theorem pr11:PrimeI 11:=prime_sm 3 (by omega) (by decide) (by decide)
theorem pr23:PrimeI 23:=prime_sm 4 (by omega) (by decide) (by decide)
theorem find11:FindI 11 23 4 1 2 where
 hp:=⟨pr11,by omega,by omega⟩
 hK:=by omega
 hR:=by omega
 hR2:=by omega
 pr:=pr23
 mn:=fun k h0 h1 h=>by
  have e:k = 0:=by omega
  subst e
  exact h.2 2 (by omega) (by decide) (by decide)
 h2:=by omega
 hh:=by omega
 hG:=by decide
 hG1:=by omega
 hmn:=fun i h1 h2=>by omega
theorem grp11:GroupI 23 11 4 where
 hR:=by omega
 hP:=by omega
 hd:=by decide
 hG:=by omega
 pR:=pr23
 pP:=pr11
 one:=by decide
def awC:Cf:=⟨23,11,4,3,1,90⟩
def awP:List (List Int):=[[7,3],[1,1],[2,5]]
def brd0:Brd:=⟨[],[],[],[]⟩
def awB:Brd:=runB awC awP [] brd0
theorem aw_ok:awC.Ok:=⟨grp11,by unfold CfgI awC;dsimp only;omega⟩
theorem aw_r:awB.r.length = 9:=by kernel_rfl
theorem aw_ball:ballR awC awB = (11,0):=by kernel_rfl
theorem aw_bad:awP.any (badP awC.P awC.B) = false:=by kernel_rfl
theorem aw_poly:∀ q∈awP,q.length≠0→polyE awC.P q = 0:=fun q hq=>(polys_ok aw_ok (polys:=awP) (by decide) aw_bad q hq).2
theorem brd0_ok:brd0.Ok:=⟨⟨by decide,fun x h=>by cases h⟩,⟨by decide,fun x h=>by cases h⟩,⟨by decide,fun x h=>by cases h⟩,⟨by decide,fun x h=>by cases h⟩⟩
theorem brd0_vw:VW (.agg [.nils,.nils,.nils,.nils]) (bdV brd0):=.agg (.cons .nils (.cons .nils (.cons .nils (.cons .nils .nil))))
theorem rep6:List.replicate 6 (V.int .i64 0) = [.int .i64 0,.int .i64 0,.int .i64 0,.int .i64 0,.int .i64 0,.int .i64 0]:=rfl
@[go_sem] theorem fill3 {a b c d e f x y z:V} {rest:List (Nat × Nat × V)}:fillO [a,b,c,d,e,f] 0 3 rest (some [x,y,z]) = fillV [x,y,z,d,e,f] rest:=rfl
set_option maxRecDepth 10000 in
theorem k22:PureC Tryz.prog 22 [] (fun r=>r = .bool true):=by
 have c1:=k25 find11
 have c2:=(k15x awC aw_ok brd0 brd0_ok awP (by decide) [] (by decide) (by decide) (by decide) aw_bad).weak (VWL.cons (.refl awC.v) (VWL.cons (.refl (polV awP)) (VWL.cons brd0_vw (VWL.cons .nils .nil))))
 have c3:=k31 awC aw_ok awB (runB_ok aw_ok aw_poly (by decide) [] brd0_ok (by decide))
 have hf:awB.fits 400 = true:=runB_fits aw_ok aw_poly (by decide) [] (by decide)
 rw [hf,if_pos rfl,aw_ball] at c3
 clear hf
 have h1:=aw_r
 change PureC Tryz.prog 15 [.agg [.int .i64 23,.int .i64 11,.int .i64 4,.int .i64 3,.int .i64 1,.int .i64 90],.sl [.sl [.int .i64 7,.int .i64 3] 2,.sl [.int .i64 1,.int .i64 1] 2,.sl [.int .i64 2,.int .i64 5] 2] 3,.agg [.nils,.nils,.nils,.nils],.nils] (fun r=>r = .tup [bdV awB,.int .i64 0]) at c2
 change PureC Tryz.prog 31 [.agg [.int .i64 23,.int .i64 11,.int .i64 4,.int .i64 3,.int .i64 1,.int .i64 90],bdV awB] (fun r=>r = .tup [.int .i64 11,.int .i64 0]) at c3
 generalize awB = B at c2 c3 h1
 obtain ⟨d,c,a,r⟩:=B
 dsimp only at h1
 refine pureC_of_wp .x mixed ok22 rfl ?_
 unfold c22
 rw [rep6]
 dsimp only [argE]
 refine W.run ?_
 rfl
theorem pr13:PrimeI 13:=prime_sm 3 (by omega) (by decide) (by decide)
theorem pr17:PrimeI 17:=prime_sm 4 (by omega) (by decide) (by decide)
theorem pr31:PrimeI 31:=prime_sm 5 (by omega) (by decide) (by decide)
theorem pr97:PrimeI 97:=prime_sm 9 (by omega) (by decide) (by decide)
theorem pr251:PrimeI 251:=prime_sm 15 (by omega) (by decide) (by decide)
theorem get_at {l:List V} {n k:Nat} (e:n = k) (h:n < l.length):l[n]'h = l[k]'(e ▸ h):=by subst e;rfl
def HTm (c:Cf) (x:Cf):Hp:=((Hp.put (fun _=>none) 0 { cells:=[.int .i64 c.R,.int .i64 c.P,.int .i64 c.G,.int .i64 c.H,.int .i64 c.B,.int .i64 c.K],sz:=6 }).put 8 { cells:=[.int .i64 0,.int .i64 0,.int .i64 0,.int .i64 0,.int .i64 0,.int .i64 0],sz:=6 }).put 48 { cells:=[.int .i64 x.R,.int .i64 x.P,.int .i64 x.G,.int .i64 x.H,.int .i64 x.B,.int .i64 x.K],sz:=6 }
set_option maxRecDepth 10000 in
set_option maxHeartbeats 2000000 in
theorem k12 (c:Cf) (hb:B64 c.R∧B64 c.P∧B64 c.G∧B64 c.H∧B64 c.B∧B64 c.K) (most:Int) (hm:2≤most∧most≤6):PureC Tryz.prog 12 [c.v,.int .i64 most] (fun r=>∃ x:Cf,x.Ok∧x.H≤most∧11≤x.P∧r = x.v):=by
 obtain ⟨w1,w2,w3,w4,w5,w6⟩:=hb
 unfold B64 at w1 w2 w3 w4 w5 w6
 refine pureC_of_wp .x mixed ok12 rfl ?_
 unfold c12
 rw [rep6]
 dsimp only [argE,Cf.v,cfgV]
 refine W.assoc (W.assoc (W.cut (fun _:Unit=>[(1,.int .i64 most),(2,.ptr 0 0 0),(4,.ptr 8 0 0),(5,.ptr 24 0 0),(6,.ptr 48 0 0)]) (fun _=>(HTm c c).put 24 { cells:=[.int .i64 11,.int .i64 13,.int .i64 17,.int .i64 31,.int .i64 97,.int .i64 251],sz:=6 }) (fun _=>True) 0 ?_ ?_))
 ·rintro _ n _ _
  -- the group
  refine W.cut (fun x:Int × Int × Int=>[(1,.int .i64 most),(2,.ptr 0 0 0),(4,.ptr 8 0 0),(6,.ptr 48 0 0)]) (fun x=>HTm c ⟨x.1,x.2.1,x.2.2,c.H,c.B,c.K⟩) (fun x=>GroupI x.1 x.2.1 x.2.2∧11≤x.2.1) n ?_ ?_
  ·rintro ⟨R,P,G⟩ n1 ⟨hg,hP⟩ hn1
   dsimp only at hg hP ⊢
   -- the halls
   refine W.cut (fun x:Int=>[(2,.ptr 0 0 0),(4,.ptr 8 0 0),(6,.ptr 48 0 0)]) (fun x=>HTm c ⟨R,P,G,x,c.B,c.K⟩) (fun x=>2≤x∧x≤most) n1 ?_ ?_
   ·rintro H n2 hH hn2
    -- the bound
    refine W.cut (fun x:Int=>[(2,.ptr 0 0 0),(4,.ptr 8 0 0),(6,.ptr 48 0 0)]) (fun x=>HTm c ⟨R,P,G,H,x,c.K⟩) (fun x=>0≤x∧x < H) n2 ?_ ?_
    ·rintro B n3 hB hn3
     -- the balls
     refine W.cut (fun x:Int=>[(4,.ptr 8 0 0),(6,.ptr 48 0 0)]) (fun x=>HTm c ⟨R,P,G,H,B,x⟩) (fun x=>1≤x∧x≤90) n3 ?_ ?_
     ·rintro K n4 hK hn4
      have hok:Cf.Ok ⟨R,P,G,H,B,K⟩:=⟨hg,by unfold CfgI;dsimp only;omega⟩
      unfold HTm
      dsimp only
      refine W.run ?_
      exact ⟨⟨R,P,G,H,B,K⟩,hok,hH.2,hP,rfl⟩
     ·intro Gk hG
      unfold HTm at hG ⊢
      dsimp only at hG ⊢
      by_cases h1:1≤c.K
      ·by_cases h2:c.K≤90
       ·refine W.run ?_
        exact W.kc hG c.K ⟨h1,h2⟩ (by omega) (HS.refl _)
       ·refine W.run ?_
        exact W.kc hG _ (by omega) (by omega) (HS.refl _)
      ·refine W.run ?_
       exact W.kc hG _ (by omega) (by omega) (HS.refl _)
    ·intro Gk hG
     unfold HTm at hG ⊢
     dsimp only at hG ⊢
     have hm1:=emod_rng (a:=c.B % 18446744073709551616) (P:=H) (by omega)
     have hm2:=emod_rng (a:=c.B) (P:=H) (by omega)
     by_cases h1:0≤c.B
     ·by_cases h2:c.B < H
      ·refine W.run ?_
       exact W.kc hG c.B ⟨h1,h2⟩ (by omega) (HS.refl _)
      ·refine W.run ?_
       exact W.kc hG _ (by omega) (by omega) (HS.refl _)
     ·refine W.run ?_
      exact W.kc hG _ (by omega) (by omega) (HS.refl _)
   ·intro Gk hG
    unfold HTm at hG ⊢
    dsimp only at hG ⊢
    have hm1:=emod_rng (a:=c.H % 18446744073709551616) (P:=most - 1) (by omega)
    have hm2:=emod_rng (a:=c.H) (P:=most - 1) (by omega)
    by_cases h1:2≤c.H
    ·by_cases h2:c.H≤most
     ·refine W.run ?_
      exact W.kc hG c.H ⟨h1,h2⟩ (by omega) (HS.refl _)
     ·refine W.run ?_
      exact W.kc hG _ (by omega) (by omega) (HS.refl _)
    ·refine W.run ?_
     exact W.kc hG _ (by omega) (by omega) (HS.refl _)
  ·intro Gk hG
   refine W.cut (fun x:Bool=>[(1,.int .i64 most),(2,.ptr 0 0 0),(4,.ptr 8 0 0),(5,.ptr 24 0 0),(6,.ptr 48 0 0),(30,.bool x)]) (fun _=>(HTm c c).put 24 { cells:=[.int .i64 11,.int .i64 13,.int .i64 17,.int .i64 31,.int .i64 97,.int .i64 251],sz:=6 }) (fun x=>x = false→GroupI c.R c.P c.G∧11≤c.P) n ?_ ?_
   ·rintro t n1 ht hn1
    unfold HTm at hG ⊢
    dsimp only at hG ⊢
    cases t
    ·obtain ⟨hg,hP⟩:=ht rfl
     refine W.run ?_
     exact W.kc hG (c.R,c.P,c.G) ⟨hg,hP⟩ (by omega) (HS.skip (HS.refl _) (by simp only [Hp.put];repeat (rw [if_neg (by omega)])) _)
    ·have hu : c.H % 18446744073709551616 % 6 = 0 ∨ c.H % 18446744073709551616 % 6 = 1 ∨ c.H % 18446744073709551616 % 6 = 2 ∨ c.H % 18446744073709551616 % 6 = 3 ∨ c.H % 18446744073709551616 % 6 = 4 ∨ c.H % 18446744073709551616 % 6 = 5 := by omega
     obtain ⟨R1,G1,_,_,f1,g1⟩:=find_ex pr11 (by omega) (by omega)
     obtain ⟨R2,G2,_,_,f2,g2⟩:=find_ex pr13 (by omega) (by omega)
     obtain ⟨R3,G3,_,_,f3,g3⟩:=find_ex pr17 (by omega) (by omega)
     obtain ⟨R4,G4,_,_,f4,g4⟩:=find_ex pr31 (by omega) (by omega)
     obtain ⟨R5,G5,_,_,f5,g5⟩:=find_ex pr97 (by omega) (by omega)
     obtain ⟨R6,G6,_,_,f6,g6⟩:=find_ex pr251 (by omega) (by omega)
     have c1:=k25 f1
     have c2:=k25 f2
     have c3:=k25 f3
     have c4:=k25 f4
     have c5:=k25 f5
     have c6:=k25 f6
     clear f1 f2 f3 f4 f5 f6
     rcases hu with hu | hu | hu | hu | hu | hu
     ·have hx : ∀ hh : (c.H % 18446744073709551616 % 6).toNat < [V.int .i64 11, V.int .i64 13, V.int .i64 17, V.int .i64 31, V.int .i64 97, V.int .i64 251].length, [V.int .i64 11, V.int .i64 13, V.int .i64 17, V.int .i64 31, V.int .i64 97, V.int .i64 251][(c.H % 18446744073709551616 % 6).toNat]'hh = V.int .i64 11 := fun hh => (get_at (k := 0) (by omega) hh).trans rfl
      refine W.run ?_
      rw [hx]
      refine W.run ?_
      exact W.kc hG (R1,11,G1) ⟨g1,by dsimp only;omega⟩ (by omega) (HS.p (HS.p (HS.p (HS.emp _))))
     ·have hx : ∀ hh : (c.H % 18446744073709551616 % 6).toNat < [V.int .i64 11, V.int .i64 13, V.int .i64 17, V.int .i64 31, V.int .i64 97, V.int .i64 251].length, [V.int .i64 11, V.int .i64 13, V.int .i64 17, V.int .i64 31, V.int .i64 97, V.int .i64 251][(c.H % 18446744073709551616 % 6).toNat]'hh = V.int .i64 13 := fun hh => (get_at (k := 1) (by omega) hh).trans rfl
      refine W.run ?_
      rw [hx]
      refine W.run ?_
      exact W.kc hG (R2,13,G2) ⟨g2,by dsimp only;omega⟩ (by omega) (HS.p (HS.p (HS.p (HS.emp _))))
     ·have hx : ∀ hh : (c.H % 18446744073709551616 % 6).toNat < [V.int .i64 11, V.int .i64 13, V.int .i64 17, V.int .i64 31, V.int .i64 97, V.int .i64 251].length, [V.int .i64 11, V.int .i64 13, V.int .i64 17, V.int .i64 31, V.int .i64 97, V.int .i64 251][(c.H % 18446744073709551616 % 6).toNat]'hh = V.int .i64 17 := fun hh => (get_at (k := 2) (by omega) hh).trans rfl
      refine W.run ?_
      rw [hx]
      refine W.run ?_
      exact W.kc hG (R3,17,G3) ⟨g3,by dsimp only;omega⟩ (by omega) (HS.p (HS.p (HS.p (HS.emp _))))
     ·have hx : ∀ hh : (c.H % 18446744073709551616 % 6).toNat < [V.int .i64 11, V.int .i64 13, V.int .i64 17, V.int .i64 31, V.int .i64 97, V.int .i64 251].length, [V.int .i64 11, V.int .i64 13, V.int .i64 17, V.int .i64 31, V.int .i64 97, V.int .i64 251][(c.H % 18446744073709551616 % 6).toNat]'hh = V.int .i64 31 := fun hh => (get_at (k := 3) (by omega) hh).trans rfl
      refine W.run ?_
      rw [hx]
      refine W.run ?_
      exact W.kc hG (R4,31,G4) ⟨g4,by dsimp only;omega⟩ (by omega) (HS.p (HS.p (HS.p (HS.emp _))))
     ·have hx : ∀ hh : (c.H % 18446744073709551616 % 6).toNat < [V.int .i64 11, V.int .i64 13, V.int .i64 17, V.int .i64 31, V.int .i64 97, V.int .i64 251].length, [V.int .i64 11, V.int .i64 13, V.int .i64 17, V.int .i64 31, V.int .i64 97, V.int .i64 251][(c.H % 18446744073709551616 % 6).toNat]'hh = V.int .i64 97 := fun hh => (get_at (k := 4) (by omega) hh).trans rfl
      refine W.run ?_
      rw [hx]
      refine W.run ?_
      exact W.kc hG (R5,97,G5) ⟨g5,by dsimp only;omega⟩ (by omega) (HS.p (HS.p (HS.p (HS.emp _))))
     ·have hx : ∀ hh : (c.H % 18446744073709551616 % 6).toNat < [V.int .i64 11, V.int .i64 13, V.int .i64 17, V.int .i64 31, V.int .i64 97, V.int .i64 251].length, [V.int .i64 11, V.int .i64 13, V.int .i64 17, V.int .i64 31, V.int .i64 97, V.int .i64 251][(c.H % 18446744073709551616 % 6).toNat]'hh = V.int .i64 251 := fun hh => (get_at (k := 5) (by omega) hh).trans rfl
      refine W.run ?_
      rw [hx]
      refine W.run ?_
      exact W.kc hG (R6,251,G6) ⟨g6,by dsimp only;omega⟩ (by omega) (HS.p (HS.p (HS.p (HS.emp _))))
   ·intro Gk2 hG2
    unfold HTm at hG2 ⊢
    by_cases hg:GroupI c.R c.P c.G
    ·have d1:=k49 hg
     by_cases h1:c.P≤300
     ·by_cases h2:c.R≤5000
      ·by_cases h3:11≤c.P
       ·refine W.run ?_
        exact W.kc hG2 false (fun _=>⟨hg,h3⟩) (by omega) (HS.p (HS.p (HS.p (HS.p (HS.emp _)))))
       ·refine W.run ?_
        exact W.kc hG2 true (fun e=>by cases e) (by omega) (HS.p (HS.p (HS.p (HS.p (HS.emp _)))))
      ·refine W.run ?_
       exact W.kc hG2 true (fun e=>by cases e) (by omega) (HS.p (HS.p (HS.p (HS.p (HS.emp _)))))
     ·refine W.run ?_
      exact W.kc hG2 true (fun e=>by cases e) (by omega) (HS.p (HS.p (HS.p (HS.p (HS.emp _)))))
    ·have d1:=k49f ⟨w1,w2,w3⟩ hg
     refine W.run ?_
     exact W.kc hG2 true (fun e=>by cases e) (by omega) (HS.p (HS.p (HS.p (HS.p (HS.emp _)))))
 ·intro Gk hG
  unfold HTm at hG
  refine W.run ?_
  exact W.kc hG () trivial (by omega) (HS.p (HS.p (HS.p (HS.p (HS.emp _)))))
end Go.Dp
