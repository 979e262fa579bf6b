import Derived.Test.YtlbjgnkjicifhaaGreatDwQ0
import Derived.Test.YtlbjgnkjicifhaaGreatDwJ9
import Derived.Test.YtlbjgnkjicifhaaGreatDwJ4
import Derived.Test.YtlbjgnkjicifhaaGreatDwL4
import Derived.Test.YtlbjgnkjicifhaaGreatDwB6
import Derived.Test.YtlbjgnkjicifhaaGreatDsF4
import Derived.Test.YtlbjgnkjicifhaaGreatDwJ11
import Derived.Test.YtlbjgnkjicifhaaGreatDpCut
namespace Go.Dp
open Go.RowKit Go.Proofs
attribute [local irreducible] wp wpOps wpOp1 CallW CallT kSeq kBlk kLoop kReg retP retR kAsg kRound kRf kCut kItr kItr2
set_option linter.unusedVariables false
set_option linter.unusedSimpArgs false
def cutL (x:Ln):Ln:=⟨x.hall,x.kind,x.other,x.nums.take 64⟩
def cutS (m:Nat) (l:List Ln):List Ln:=(l.take m).map cutL
def cutB (m:Nat) (b:Brd):Brd:=⟨cutS m b.d,cutS m b.c,cutS m b.a,cutS m b.r⟩
set_option maxHeartbeats 2000000 in
theorem k14 (x:Ln) (hx:x.nums.length < 2 ^ 63):PureC Tryz.prog 14 [.agg (lnK x)] (fun r=>r = .agg (lnK (cutL x))):=by
 refine pureC_of_wp .x mixed ok14 rfl ?_
 unfold c14 cutL
 dsimp only [argE,lnK]
 obtain ⟨hall,kind,other,A⟩:=x
 dsimp only at hx ⊢
 generalize h64:(64:Int) = n64
 obtain ⟨m,rfl⟩:∃ m:Nat,n64 = m:=⟨n64.toNat,by omega⟩
 have hm:64 = m:=by omega
 rw [hm]
 have hmb:m < 100:=by omega
 clear hm h64
 have hl:(A.take m).length = min m A.length:=List.length_take
 by_cases h:A.length≤m
 ·have e:A.take m = A:=List.take_of_length_le h
  rw [e]
  clear hl e
  refine W.run ?_
  rfl
 ·have e : (A.take m).length = m := by omega
  clear hl
  refine W.run ?_
  show _ = V.agg [.int .i64 hall,.int .i64 kind,.int .i64 other,.sl ((A.take m).map (V.int .i64)) (A.take m).length]
  rw [e]
theorem cutS_len (m:Nat) (l:List Ln):(cutS m l).length = min m l.length:=by simp [cutS]
theorem cutS_succ {l:List Ln} {i:Nat} (hi:i < l.length):cutS (i+1) l = cutS i l++[cutL l[i]]:=by
 unfold cutS;rw [← List.take_append_getElem hi,List.map_append];rfl
theorem linC_snoc (l:List Ln) (x:Ln):linC (l++[x]) = linC l++lnK x:=by rw [linC_app];simp [linC]
theorem linC_atoms (l:List Ln):∀ v∈linC l,v.atom = true:=by
 rw [linC_lnsC]
 exact lnsC_atoms _ fun p hp=>by
  obtain ⟨x,_,rfl⟩:=List.mem_map.1 hp;rfl
set_option maxRecDepth 10000 in
set_option maxHeartbeats 2000000 in
theorem k50 (l:List Ln) (hl:l.length < 2 ^ 63) (hx:∀ x∈l,x.nums.length < 2 ^ 63) (m:Nat) (hm:m≤1000):PureC Tryz.prog 50 [linV l,.int .i64 (m:Int)] (fun r=>r = .tup [linV (cutS m l),linV (cutS m l)]):=by
 have c1:=fun i (hi:i < l.length)=>k14 l[i] (hx _ (List.getElem_mem hi))
 have hcl:=cutS_len m l
 refine pureC_of_wp (.l [.x,.x]) mixed ok50 rfl ?_
 unfold c50
 dsimp only [argE]
 refine W.run ?_
 refine W.lp (fun i:Nat=>[(0,linV l),(1,.int .i64 (m:Int)),(6,.ref 16 i 0 i),(7,.ref 24 i 0 i),(8,.int .i64 (i:Int))]) (fun i=>(Hp.put (fun _=>none) 16 { cells:=linC (cutS i l),sz:=4,ver:=i,nl:=if i = 0 then 1 else 0 }).put 24 { cells:=linC (cutS i l),sz:=4,ver:=i,nl:=if i = 0 then 1 else 0 }) (fun i=>i≤l.length∧i≤m) (fun i=>l.length - i) 0 rfl (HS.refl _) ⟨by omega,by omega⟩ ?_
 rintro i nx ⟨h1,h2⟩ hnx
 have hci:(cutS i l).length = i:=by rw [cutS_len];omega
 have hcc:=linC_len (cutS i l)
 have hca:=linC_atoms (cutS i l)
 by_cases hi:i < l.length∧i < m
 ·obtain ⟨hi1,hi2⟩:=hi
  have c2:=c1 i hi1
  have hsu:=cutS_succ hi1
  clear c1
  generalize cutS i l = L at hci hcc hca hsu ⊢
  refine W.run ?_
  refine W.kl (i+1) ?_ ?_ (by omega) ⟨by omega,by omega⟩ (by omega)
  ·rfl
  ·rw [hsu, linC_snoc, if_neg (by omega)]
   exact HS.skip (HS.skip (HS.skip (HS.refl _) (by simp only [Hp.put];repeat (rw [if_neg (by omega)])) _) (by simp only [Hp.put];repeat (rw [if_neg (by omega)])) _) (by simp only [Hp.put];repeat (rw [if_neg (by omega)])) _
 ·have hi2:cutS m l = cutS i l:=by
   unfold cutS
   by_cases h:i < m
   ·have e : i = l.length := by omega
    rw [List.take_of_length_le (by omega),List.take_of_length_le (by omega)]
   ·have e : i = m := by omega
    rw [e]
  rw [hi2]
  generalize cutS i l = L at hci hcc hca ⊢
  clear c1
  subst hci
  by_cases h:L.length < l.length
  ·refine W.run ?_
   rfl
  ·refine W.run ?_
   rfl
theorem k13 (b:Brd) (hb:∀ k,k < 4→(b.at k).length < 2 ^ 63∧∀ x∈b.at k,x.nums.length < 2 ^ 63) (m:Nat) (hm:m≤1000):PureC Tryz.prog 13 [bdV b,.int .i64 (m:Int)] (fun r=>r = .tup [bdV (cutB m b),bdV (cutB m b)]):=by
 have c1:=k50 b.d (hb 0 (by omega)).1 (hb 0 (by omega)).2 m hm
 have c2:=k50 b.c (hb 1 (by omega)).1 (hb 1 (by omega)).2 m hm
 have c3:=k50 b.a (hb 2 (by omega)).1 (hb 2 (by omega)).2 m hm
 have c4:=k50 b.r (hb 3 (by omega)).1 (hb 3 (by omega)).2 m hm
 refine pureC_of_wp (.l [.x,.x]) mixed ok13 rfl ?_
 unfold c13
 dsimp only [argE,bdV]
 refine W.run ?_
 rfl
theorem k16 (R P G H B K:Int):PureC Tryz.prog 16 [cfgV R P G H B K] (fun r=>r = cfgV R P G H B K):=by
 refine pureC_of_wp .x mixed ok16 rfl ?_
 unfold c16
 rw [rep6]
 dsimp only [argE,cfgV]
 refine W.run ?_
 rfl
def zLn:Ln:=⟨0,0,0,[]⟩
def zL (n:Nat):List Ln:=List.replicate n zLn
abbrev zC:List V:=[.int .i64 0,.int .i64 0,.int .i64 0,.nils]
theorem zC_vw:∀ n,VWL (zerosV zC n) (linC (zL n))
 | 0=>.nil
 | n+1=>.cons (.refl _) (.cons (.refl _) (.cons (.refl _) (.cons .nils (zC_vw n))))
theorem zC_len:∀ n,(zerosV zC n).length = n * 4
 | 0=>rfl
 | n+1=>by simp [zerosV,zC_len n];omega
theorem zC_atoms:∀ n,∀ v∈zerosV zC n,v.atom = true
 | 0,v,h=>by cases h
 | n+1,v,h=>by
  simp only [zerosV,zC,List.cons_append,List.nil_append,List.mem_cons] at h
  rcases h with rfl | rfl | rfl | rfl | h
  ·rfl
  ·rfl
  ·rfl
  ·rfl
  ·exact zC_atoms n v h
theorem zL_ok {n:Nat} (h:n < 2 ^ 20):LnsB (zL n):=⟨by simp [zL];omega,fun x hx=>by rw [List.eq_of_mem_replicate hx];exact ⟨by simp [zLn],by simp [zLn]⟩⟩
def NoD (c:Cf) (b:Brd):Prop:=∀ h,∀ x∈b.d,qDeal c h x = false
section
variable {c:Cf} {b:Brd} (hd:NoD c b)
include hd
end
theorem zL_vw (n:Nat):VW (.sl (zerosV zC n) n) (linV (zL n)):=by
 show VW (.sl (zerosV zC n) n) (.sl (linC (zL n)) (zL n).length)
 rw [show (zL n).length = n by simp [zL]]
 exact VW.sl (zC_vw n)
theorem nil_ok:LnsB []:=⟨by decide,fun x h=>by cases h⟩
end Go.Dp
namespace Go.Dp
open Go.RowKit Go.Proofs
attribute [local irreducible] wp wpOps wpOp1 CallW CallT kSeq kBlk kLoop kReg retP retR kAsg kRound kRf kCut kItr kItr2
set_option linter.unusedVariables false
set_option linter.unusedSimpArgs false
def LnA (l:List Ln):Prop:=l.length < 2 ^ 63∧∀ x∈l,x.nums.length < 2 ^ 63∧∀ n∈x.nums,B64 n
abbrev tyLn:Ty:=.cons (.int .i64) (.cons (.int .i64) (.cons (.int .i64) (.cons (.sl (.int .i64)) (.nil))))
theorem ok_ln {l:List V} (h:tyLn.ok l):∃ x:Ln,l = lnK x∧x.nums.length < 2 ^ 63∧∀ n∈x.nums,B64 n:=by
 obtain ⟨a1,a2,rfl,h1,a3,a4,rfl,h2,a5,a6,rfl,h3,a7,a8,rfl,h4,rfl⟩:=h
 obtain ⟨z1,rfl,_⟩:=ok_i64 h1
 obtain ⟨z2,rfl,_⟩:=ok_i64 h2
 obtain ⟨z3,rfl,_⟩:=ok_i64 h3
 obtain ⟨zs,rfl,hl,hz⟩:=ok_longs h4
 exact ⟨⟨z1,z2,z3,zs⟩,rfl,by unfold maxLen at hl;dsimp only;omega,fun n hn=>by have:=hz n hn;unfold B64;omega⟩
theorem ok_lns:∀ {ls:List (List V)},(∀ x∈ls,tyLn.ok x)→∃ L:List Ln,ls.flatten = linC L∧ls.length = L.length∧∀ x∈L,x.nums.length < 2 ^ 63∧∀ n∈x.nums,B64 n
 | [],_=>⟨[],rfl,rfl,by simp⟩
 | l::ls,h=>by
  obtain ⟨x,rfl,hx⟩:=ok_ln (h l (by simp))
  obtain ⟨L,e1,e2,hL⟩:=ok_lns (ls:=ls) fun y hy=>h y (by simp [hy])
  exact ⟨x :: L, by rw [List.flatten_cons, e1]; rfl, by simp [e2], fun y hy => by
   rcases List.mem_cons.1 hy with rfl | hy
   ·exact hx
   ·exact hL y hy⟩
theorem ok_list {l:List V} (h:(Ty.sl tyLn).ok l):∃ L:List Ln,l = [linV L]∧LnA L:=by
 obtain ⟨ls,rfl,hl,hx⟩:=h
 obtain ⟨L,e1,e2,hL⟩:=ok_lns hx
 refine ⟨L,by rw [e1,e2],?_,hL⟩
 rw [← e2];unfold maxLen at hl;omega
abbrev tyBd:Ty:=.cons (.sl tyLn) (.cons (.sl tyLn) (.cons (.sl tyLn) (.cons (.sl tyLn) (.nil))))
theorem okArg_brd {x:V} (h:tyBd.okArg x):∃ b:Brd,x = bdV b∧LnA b.d∧LnA b.c∧LnA b.a∧LnA b.r:=by
 obtain ⟨l,rfl,a1,a2,rfl,h1,a3,a4,rfl,h2,a5,a6,rfl,h3,a7,a8,rfl,h4,rfl⟩:=h
 obtain ⟨d,rfl,w1⟩:=ok_list h1
 obtain ⟨e,rfl,w2⟩:=ok_list h2
 obtain ⟨f,rfl,w3⟩:=ok_list h3
 obtain ⟨g,rfl,w4⟩:=ok_list h4
 exact ⟨⟨d,e,f,g⟩,rfl,w1,w2,w3,w4⟩
theorem okArg_cf {x:V} (h:(Ty.cons (.cons (.int .i64) (.cons (.int .i64) (.cons (.int .i64) (.nil)))) (.cons (.int .i64) (.cons (.int .i64) (.cons (.int .i64) (.nil))))).okArg x):∃ c:Cf,x = c.v∧B64 c.R∧B64 c.P∧B64 c.G∧B64 c.H∧B64 c.B∧B64 c.K:=by
 obtain ⟨l,rfl,a,b,rfl,⟨a1,a2,rfl,h1,a3,a4,rfl,h2,a5,a6,rfl,h3,rfl⟩,b1,b2,rfl,h4,b3,b4,rfl,h5,b5,b6,rfl,h6,rfl⟩:=h
 obtain ⟨z1,rfl,w1⟩:=ok_i64 h1
 obtain ⟨z2,rfl,w2⟩:=ok_i64 h2
 obtain ⟨z3,rfl,w3⟩:=ok_i64 h3
 obtain ⟨z4,rfl,w4⟩:=ok_i64 h4
 obtain ⟨z5,rfl,w5⟩:=ok_i64 h5
 obtain ⟨z6,rfl,w6⟩:=ok_i64 h6
 exact ⟨⟨z1,z2,z3,z4,z5,z6⟩,rfl,w1,w2,w3,w4,w5,w6⟩
theorem cutS_mem {m:Nat} {l:List Ln} (hl:LnA l) (hm:m≤400):LnsB (cutS m l)∧okL 400 (cutS m l) = true:=by
 have hlen:=cutS_len m l
 have hmem:∀ x∈cutS m l,x.nums.length≤64∧∀ n∈x.nums,B64 n:=fun x hx=>by
  unfold cutS at hx
  obtain ⟨y,hy,rfl⟩:=List.mem_map.1 hx
  have:=hl.2 y (List.mem_of_mem_take hy)
  exact ⟨by simp [cutL];omega,fun n hn=>this.2 n (List.mem_of_mem_take hn)⟩
 refine ⟨⟨by omega,fun x hx=>⟨by have:=(hmem x hx).1;omega,(hmem x hx).2⟩⟩,okL_all (by omega) fun x hx=>by have:=(hmem x hx).1;omega⟩
theorem cutB_ok {b:Brd} (h:LnA b.d∧LnA b.c∧LnA b.a∧LnA b.r) {m:Nat} (hm:m≤400):(cutB m b).Ok∧(cutB m b).fits 400 = true:=by
 obtain ⟨h1,h2,h3,h4⟩:=h
 have a1:=cutS_mem h1 hm
 have a2:=cutS_mem h2 hm
 have a3:=cutS_mem h3 hm
 have a4:=cutS_mem h4 hm
 refine ⟨⟨a1.1,a2.1,a3.1,a4.1⟩,?_⟩
 simp only [Brd.fits,cutB,a1.2,a2.2,a3.2,a4.2,Bool.and_self]
theorem LnA.at {b:Brd} (h:LnA b.d∧LnA b.c∧LnA b.a∧LnA b.r):∀ k,k < 4→(b.at k).length < 2 ^ 63∧∀ x∈b.at k,x.nums.length < 2 ^ 63
 | 0,_=>⟨h.1.1,fun x hx=>(h.1.2 x hx).1⟩
 | 1,_=>⟨h.2.1.1,fun x hx=>(h.2.1.2 x hx).1⟩
 | 2,_=>⟨h.2.2.1.1,fun x hx=>(h.2.2.1.2 x hx).1⟩
 | 3,_=>⟨h.2.2.2.1,fun x hx=>(h.2.2.2.2 x hx).1⟩
 | k+4,h=>by omega
theorem fits_mono {b:Brd} {m m':Int} (h:b.fits m = true) (hm:m≤m'):b.fits m' = true:=by
 rw [fits_at] at h ⊢
 intro k hk
 have:=h k hk
 unfold okL at this ⊢
 rw [Bool.and_eq_true,decide_eq_true_eq] at this
 rw [this.2,Bool.and_true,decide_eq_true_eq];omega
theorem cutS_fit {m:Nat} {l:List Ln} (hl:LnA l):okL m (cutS m l) = true:=by
 have hlen:=cutS_len m l
 refine okL_all (by omega) fun x hx=>?_
 unfold cutS at hx
 obtain ⟨y,hy,rfl⟩:=List.mem_map.1 hx
 simp [cutL];omega
theorem cutB_fit {b:Brd} (h:LnA b.d∧LnA b.c∧LnA b.a∧LnA b.r) {m:Nat}:(cutB m b).fits m = true:=by
 simp only [Brd.fits,cutB,cutS_fit h.1,cutS_fit h.2.1,cutS_fit h.2.2.1,cutS_fit h.2.2.2,Bool.and_self]
theorem LnsB.a {l:List Ln} (h:LnsB l):LnA l:=⟨by have:=h.1;omega,fun x hx=>⟨by have:=(h.2 x hx).1;omega,(h.2 x hx).2⟩⟩
theorem Brd.Ok.a {b:Brd} (h:b.Ok):LnA b.d∧LnA b.c∧LnA b.a∧LnA b.r:=⟨h.1.a,h.2.1.a,h.2.2.1.a,h.2.2.2.a⟩
theorem runB_okP {c:Cf} (hc:c.Ok) {l:List (List Int)} (hx:∀ p∈l,p.length < 2 ^ 63∧∀ n∈p,B64 n) (lost:List (Int × Int)) {b:Brd} (hb:b.Ok) (hf:b.fits 100 = true):(runB c (polysM c l) lost b).Ok:=by
 have hr:=hc.rng
 exact runB_ok hc (fun q hq hz=>(polysM_ok hc hx q hq hz).2) (by rw [polysM_len];omega) lost hb hf
theorem okArg_rows {x:V} (h:(Ty.sl (.sl (.int .i64))).okArg x):∃ l:List (List Int),x = .sl (l.map slI) l.length∧l.length < 2 ^ 63∧∀ p∈l,p.length < 2 ^ 63∧∀ n∈p,B64 n:=by
 obtain ⟨ls,rfl,hl,hx⟩:=okArg_sl h
 have key:∀ ls:List (List V),(∀ y∈ls,(Ty.sl (.int .i64)).ok y)→∃ l:List (List Int),ls.flatten = l.map slI∧ls.length = l.length∧∀ p∈l,p.length < 2 ^ 63∧∀ n∈p,B64 n:=by
  intro ls
  induction ls with
  | nil=>intro _;exact ⟨[],rfl,rfl,fun p hp=>by cases hp⟩
  | cons y ls ih =>
   intro h
   obtain ⟨zs,e,hz,hw⟩:=ok_longs (h y (by simp))
   obtain ⟨l,e1,e2,h3⟩:=ih fun z hz=>h z (by simp [hz])
   refine ⟨zs::l,by rw [List.flatten_cons,e,e1];rfl,by simp [e2],fun p hp=>?_⟩
   rcases List.mem_cons.1 hp with rfl | hp
   ·exact ⟨by unfold maxLen at hz;omega,fun n hn=>by have:=hw n hn;unfold B64;omega⟩
   ·exact h3 p hp
 obtain ⟨l,e1,e2,h3⟩:=key ls hx
 exact ⟨l,by rw [e1,e2],by rw [← e2];unfold maxLen at hl;omega,h3⟩
def tysD:List Ty:=[.cons (.cons (.int .i64) (.cons (.int .i64) (.cons (.int .i64) (.nil)))) (.cons (.int .i64) (.cons (.int .i64) (.cons (.int .i64) (.nil)))),.sl (.sl (.int .i64)),.cons (.sl (.cons (.int .i64) (.cons (.int .i64) (.cons (.int .i64) (.cons (.sl (.int .i64)) (.nil)))))) (.cons (.sl (.cons (.int .i64) (.cons (.int .i64) (.cons (.int .i64) (.cons (.sl (.int .i64)) (.nil)))))) (.cons (.sl (.cons (.int .i64) (.cons (.int .i64) (.cons (.int .i64) (.cons (.sl (.int .i64)) (.nil)))))) (.cons (.sl (.cons (.int .i64) (.cons (.int .i64) (.cons (.int .i64) (.cons (.sl (.int .i64)) (.nil)))))) (.nil))))]
theorem okArgs_D {xs:List V} (h:Ty.okArgs tysD xs):∃ c l b,xs = [Cf.v c,.sl (List.map slI l) l.length,bdV b]∧(B64 c.R∧B64 c.P∧B64 c.G∧B64 c.H∧B64 c.B∧B64 c.K)∧l.length < 2 ^ 63∧(∀ p∈l,p.length < 2 ^ 63∧∀ n∈p,B64 n)∧(LnA b.d∧LnA b.c∧LnA b.a∧LnA b.r):=by
 obtain ⟨x,l,rfl,hx,h⟩:=okArgs_cons h
 obtain ⟨y,l,rfl,hy,h⟩:=okArgs_cons h
 obtain ⟨z,l,rfl,hz,h⟩:=okArgs_cons h
 obtain rfl:=okArgs_nil h
 obtain ⟨c,rfl,hc⟩:=okArg_cf hx
 obtain ⟨l,rfl,hl,hw⟩:=okArg_rows hy
 obtain ⟨b,rfl,hb⟩:=okArg_brd hz
 exact ⟨c,l,b,rfl,hc,hl,hw,hb⟩
theorem k61 (A:List Int) (hA:A.length < 2 ^ 40):PureC Tryz.prog 61 [slI A,slI A] (fun r=>r = .bool true):=by
 refine pureC_of_wp .x mixed ok61 rfl ?_
 unfold c61
 dsimp only [argE]
 refine W.run ?_
 refine W.lp (fun j:Nat=>[(0,slI A),(1,slI A),(5,.int .i64 (j:Int))]) (fun _ _=>none) (fun j=>j≤A.length) (fun j=>A.length - j) 0 rfl (HS.emp _) (by omega) ?_
 rintro j nx h1 hnx
 by_cases hj:j < A.length
 ·refine W.run ?_
  exact W.kl (j+1) rfl (HS.refl _) (by omega) (by omega) (by omega)
 ·have hj2 : j = A.length := by omega
  subst hj2
  refine W.run ?_
  rfl
set_option maxRecDepth 10000 in
theorem k20 (L:List Ln) (hL:LnsB L):PureC Tryz.prog 20 [linV L,linV L] (fun r=>r = .bool true):=by
 have c1:=fun i (hi:i < L.length)=>k61 L[i].nums (by have:=(hL.2 _ (List.getElem_mem hi)).1;omega)
 have hl:=hL.1
 clear hL
 refine pureC_of_wp .x mixed ok20 rfl ?_
 unfold c20
 dsimp only [argE]
 refine W.run ?_
 refine W.lp (fun j:Nat=>[(0,linV L),(1,linV L),(5,.int .i64 (j:Int))]) (fun _ _=>none) (fun j=>j≤L.length) (fun j=>L.length - j) 0 rfl (HS.emp _) (by omega) ?_
 rintro j nx h1 hnx
 by_cases hj:j < L.length
 ·have c2:=c1 j hj
  clear c1
  refine W.run ?_
  exact W.kl (j+1) rfl (HS.refl _) (by omega) (by omega) (by omega)
 ·have hj2 : j = L.length := by omega
  subst hj2
  clear c1
  refine W.run ?_
  rfl
def lostA (l:List Ln):List (Int × Int):=l.map fun x=>(x.hall,x.other)
theorem lostA_succ {l:List Ln} {i:Nat} (hi:i < l.length):lostA (l.take (i+1)) = lostA (l.take i)++[(l[i].hall,l[i].other)]:=by
 unfold lostA;rw [← List.take_append_getElem hi,List.map_append];rfl
theorem losC_snoc:∀ (l:List (Int × Int)) (a b:Int),losC (l++[(a,b)]) = losC l++[.int .i64 a,.int .i64 b]
 | [],a,b=>rfl
 | p::l,a,b=>by
  have:=losC_snoc l a b
  simp only [List.cons_append,losC,this]
theorem losC_atoms:∀ (l:List (Int × Int)),∀ v∈losC l,v.atom = true
 | [],v,h=>by cases h
 | p::l,v,h=>by
  simp only [losC,List.mem_cons] at h
  rcases h with rfl | rfl | h
  ·rfl
  ·rfl
  ·exact losC_atoms l v h
def cut64 (l:List (List Int)):List (List Int):=l.map fun p=>p.take 64
theorem cut64_succ {l:List (List Int)} {i:Nat} (hi:i < l.length):cut64 (l.take (i+1)) = cut64 (l.take i)++[l[i].take 64]:=by
 unfold cut64;rw [← List.take_append_getElem hi,List.map_append];rfl
theorem slI_atoms (Q:List (List Int)):∀ v∈Q.map slI,v.atom = true:=fun v hv=>by
 obtain ⟨A,_,rfl⟩:=List.mem_map.1 hv;rfl
theorem bad_eq {P B:Int} (hB:0≤B∧B < 16) (A:List Int):badP P B A = (decide (A.length≠0) && (decide ((A.length:Int)≠B+1) || decide (polyE P A≠0))):=by
 unfold badP
 by_cases h0:A.length = 0
 ·rw [decide_eq_false (by omega:¬ 0 < A.length),decide_eq_false (by omega:¬ A.length≠0),Bool.false_and,Bool.false_and]
 ·rw [decide_eq_true (by omega), decide_eq_true h0, Bool.true_and, Bool.true_and]
  by_cases h1:(A.length:Int) = B+1
  ·rw [decide_eq_false (by omega), Bool.false_or, Bool.false_or]
   cases hs:secsB P A
   ·have:polyE P A≠0:=fun e=>by
     have h2:=polyE_rng e
     rw [secsB,Bool.not_eq_false',List.any_eq_true] at hs
     obtain ⟨a,ha,h3⟩:=hs
     have:=h2 a ha
     simp only [decide_eq_true_eq] at h3
     omega
    rw [decide_eq_true this];rfl
   ·rw [decide_eq_false (by rw [secs_poly hs (by omega)];simp)];rfl
  ·rw [decide_eq_true h1,Bool.true_or,Bool.true_or]
def wantI (x:Cf) (Q:List (List Int)) (i:Nat):Int:=if (Q.length:Int)≠x.H then 7 else if (Q.take i).any (badP x.P x.B) then 1 else 0
theorem wantI_0 (x:Cf) (Q:List (List Int)):wantI x Q 0 = if (Q.length:Int)≠x.H then 7 else 0:=by simp [wantI]
theorem wantI_stop {x:Cf} {Q:List (List Int)} {i:Nat} (h:wantI x Q i≠0):wantI x Q Q.length = wantI x Q i:=by
 unfold wantI at h ⊢
 by_cases hn:(Q.length:Int)≠x.H
 ·rw [if_pos hn,if_pos hn]
 ·rw [if_neg hn] at h ⊢
  rw [if_neg hn]
  by_cases ha:(Q.take i).any (badP x.P x.B) = true
  ·rw [if_pos ha,if_pos]
   rw [List.take_length]
   obtain ⟨p,hp,h2⟩:=List.any_eq_true.1 ha
   exact List.any_eq_true.2 ⟨p,List.mem_of_mem_take hp,h2⟩
  ·rw [if_neg ha] at h;exact absurd rfl h
theorem wantI_succ {x:Cf} {Q:List (List Int)} {i:Nat} (hi:i < Q.length) (h:wantI x Q i = 0):wantI x Q (i+1) = if badP x.P x.B Q[i] then 1 else 0:=by
 unfold wantI at h ⊢
 by_cases hn:(Q.length:Int)≠x.H
 ·rw [if_pos hn] at h;omega
 ·rw [if_neg hn] at h ⊢
  rw [← List.take_append_getElem hi,List.any_append]
  by_cases ha:(Q.take i).any (badP x.P x.B) = true
  ·rw [if_pos ha] at h;omega
  ·rw [Bool.not_eq_true] at ha
   rw [ha];simp
theorem run_all {x:Cf} (hX:x.Ok) {Y:Brd} (hY:Y.Ok) (hf:Y.fits 100 = true) {Q:List (List Int)} (hQ:∀ p∈Q,p.length < 2 ^ 20) (hQl:Q.length < 2 ^ 20) (L:List (Int × Int)) (hL:L.length < 2 ^ 40):∃ z0 z1 z2 z3,
  PureC Tryz.prog 15 [x.v,polV Q,bdV Y,losV L] (fun r=>r = .tup [.agg [z0,z1,z2,z3],.int .i64 (wantI x Q Q.length)]) ∧
  (wantI x Q Q.length = 0→z0 = linV (runB x Q L Y).d∧z1 = linV (runB x Q L Y).c∧z2 = linV (runB x Q L Y).a∧z3 = linV (runB x Q L Y).r∧(runB x Q L Y).Ok∧PureC Tryz.prog 19 [x.v,polV Q,bdV Y,losV L] (fun r=>r = bdV (runB x Q L Y))) ∧
  (wantI x Q Q.length≠0→z0 = .nils∧z1 = .nils∧z2 = .nils∧z3 = .nils):=by
 have hr:=hX.rng
 have hw:wantI x Q Q.length = if (Q.length:Int)≠x.H then 7 else if Q.any (badP x.P x.B) then 1 else 0:=by unfold wantI;rw [List.take_length]
 by_cases hn:(Q.length:Int) = x.H
 ·rw [if_neg (by omega)] at hw
  cases hb:Q.any (badP x.P x.B)
  ·rw [hb, if_neg (by simp)] at hw
   have hok:=polys_ok hX hQ hb
   refine ⟨_,_,_,_,by rw [hw];exact k15x x hX Y hY Q hQ L hL hf hn hb,fun _=>⟨rfl,rfl,rfl,rfl,runB_ok hX (fun q hq=>(hok q hq).2) (by omega) L hY hf,k19 x hX Y hY Q hQ L hL hf hn (fun q hq=>(hok q hq).2)⟩,fun h=>absurd hw h⟩
  ·rw [hb,if_pos rfl] at hw
   have:=k15er x hX Y hY Q hQl hQ L (by rw [hb];simp)
   rw [if_neg (by simp [hf]),if_neg (by omega)] at this
   exact ⟨_,_,_,_,by rw [hw];exact this,fun h=>by omega,fun _=>⟨rfl,rfl,rfl,rfl⟩⟩
 ·rw [if_pos hn] at hw
  have:=k15er x hX Y hY Q hQl hQ L (fun h=>hn h.2.1)
  rw [if_neg (by simp [hf]),if_pos hn] at this
  exact ⟨_,_,_,_,by rw [hw];exact this,fun h=>by omega,fun _=>⟨rfl,rfl,rfl,rfl⟩⟩
theorem long_fits (n:Nat) (h:100 < n):Brd.fits 100 (⟨[],zL n,[],[]⟩:Brd) = false:=by
 have:okL 100 (zL n) = false:=okL_long (by simp [zL];omega)
 simp only [Brd.fits,this,Bool.and_false,Bool.false_and]
set_option maxRecDepth 10000 in
set_option maxHeartbeats 2000000 in
theorem k3_c (x:Cf) (hX:x.Ok) (l:List (List Int)) (hl:l.length < 2 ^ 63) (hx:∀ p∈l,p.length < 2 ^ 63∧∀ n∈p,B64 n) (n:Nat) (hn:144≤n) :
  wp Tryz.prog Ys.none (rtC (rtC (rtC (rtC (rtC (rtC (rtC (rtC c3)))))))) (retP [.tmp 6] .x (fun r=>r = .bool true)) ⟨[(1,.sl (l.map slI) l.length),(7,.ptr 40 0 0)],Hp.put (fun _=>none) 40 { cells:=[.int .i64 x.R,.int .i64 x.P,.int .i64 x.G,.int .i64 x.H,.int .i64 x.B,.int .i64 x.K],sz:=6 },n⟩:=by
 have hr:=hX.rng
 have cA:=k22
 have c1:=k16 x.R x.P x.G x.H x.B x.K
 have c2:=k21 x hX l hl hx
 have hPl:=polysM_len x l
 unfold c3
 dsimp only [rtC]
 generalize h101:(101:Int) = m101
 obtain ⟨N,rfl⟩:∃ N:Nat,m101 = N:=⟨m101.toNat,by omega⟩
 have hN:N = 101:=by omega
 have hzl:=zC_len N
 have hza:=zC_atoms N
 dsimp only [zC] at hzl hza
 have c3:=k15er x hX ⟨[],zL N,[],[]⟩ ⟨nil_ok,zL_ok (by omega),nil_ok,nil_ok⟩ (polysM x l) (by omega) (polysM_lt hX hx) [] (by rw [long_fits N (by omega)];simp)
 rw [long_fits N (by omega),if_pos rfl] at c3
 have c4:=c3.weak (VWL.cons (.refl x.v) (VWL.cons (.refl (polV (polysM x l))) (VWL.cons (.agg (.cons .nils (.cons (zL_vw N) (.cons .nils (.cons .nils .nil))))) (VWL.cons .nils .nil))))
 dsimp only [zC,nil4] at c4
 generalize polysM x l = Q at c2 c4 hPl
 change PureC Tryz.prog 15 [x.v,.sl (Q.map slI) Q.length,_,_] _ at c4
 rw [hPl] at c4
 have hNb:N < 2 ^ 20:=by omega
 have hQa:=slI_atoms Q
 clear c3 hX hx h101 hN
 refine W.run ?_
 rfl
end Go.Dp
