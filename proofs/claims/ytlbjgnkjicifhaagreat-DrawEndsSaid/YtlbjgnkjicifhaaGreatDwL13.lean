import Derived.Test.YtlbjgnkjicifhaaGreatDwQ1
import Derived.Test.YtlbjgnkjicifhaaGreatDwJ7
import Derived.Test.YtlbjgnkjicifhaaGreatDwL4
import Derived.Test.YtlbjgnkjicifhaaGreatDwB6
import Derived.Test.YtlbjgnkjicifhaaGreatDsF4
import Derived.Test.YtlbjgnkjicifhaaGreatDpCut
namespace Go.Dp
open Go.RowKit Go.Proofs
attribute [local irreducible] wp wpOps wpOp1 CallW CallT kSeq kBlk kLoop kReg retP retR kAsg kRound kRf kCut kItr kItr2
set_option linter.unusedVariables false
set_option linter.unusedSimpArgs false
theorem flat_filter {α β:Type} (p:α→Bool) (f:α→List β):∀ l:List α,(l.filter p).flatMap f = l.flatMap fun x=>if p x = true then f x else []
 | []=>rfl
 | a::l=>by
  rw [List.filter_cons]
  cases h:p a
  ·simp [flat_filter p f l,h]
  ·simp [flat_filter p f l,h]
theorem idxG_congr {f g:Nat→Ln→List G3}:∀ (n:Nat) (l:List Ln),(∀ i (h:i < l.length),f (n+i) l[i] = g (n+i) l[i])→idxG f n l = idxG g n l
 | n,[],_=>rfl
 | n,x::l,h=>by
  have h0:=h 0 (by simp)
  simp only [Nat.add_zero,List.getElem_cons_zero] at h0
  have ih:idxG f (n+1) l = idxG g (n+1) l:=idxG_congr (n+1) l fun i hi=>by
   have:=h (i+1) (by simpa using hi)
   simp only [List.getElem_cons_succ] at this
   rw [show n+1+i = n+(i+1) by omega];exact this
  simp only [idxG,h0,ih]
theorem idxG_nil {f:Nat→Ln→List G3} (h:∀ i x,f i x = []):∀ (n:Nat) (l:List Ln),idxG f n l = []
 | n,[]=>rfl
 | n,x::l=>by simp only [idxG,h,idxG_nil h (n+1) l];rfl
theorem compl_none {c:Cf} {b:Brd} {h k:Int} (hd:(b.deal c h).isSome = false):b.compl c k h = false:=by unfold Brd.compl;rw [hd];rfl
theorem up3 (c:Cf) (b:Brd):upH (fun h=>upH (g3k c b h) c.H.toNat) c.H.toNat = (dltH c b).flatMap (g3 c b):=by
 unfold dltH hallsL
 rw [flat_filter]
 unfold upH
 congr 1
 funext h
 cases hd:(b.deal c h).isSome
 ·rw [if_neg (by simp)]
  rw [List.flatMap_eq_nil_iff]
  intro k _
  rw [g3k,compl_none hd];simp
 ·rw [if_pos rfl,g3]
  unfold hallsL
  rw [flat_filter]
  congr 1
  funext k
  unfold g3k
  cases b.compl c k h <;> simp
theorem q4_eq {c:Cf} {b:Brd} {h:Int} {i:Nat} (hi:i < b.a.length):q4r c b h i b.a[i] = q4 c b h i b.a[i]:=by
 unfold q4r q4
 by_cases hh:b.a[i].hall = h
 ·by_cases ha:b.ans c h b.a[i].other = i
  ·obtain ⟨_,hq,_⟩:=ans_at' ha
   simp only [qAns,Bool.and_eq_true,decide_eq_true_eq] at hq
   have hcnt:=hq.1.1
   have ho:isHallB c.H b.a[i].other = true:=by
    simp only [cntB,Bool.and_eq_true,Bool.not_true,Bool.false_or] at hcnt
    exact hcnt.2.1
   rw [hcnt,ho,hh,ha]
   simp
  ·rw [decide_eq_false ha];simp
 ·rw [decide_eq_false hh];simp
theorem up4 (c:Cf) (b:Brd):upH (fun h=>idxG (f4 c b h) 0 b.a) c.H.toNat = (dltH c b).flatMap (g4 c b):=by
 unfold dltH hallsL
 rw [flat_filter]
 unfold upH
 congr 1
 funext h
 cases hd:(b.deal c h).isSome
 ·rw [if_neg (by simp)]
  refine idxG_nil (fun i x=>?_) 0 b.a
  rw [f4,q4r,compl_none hd];simp
 ·rw [if_pos rfl,g4]
  refine idxG_congr 0 b.a fun i hi=>?_
  rw [Nat.zero_add,f4,q4_eq hi]
theorem upH_all (c:Cf) (f:Int→List G3):upH f c.H.toNat = (allH c).flatMap f:=by rw [allH_eq];rfl
def cutL (x:Ln):Ln:=⟨x.hall,x.kind,x.other,x.nums.take 64⟩
def cutS (m:Nat) (l:List Ln):List Ln:=(l.take m).map cutL
def cutB (m:Nat) (b:Brd):Brd:=⟨cutS m b.d,cutS m b.c,cutS m b.a,cutS m b.r⟩
set_option maxHeartbeats 2000000 in
theorem k14 (x:Ln) (hx:x.nums.length < 2 ^ 63):PureC Tryz.prog 14 [.agg (lnK x)] (fun r=>r = .agg (lnK (cutL x))):=by
 refine pureC_of_wp .x mixed ok14 rfl ?_
 unfold c14 cutL
 dsimp only [argE,lnK]
 obtain ⟨hall,kind,other,A⟩:=x
 dsimp only at hx ⊢
 generalize h64:(64:Int) = n64
 obtain ⟨m,rfl⟩:∃ m:Nat,n64 = m:=⟨n64.toNat,by omega⟩
 have hm:64 = m:=by omega
 rw [hm]
 have hmb:m < 100:=by omega
 clear hm h64
 have hl:(A.take m).length = min m A.length:=List.length_take
 by_cases h:A.length≤m
 ·have e:A.take m = A:=List.take_of_length_le h
  rw [e]
  clear hl e
  refine W.run ?_
  rfl
 ·have e : (A.take m).length = m := by omega
  clear hl
  refine W.run ?_
  show _ = V.agg [.int .i64 hall,.int .i64 kind,.int .i64 other,.sl ((A.take m).map (V.int .i64)) (A.take m).length]
  rw [e]
theorem cutS_len (m:Nat) (l:List Ln):(cutS m l).length = min m l.length:=by simp [cutS]
theorem cutS_succ {l:List Ln} {i:Nat} (hi:i < l.length):cutS (i+1) l = cutS i l++[cutL l[i]]:=by
 unfold cutS;rw [← List.take_append_getElem hi,List.map_append];rfl
theorem linC_snoc (l:List Ln) (x:Ln):linC (l++[x]) = linC l++lnK x:=by rw [linC_app];simp [linC]
theorem linC_atoms (l:List Ln):∀ v∈linC l,v.atom = true:=by
 rw [linC_lnsC]
 exact lnsC_atoms _ fun p hp=>by
  obtain ⟨x,_,rfl⟩:=List.mem_map.1 hp;rfl
set_option maxRecDepth 10000 in
set_option maxHeartbeats 2000000 in
theorem k50 (l:List Ln) (hl:l.length < 2 ^ 63) (hx:∀ x∈l,x.nums.length < 2 ^ 63) (m:Nat) (hm:m≤1000):PureC Tryz.prog 50 [linV l,.int .i64 (m:Int)] (fun r=>r = .tup [linV (cutS m l),linV (cutS m l)]):=by
 have c1:=fun i (hi:i < l.length)=>k14 l[i] (hx _ (List.getElem_mem hi))
 have hcl:=cutS_len m l
 refine pureC_of_wp (.l [.x,.x]) mixed ok50 rfl ?_
 unfold c50
 dsimp only [argE]
 refine W.run ?_
 refine W.lp (fun i:Nat=>[(0,linV l),(1,.int .i64 (m:Int)),(6,.ref 16 i 0 i),(7,.ref 24 i 0 i),(8,.int .i64 (i:Int))]) (fun i=>(Hp.put (fun _=>none) 16 { cells:=linC (cutS i l),sz:=4,ver:=i,nl:=if i = 0 then 1 else 0 }).put 24 { cells:=linC (cutS i l),sz:=4,ver:=i,nl:=if i = 0 then 1 else 0 }) (fun i=>i≤l.length∧i≤m) (fun i=>l.length - i) 0 rfl (HS.refl _) ⟨by omega,by omega⟩ ?_
 rintro i nx ⟨h1,h2⟩ hnx
 have hci:(cutS i l).length = i:=by rw [cutS_len];omega
 have hcc:=linC_len (cutS i l)
 have hca:=linC_atoms (cutS i l)
 by_cases hi:i < l.length∧i < m
 ·obtain ⟨hi1,hi2⟩:=hi
  have c2:=c1 i hi1
  have hsu:=cutS_succ hi1
  clear c1
  generalize cutS i l = L at hci hcc hca hsu ⊢
  refine W.run ?_
  refine W.kl (i+1) ?_ ?_ (by omega) ⟨by omega,by omega⟩ (by omega)
  ·rfl
  ·rw [hsu, linC_snoc, if_neg (by omega)]
   exact HS.skip (HS.skip (HS.skip (HS.refl _) (by simp only [Hp.put];repeat (rw [if_neg (by omega)])) _) (by simp only [Hp.put];repeat (rw [if_neg (by omega)])) _) (by simp only [Hp.put];repeat (rw [if_neg (by omega)])) _
 ·have hi2:cutS m l = cutS i l:=by
   unfold cutS
   by_cases h:i < m
   ·have e : i = l.length := by omega
    rw [List.take_of_length_le (by omega),List.take_of_length_le (by omega)]
   ·have e : i = m := by omega
    rw [e]
  rw [hi2]
  generalize cutS i l = L at hci hcc hca ⊢
  clear c1
  subst hci
  by_cases h:L.length < l.length
  ·refine W.run ?_
   rfl
  ·refine W.run ?_
   rfl
theorem k13 (b:Brd) (hb:∀ k,k < 4→(b.at k).length < 2 ^ 63∧∀ x∈b.at k,x.nums.length < 2 ^ 63) (m:Nat) (hm:m≤1000):PureC Tryz.prog 13 [bdV b,.int .i64 (m:Int)] (fun r=>r = .tup [bdV (cutB m b),bdV (cutB m b)]):=by
 have c1:=k50 b.d (hb 0 (by omega)).1 (hb 0 (by omega)).2 m hm
 have c2:=k50 b.c (hb 1 (by omega)).1 (hb 1 (by omega)).2 m hm
 have c3:=k50 b.a (hb 2 (by omega)).1 (hb 2 (by omega)).2 m hm
 have c4:=k50 b.r (hb 3 (by omega)).1 (hb 3 (by omega)).2 m hm
 refine pureC_of_wp (.l [.x,.x]) mixed ok13 rfl ?_
 unfold c13
 dsimp only [argE,bdV]
 refine W.run ?_
 rfl
theorem k16 (R P G H B K:Int):PureC Tryz.prog 16 [cfgV R P G H B K] (fun r=>r = cfgV R P G H B K):=by
 refine pureC_of_wp .x mixed ok16 rfl ?_
 unfold c16
 rw [rep6]
 dsimp only [argE,cfgV]
 refine W.run ?_
 rfl
def NoD (c:Cf) (b:Brd):Prop:=∀ h,∀ x∈b.d,qDeal c h x = false
section
variable {c:Cf} {b:Brd} (hd:NoD c b)
include hd
end
theorem nil_ok:LnsB []:=⟨by decide,fun x h=>by cases h⟩
end Go.Dp
namespace Go.Dp
open Go.RowKit Go.Proofs
attribute [local irreducible] wp wpOps wpOp1 CallW CallT kSeq kBlk kLoop kReg retP retR kAsg kRound kRf kCut kItr kItr2
set_option linter.unusedVariables false
set_option linter.unusedSimpArgs false
theorem k33s (c:Cf) (hc:c.Ok) (b:Brd) (hb:b.Ok) (hf:b.fits 400 = true):PureC Tryz.prog 33 [c.v,bdV b] (fun r=>r = .tup [.sl (gC (guiltM c b)) (guiltM c b).length,.int .i64 0]):=by
 have h:=k33 c hc b hb
 rw [hf,if_pos rfl] at h
 refine h.weakR ?_
 unfold gV
 split
 ·rename_i h0
  rw [List.length_eq_zero_iff.1 h0]
  exact VO.tup (.cons .nils (.cons (.refl _) .nil)) (.cons .nils (.cons (.refl _) .nil))
 ·exact .refl _
def LnA (l:List Ln):Prop:=l.length < 2 ^ 63∧∀ x∈l,x.nums.length < 2 ^ 63∧∀ n∈x.nums,B64 n
abbrev tyLn:Ty:=.cons (.int .i64) (.cons (.int .i64) (.cons (.int .i64) (.cons (.sl (.int .i64)) (.nil))))
theorem ok_ln {l:List V} (h:tyLn.ok l):∃ x:Ln,l = lnK x∧x.nums.length < 2 ^ 63∧∀ n∈x.nums,B64 n:=by
 obtain ⟨a1,a2,rfl,h1,a3,a4,rfl,h2,a5,a6,rfl,h3,a7,a8,rfl,h4,rfl⟩:=h
 obtain ⟨z1,rfl,_⟩:=ok_i64 h1
 obtain ⟨z2,rfl,_⟩:=ok_i64 h2
 obtain ⟨z3,rfl,_⟩:=ok_i64 h3
 obtain ⟨zs,rfl,hl,hz⟩:=ok_longs h4
 exact ⟨⟨z1,z2,z3,zs⟩,rfl,by unfold maxLen at hl;dsimp only;omega,fun n hn=>by have:=hz n hn;unfold B64;omega⟩
theorem ok_lns:∀ {ls:List (List V)},(∀ x∈ls,tyLn.ok x)→∃ L:List Ln,ls.flatten = linC L∧ls.length = L.length∧∀ x∈L,x.nums.length < 2 ^ 63∧∀ n∈x.nums,B64 n
 | [],_=>⟨[],rfl,rfl,by simp⟩
 | l::ls,h=>by
  obtain ⟨x,rfl,hx⟩:=ok_ln (h l (by simp))
  obtain ⟨L,e1,e2,hL⟩:=ok_lns (ls:=ls) fun y hy=>h y (by simp [hy])
  exact ⟨x :: L, by rw [List.flatten_cons, e1]; rfl, by simp [e2], fun y hy => by
   rcases List.mem_cons.1 hy with rfl | hy
   ·exact hx
   ·exact hL y hy⟩
theorem ok_list {l:List V} (h:(Ty.sl tyLn).ok l):∃ L:List Ln,l = [linV L]∧LnA L:=by
 obtain ⟨ls,rfl,hl,hx⟩:=h
 obtain ⟨L,e1,e2,hL⟩:=ok_lns hx
 refine ⟨L,by rw [e1,e2],?_,hL⟩
 rw [← e2];unfold maxLen at hl;omega
abbrev tyBd:Ty:=.cons (.sl tyLn) (.cons (.sl tyLn) (.cons (.sl tyLn) (.cons (.sl tyLn) (.nil))))
theorem okArg_brd {x:V} (h:tyBd.okArg x):∃ b:Brd,x = bdV b∧LnA b.d∧LnA b.c∧LnA b.a∧LnA b.r:=by
 obtain ⟨l,rfl,a1,a2,rfl,h1,a3,a4,rfl,h2,a5,a6,rfl,h3,a7,a8,rfl,h4,rfl⟩:=h
 obtain ⟨d,rfl,w1⟩:=ok_list h1
 obtain ⟨e,rfl,w2⟩:=ok_list h2
 obtain ⟨f,rfl,w3⟩:=ok_list h3
 obtain ⟨g,rfl,w4⟩:=ok_list h4
 exact ⟨⟨d,e,f,g⟩,rfl,w1,w2,w3,w4⟩
theorem okArg_cf {x:V} (h:(Ty.cons (.cons (.int .i64) (.cons (.int .i64) (.cons (.int .i64) (.nil)))) (.cons (.int .i64) (.cons (.int .i64) (.cons (.int .i64) (.nil))))).okArg x):∃ c:Cf,x = c.v∧B64 c.R∧B64 c.P∧B64 c.G∧B64 c.H∧B64 c.B∧B64 c.K:=by
 obtain ⟨l,rfl,a,b,rfl,⟨a1,a2,rfl,h1,a3,a4,rfl,h2,a5,a6,rfl,h3,rfl⟩,b1,b2,rfl,h4,b3,b4,rfl,h5,b5,b6,rfl,h6,rfl⟩:=h
 obtain ⟨z1,rfl,w1⟩:=ok_i64 h1
 obtain ⟨z2,rfl,w2⟩:=ok_i64 h2
 obtain ⟨z3,rfl,w3⟩:=ok_i64 h3
 obtain ⟨z4,rfl,w4⟩:=ok_i64 h4
 obtain ⟨z5,rfl,w5⟩:=ok_i64 h5
 obtain ⟨z6,rfl,w6⟩:=ok_i64 h6
 exact ⟨⟨z1,z2,z3,z4,z5,z6⟩,rfl,w1,w2,w3,w4,w5,w6⟩
theorem cutS_mem {m:Nat} {l:List Ln} (hl:LnA l) (hm:m≤400):LnsB (cutS m l)∧okL 400 (cutS m l) = true:=by
 have hlen:=cutS_len m l
 have hmem:∀ x∈cutS m l,x.nums.length≤64∧∀ n∈x.nums,B64 n:=fun x hx=>by
  unfold cutS at hx
  obtain ⟨y,hy,rfl⟩:=List.mem_map.1 hx
  have:=hl.2 y (List.mem_of_mem_take hy)
  exact ⟨by simp [cutL];omega,fun n hn=>this.2 n (List.mem_of_mem_take hn)⟩
 refine ⟨⟨by omega,fun x hx=>⟨by have:=(hmem x hx).1;omega,(hmem x hx).2⟩⟩,okL_all (by omega) fun x hx=>by have:=(hmem x hx).1;omega⟩
theorem cutB_ok {b:Brd} (h:LnA b.d∧LnA b.c∧LnA b.a∧LnA b.r) {m:Nat} (hm:m≤400):(cutB m b).Ok∧(cutB m b).fits 400 = true:=by
 obtain ⟨h1,h2,h3,h4⟩:=h
 have a1:=cutS_mem h1 hm
 have a2:=cutS_mem h2 hm
 have a3:=cutS_mem h3 hm
 have a4:=cutS_mem h4 hm
 refine ⟨⟨a1.1,a2.1,a3.1,a4.1⟩,?_⟩
 simp only [Brd.fits,cutB,a1.2,a2.2,a3.2,a4.2,Bool.and_self]
theorem LnA.at {b:Brd} (h:LnA b.d∧LnA b.c∧LnA b.a∧LnA b.r):∀ k,k < 4→(b.at k).length < 2 ^ 63∧∀ x∈b.at k,x.nums.length < 2 ^ 63
 | 0,_=>⟨h.1.1,fun x hx=>(h.1.2 x hx).1⟩
 | 1,_=>⟨h.2.1.1,fun x hx=>(h.2.1.2 x hx).1⟩
 | 2,_=>⟨h.2.2.1.1,fun x hx=>(h.2.2.1.2 x hx).1⟩
 | 3,_=>⟨h.2.2.2.1,fun x hx=>(h.2.2.2.2 x hx).1⟩
 | k+4,h=>by omega
theorem fits_mono {b:Brd} {m m':Int} (h:b.fits m = true) (hm:m≤m'):b.fits m' = true:=by
 rw [fits_at] at h ⊢
 intro k hk
 have:=h k hk
 unfold okL at this ⊢
 rw [Bool.and_eq_true,decide_eq_true_eq] at this
 rw [this.2,Bool.and_true,decide_eq_true_eq];omega
theorem cutS_fit {m:Nat} {l:List Ln} (hl:LnA l):okL m (cutS m l) = true:=by
 have hlen:=cutS_len m l
 refine okL_all (by omega) fun x hx=>?_
 unfold cutS at hx
 obtain ⟨y,hy,rfl⟩:=List.mem_map.1 hx
 simp [cutL];omega
theorem cutB_fit {b:Brd} (h:LnA b.d∧LnA b.c∧LnA b.a∧LnA b.r) {m:Nat}:(cutB m b).fits m = true:=by
 simp only [Brd.fits,cutB,cutS_fit h.1,cutS_fit h.2.1,cutS_fit h.2.2.1,cutS_fit h.2.2.2,Bool.and_self]
theorem LnsB.a {l:List Ln} (h:LnsB l):LnA l:=⟨by have:=h.1;omega,fun x hx=>⟨by have:=(h.2 x hx).1;omega,(h.2 x hx).2⟩⟩
theorem Brd.Ok.a {b:Brd} (h:b.Ok):LnA b.d∧LnA b.c∧LnA b.a∧LnA b.r:=⟨h.1.a,h.2.1.a,h.2.2.1.a,h.2.2.2.a⟩
theorem okArg_rows {x:V} (h:(Ty.sl (.sl (.int .i64))).okArg x):∃ l:List (List Int),x = .sl (l.map slI) l.length∧l.length < 2 ^ 63∧∀ p∈l,p.length < 2 ^ 63∧∀ n∈p,B64 n:=by
 obtain ⟨ls,rfl,hl,hx⟩:=okArg_sl h
 have key:∀ ls:List (List V),(∀ y∈ls,(Ty.sl (.int .i64)).ok y)→∃ l:List (List Int),ls.flatten = l.map slI∧ls.length = l.length∧∀ p∈l,p.length < 2 ^ 63∧∀ n∈p,B64 n:=by
  intro ls
  induction ls with
  | nil=>intro _;exact ⟨[],rfl,rfl,fun p hp=>by cases hp⟩
  | cons y ls ih =>
   intro h
   obtain ⟨zs,e,hz,hw⟩:=ok_longs (h y (by simp))
   obtain ⟨l,e1,e2,h3⟩:=ih fun z hz=>h z (by simp [hz])
   refine ⟨zs::l,by rw [List.flatten_cons,e,e1];rfl,by simp [e2],fun p hp=>?_⟩
   rcases List.mem_cons.1 hp with rfl | hp
   ·exact ⟨by unfold maxLen at hz;omega,fun n hn=>by have:=hw n hn;unfold B64;omega⟩
   ·exact h3 p hp
 obtain ⟨l,e1,e2,h3⟩:=key ls hx
 exact ⟨l,by rw [e1,e2],by rw [← e2];unfold maxLen at hl;omega,h3⟩
def tysD:List Ty:=[.cons (.cons (.int .i64) (.cons (.int .i64) (.cons (.int .i64) (.nil)))) (.cons (.int .i64) (.cons (.int .i64) (.cons (.int .i64) (.nil)))),.sl (.sl (.int .i64)),.cons (.sl (.cons (.int .i64) (.cons (.int .i64) (.cons (.int .i64) (.cons (.sl (.int .i64)) (.nil)))))) (.cons (.sl (.cons (.int .i64) (.cons (.int .i64) (.cons (.int .i64) (.cons (.sl (.int .i64)) (.nil)))))) (.cons (.sl (.cons (.int .i64) (.cons (.int .i64) (.cons (.int .i64) (.cons (.sl (.int .i64)) (.nil)))))) (.cons (.sl (.cons (.int .i64) (.cons (.int .i64) (.cons (.int .i64) (.cons (.sl (.int .i64)) (.nil)))))) (.nil))))]
theorem okArgs_D {xs:List V} (h:Ty.okArgs tysD xs):∃ c l b,xs = [Cf.v c,.sl (List.map slI l) l.length,bdV b]∧(B64 c.R∧B64 c.P∧B64 c.G∧B64 c.H∧B64 c.B∧B64 c.K)∧l.length < 2 ^ 63∧(∀ p∈l,p.length < 2 ^ 63∧∀ n∈p,B64 n)∧(LnA b.d∧LnA b.c∧LnA b.a∧LnA b.r):=by
 obtain ⟨x,l,rfl,hx,h⟩:=okArgs_cons h
 obtain ⟨y,l,rfl,hy,h⟩:=okArgs_cons h
 obtain ⟨z,l,rfl,hz,h⟩:=okArgs_cons h
 obtain rfl:=okArgs_nil h
 obtain ⟨c,rfl,hc⟩:=okArg_cf hx
 obtain ⟨l,rfl,hl,hw⟩:=okArg_rows hy
 obtain ⟨b,rfl,hb⟩:=okArg_brd hz
 exact ⟨c,l,b,rfl,hc,hl,hw,hb⟩
def keepQ (x:Cf) (Q:List (List Int)) (y:Ln):Bool:=!(isHallB x.H y.hall && decide ((polyAt Q (y.hall - 1).toNat).length≠0))
def keepL (x:Cf) (Q:List (List Int)) (L:List Ln):List Ln:=L.filter (keepQ x Q)
theorem keepL_succ {x:Cf} {Q:List (List Int)} {L:List Ln} {i:Nat} (hi:i < L.length):keepL x Q (L.take (i+1)) = keepL x Q (L.take i)++if keepQ x Q L[i] then [L[i]] else []:=by
 unfold keepL
 rw [← List.take_append_getElem hi,List.filter_append]
 congr 1
 cases h:keepQ x Q L[i] <;> simp [h]
def RowsC (Q:List (List Int)) (cs:List V):Prop:=cs.length = Q.length∧∀ i (hi:i < cs.length) (hq:i < Q.length),cs[i] = slI Q[i]∨∃ id,cs[i] = .ref id 0 0 Q[i].length
set_option maxRecDepth 10000 in
set_option maxHeartbeats 2000000 in
theorem k30 (Y:Ys) (H:Hp) (oo op pid top pver nq:Nat) (x:Cf) (hX:x.Ok) (cs:List V) (L:List Ln) (Q:List (List Int)) (h1:H oo = some { cells:=[.int .i64 x.R,.int .i64 x.P,.int .i64 x.G,.int .i64 x.H,.int .i64 x.B,.int .i64 x.K],sz:=6 }) (h2:H op = some { cells:=[.ref pid pver 0 Q.length],sz:=1 }) (h3:H pid = some { cells:=cs,sz:=1,ver:=pver,nl:=nq })
  (hcs:RowsC Q cs) (hn:(Q.length:Int) = x.H) (hL:LnsB L) (hlt:oo < op∧op < pid∧pid < top) (hfr:∀ j,top≤j→H j = none) :
  RefC Tryz.prog Y 30 [linV L,.ptr oo 0 0,.ptr op 0 0] H top (fun r H' t=>r = .ref (top+8) (keepL x Q L).length 0 (keepL x Q L).length∧H' = H.put (top+8) { cells:=linC (keepL x Q L),sz:=4,ver:=(keepL x Q L).length,nl:=if (keepL x Q L).length = 0 then 1 else 0 }∧top+24≤t):=by
 have hr:=hX.rng
 have hH:H = ((H.put oo { cells:=[.int .i64 x.R,.int .i64 x.P,.int .i64 x.G,.int .i64 x.H,.int .i64 x.B,.int .i64 x.K],sz:=6 }).put op { cells:=[.ref pid pver 0 Q.length],sz:=1 }).put pid { cells:=cs,sz:=1,ver:=pver,nl:=nq }:=by rw [put_self h1,put_self h2,put_self h3]
 rw [hH]
 clear h1 h2 h3 hH hX
 have hll:=hL.1
 have hcl:=hcs.1
 refine refC_of_wp mixed ok30 rfl ?_
 unfold c30
 dsimp only [argE]
 refine W.run ?_
 refine W.lp (fun i:Nat=>[(0,linV L),(1,.ptr oo 0 0),(2,.ptr op 0 0),(5,.ref (top+8) (keepL x Q (L.take i)).length 0 (keepL x Q (L.take i)).length),(6,.int .i64 (i:Int))]) (fun i=>(((H.put oo { cells:=[.int .i64 x.R,.int .i64 x.P,.int .i64 x.G,.int .i64 x.H,.int .i64 x.B,.int .i64 x.K],sz:=6 }).put op { cells:=[.ref pid pver 0 Q.length],sz:=1 }).put pid { cells:=cs,sz:=1,ver:=pver,nl:=nq }).put (top+8) { cells:=linC (keepL x Q (L.take i)),sz:=4,ver:=(keepL x Q (L.take i)).length,nl:=if (keepL x Q (L.take i)).length = 0 then 1 else 0 }) (fun i=>i≤L.length) (fun i=>L.length - i) 0 rfl (HS.refl _) (by omega) ?_
 rintro i nx hi hnx
 have hMl:(keepL x Q (L.take i)).length≤i:=by
  unfold keepL
  refine Nat.le_trans (List.length_filter_le _ _) ?_
  rw [List.length_take];omega
 have hlc:=linC_len (keepL x Q (L.take i))
 by_cases hil:i < L.length
 ·have hs:=keepL_succ (x:=x) (Q:=Q) hil
  by_cases ha:L[i].hall < 1
  ·have hq : keepQ x Q L[i] = true := by simp [keepQ, isHallB]; omega
   rw [hq,if_pos rfl] at hs
   generalize keepL x Q (L.take i) = M at hs hlc hMl ⊢
   refine W.run ?_
   refine W.kl (i+1) (by rw [hs,List.length_append];rfl) ?_ (by omega) (by omega) (by omega)
   rw [hs,linC_snoc,List.length_append,List.length_singleton,if_neg (by omega)]
   exact HS.skip (HS.refl _) (by rw [put_ne (by omega),put_ne (by omega),put_ne (by omega),put_ne (by omega),hfr _ (by omega)]) _
  ·by_cases hb:x.H < L[i].hall
   ·have hq : keepQ x Q L[i] = true := by simp [keepQ, isHallB]; omega
    rw [hq,if_pos rfl] at hs
    generalize keepL x Q (L.take i) = M at hs hlc hMl ⊢
    refine W.run ?_
    refine W.kl (i+1) (by rw [hs,List.length_append];rfl) ?_ (by omega) (by omega) (by omega)
    rw [hs,linC_snoc,List.length_append,List.length_singleton,if_neg (by omega)]
    exact HS.skip (HS.refl _) (by rw [put_ne (by omega),put_ne (by omega),put_ne (by omega),put_ne (by omega),hfr _ (by omega)]) _
   ·have hk : (L[i].hall - 1).toNat < Q.length := by omega
    have hk2:(L[i].hall - 1).toNat < cs.length:=by omega
    have hpa:polyAt Q (L[i].hall - 1).toNat = Q[(L[i].hall - 1).toNat]:=by unfold polyAt;rw [List.getD_eq_getElem?_getD,List.getElem?_eq_getElem hk,Option.getD_some]
    have hcell:=hcs.2 _ hk2 hk
    clear hcs
    by_cases hz:Q[(L[i].hall - 1).toNat].length = 0
    ·have hq : keepQ x Q L[i] = true := by rw [keepQ, hpa, decide_eq_false (by omega : ¬ Q[(L[i].hall - 1).toNat].length ≠ 0)]; simp
     rw [hq,if_pos rfl] at hs
     generalize keepL x Q (L.take i) = M at hs hlc hMl ⊢
     rcases hcell with hcell | ⟨id,hcell⟩
     all_goals
      refine W.run ?_
      rw [hcell]
      refine W.run ?_
      refine W.kl (i+1) (by rw [hs,List.length_append];rfl) ?_ (by omega) (by omega) (by omega)
      rw [hs,linC_snoc,List.length_append,List.length_singleton,if_neg (by omega)]
      exact HS.skip (HS.refl _) (by rw [put_ne (by omega),put_ne (by omega),put_ne (by omega),put_ne (by omega),hfr _ (by omega)]) _
    ·have hq:keepQ x Q L[i] = false:=by
      have h9:isHallB x.H L[i].hall = true:=by simp [isHallB];omega
      rw [keepQ,h9,hpa,decide_eq_true hz];rfl
     rw [hq,if_neg (by simp),List.append_nil] at hs
     generalize keepL x Q (L.take i) = M at hs hlc hMl ⊢
     rcases hcell with hcell | ⟨id,hcell⟩
     all_goals
      refine W.run ?_
      rw [hcell]
      refine W.run ?_
      exact W.kl (i+1) (by rw [hs];rfl) (by rw [hs];exact HS.refl _) (by omega) (by omega) (by omega)
 ·have hie : i = L.length := by omega
  rw [hie,List.take_length] at hlc hMl ⊢
  refine W.run ?_
  exact W.retR rfl (HS.refl _) ⟨rfl,rfl,by dsimp only;omega⟩
end Go.Dp
namespace Go.Dp
open Go.RowKit Go.Proofs
set_option linter.unusedVariables false
set_option linter.unusedSimpArgs false
def markO (os:List (Nat × Ob)) (id a:Nat):List (Nat × Ob):=os.map fun p=>if p.1 = id then (p.1,{ p.2 with fz:=max p.2.fz a }) else p
theorem markO_fst (os:List (Nat × Ob)) (id a:Nat):(markO os id a).map Prod.fst = os.map Prod.fst:=by
 unfold markO
 rw [List.map_map]
 refine List.map_congr_left fun p _=>?_
 simp only [Function.comp]
 split <;> rfl
theorem BV.markO {os:List (Nat × Ob)} {lo n id a:Nat} (h:BV os lo n):BV (Go.Dp.markO os id a) lo n:=by
 refine ⟨by rw [markO_fst];exact h.1,fun p hp=>?_⟩
 obtain ⟨q,hq,rfl⟩:=List.mem_map.1 hp
 have:=h.2 q hq
 split
 ·exact this
 ·exact this
theorem markO_none {os:List (Nat × Ob)} {id a:Nat} (h:∀ p∈os,p.1≠id):markO os id a = os:=by
 unfold markO
 conv=>rhs;rw [← List.map_id os]
 exact List.map_congr_left fun p hp=>by rw [if_neg (h p hp)];rfl
theorem HpV_markIn {lo n id a:Nat}:∀ {os:List (Nat × Ob)} {B:Hp} {ob:Ob},(os.map Prod.fst).Nodup→(id,ob)∈os→(os.foldl (fun H p=>H.put p.1 p.2) B).mark id a = (markO os id a).foldl (fun H p=>H.put p.1 p.2) B
 | [],B,ob,_,h=>by cases h
 | q::os,B,ob,hn,h=>by
  have hn':=List.nodup_cons.1 hn
  by_cases e:q.1 = id
  ·have ho:∀ p∈os,p.1≠id:=fun p hp e2=>hn'.1 (List.mem_map.2 ⟨p,hp,e2.trans e.symm⟩)
   have hm:markO (q::os) id a = (q.1,{ q.2 with fz:=max q.2.fz a })::os:=by
    have h0:=markO_none (a:=a) ho
    unfold markO at h0 ⊢
    rw [List.map_cons,h0,if_pos e]
   rw [hm,List.foldl_cons,List.foldl_cons]
   unfold Hp.mark
   rw [HpV_at0 os _ ho,e,put_same]
   simp only
   rw [HpV_put0 os _ ho,put_put]
  ·have hm : markO (q :: os) id a = q :: markO os id a := by unfold markO; rw [List.map_cons, if_neg e]
   rw [hm,List.foldl_cons,List.foldl_cons]
   rcases List.mem_cons.1 h with h | h
   ·rw [← h] at e;exact absurd rfl e
   ·exact HpV_markIn (lo:=lo) (n:=n) hn'.2 h
@[go_sem] theorem HpV_mark {B:Hp} {os:List (Nat × Ob)} {lo n i a:Nat} (hb:BV os lo n) (hi:i≤lo∨n≤i):(HpV B os lo n).mark i a = HpV (B.mark i a) os lo n:=by
 unfold Hp.mark
 rw [HpV_at hb hi]
 cases B i with
 | none=>rfl
 | some ob=>exact HpV_put hb hi
def RowO (A:List Int) (v:V) (os:List (Nat × Ob)):Prop:=v = slI A∨∃ id z,v = .ref id 0 0 A.length∧(id,({ cells:=A.map (V.int .i64),sz:=1,fz:=z }:Ob))∈os
theorem RowO.mark {A:List Int} {v:V} {os:List (Nat × Ob)} {id a:Nat} (h:RowO A v os):RowO A v (markO os id a):=by
 rcases h with h | ⟨id2,z,h1,h2⟩
 ·exact .inl h
 ·refine .inr ⟨id2,if id2 = id then max z a else z,h1,?_⟩
  refine List.mem_map.2 ⟨_,h2,?_⟩
  dsimp only
  split <;> rfl
inductive RowsO (os:List (Nat × Ob)):List (List Int)→List V→Prop
 | nil:RowsO os [] []
 | cons {A:List Int} {v:V} {Q:List (List Int)} {cs:List V} (h:RowO A v os) (t:RowsO os Q cs):RowsO os (A::Q) (v::cs)
theorem RowsO.mark {os:List (Nat × Ob)} {id a:Nat} {Q:List (List Int)} {cs:List V} (h:RowsO os Q cs):RowsO (markO os id a) Q cs:=by
 induction h with
 | nil=>exact .nil
 | cons h t ih=>exact .cons h.mark ih
theorem frz_rowsO2 {lo n:Nat}:∀ {Q:List (List Int)} {cs:List V} {R:List (List Int)} {ds:List V} {os:List (Nat × Ob)},RowsO os Q cs→RowsO os R ds→BV os lo n→∃ os',(∀ (k:Nat) (B:Hp),mapS (frz (k+1)) cs (HpV B os lo n) = some (Q.map slI,HpV B os' lo n))∧BV os' lo n∧RowsO os' R ds:=by
 have key:∀ (Q:List (List Int)) (cs:List V) (R:List (List Int)) (ds:List V) (os:List (Nat × Ob)),RowsO os Q cs→RowsO os R ds→BV os lo n→∃ os',(∀ (k:Nat) (B:Hp),mapS (frz (k+1)) cs (HpV B os lo n) = some (Q.map slI,HpV B os' lo n))∧BV os' lo n∧RowsO os' R ds:=by
  intro Q
  induction Q with
  | nil =>
   intro cs R ds os h hR hb
   cases h
   exact ⟨os,fun _ _=>rfl,hb,hR⟩
  | cons A Q ih =>
   intro cs R ds os h hR hb
   cases h with
   | cons h t =>
    rcases h with rfl | ⟨id,z,rfl,hm⟩
    ·obtain ⟨os',h1,h2,h3⟩:=ih _ R ds os t hR hb
     refine ⟨os',fun k B=>?_,h2,h3⟩
     rw [mapS]
     have e:∀ H,frz (k+1) (slI A) H = some (slI A,H):=fun H=>frz_sl
     rw [e]
     simp only [Option.bind_some,h1,Option.map_some,List.map_cons]
    ·obtain ⟨os',h1,h2,h3⟩:=ih _ R ds (markO os id (0+A.length * 1)) t.mark hR.mark hb.markO
     refine ⟨os',fun k B=>?_,h2,h3⟩
     rw [mapS]
     have hob:=HpV_obj (B:=B) hb hm
     have e:frz (k+1) (.ref id 0 0 A.length) (HpV B os lo n) = some (slI A,HpV B (markO os id (0+A.length * 1)) lo n):=by
      have hq:=frzRef_some (n:=k) (o:=id) (ver:=0) (off:=0) (len:=A.length) (H:=HpV B os lo n) (ob:={ cells:=A.map (V.int .i64),sz:=1,fz:=z }) ⟨rfl,by simp,rfl⟩
      dsimp only at hob
      rw [frz_ref,hob,hq]
      simp only [List.drop_zero,Nat.mul_one,Nat.zero_add]
      rw [List.take_of_length_le (by simp),mapS_int1]
      simp only [Option.map_some]
      rw [show (HpV B os lo n).mark id A.length = HpV B (markO os id A.length) lo n from HpV_markIn (lo:=lo) (n:=n) hb.1 hm]
     rw [e]
     simp only [Option.bind_some,h1,Option.map_some,List.map_cons]
 intro Q cs R ds os h h2 hb
 exact key Q cs R ds os h h2 hb
theorem frz_rowsO {lo n:Nat} {Q:List (List Int)} {cs:List V} {os:List (Nat × Ob)} (h:RowsO os Q cs) (hb:BV os lo n):∃ os',(∀ (k:Nat) (B:Hp),mapS (frz (k+1)) cs (HpV B os lo n) = some (Q.map slI,HpV B os' lo n))∧BV os' lo n∧RowsO os' Q cs:=frz_rowsO2 h h hb
structure FzR (os:List (Nat × Ob)) (cs ds:List V) (os':List (Nat × Ob)) (lo n:Nat):Prop where
 out:∀ (k:Nat) (B:Hp),mapS (frz (k+1)) cs (HpV B os lo n) = some (ds,HpV B os' lo n)
@[go_sem] theorem mapS_fzR {os os':List (Nat × Ob)} {cs ds:List V} {lo n k:Nat} {B:Hp} (h:FzR os cs ds os' lo n):mapS (frz (k+1)) cs (HpV B os lo n) = some (ds,HpV B os' lo n):=h.out k B
theorem RowsO.len {os:List (Nat × Ob)} {Q:List (List Int)} {cs:List V} (h:RowsO os Q cs):cs.length = Q.length:=by
 induction h with
 | nil=>rfl
 | cons h t ih=>rw [List.length_cons,List.length_cons,ih]
theorem RowsO.at {os:List (Nat × Ob)} {Q:List (List Int)} {cs:List V} (h:RowsO os Q cs):∀ i (hi:i < cs.length) (hq:i < Q.length),RowO Q[i] cs[i] os:=by
 induction h with
 | nil=>intro i hi;cases hi
 | cons h t ih =>
  intro i hi hq
  match i with
  | 0=>exact h
  | i+1=>exact ih i (Nat.lt_of_succ_lt_succ hi) (Nat.lt_of_succ_lt_succ hq)
theorem RowsO.of {os:List (Nat × Ob)}:∀ {Q:List (List Int)} {cs:List V},cs.length = Q.length→(∀ i (hi:i < cs.length) (hq:i < Q.length),RowO Q[i] cs[i] os)→RowsO os Q cs
 | [],[],_,_=>.nil
 | A::Q,v::cs,hl,h=>.cons (h 0 (by simp) (by simp)) (RowsO.of (by simpa using hl) fun i hi hq=>h (i+1) (by simpa using hi) (by simpa using hq))
 | [],v::cs,hl,_=>by simp at hl
 | A::Q,[],hl,_=>by simp at hl
theorem RowsO.c {os:List (Nat × Ob)} {Q:List (List Int)} {cs:List V} (h:RowsO os Q cs):RowsC Q cs:=⟨h.len,fun i hi hq=>by
 rcases h.at i hi hq with h | ⟨id,z,h,_⟩
 ·exact .inl h
 ·exact .inr ⟨id,h⟩⟩
theorem RowsO.slices (Q:List (List Int)):RowsO [] Q (Q.map slI):=RowsO.of (by simp) fun i hi hq=>.inl (by simp)
theorem RowO.more {A:List Int} {v:V} {os:List (Nat × Ob)} {p:Nat × Ob} (h:RowO A v os):RowO A v (os++[p]):=by
 rcases h with h | ⟨id,z,h1,h2⟩
 ·exact .inl h
 ·exact .inr ⟨id,z,h1,List.mem_append_left _ h2⟩
theorem RowsO.set {os:List (Nat × Ob)} {Q:List (List Int)} {cs:List V} (h:RowsO os Q cs) (i id:Nat) (A:List Int):RowsO (os++[(id,{ cells:=A.map (V.int .i64),sz:=1 })]) (Q.set i A) (cs.set i (.ref id 0 0 A.length)):=by
 have hl:=h.len
 refine RowsO.of (by simp [hl]) fun j hj hq=>?_
 rw [List.getElem_set,List.getElem_set]
 split
 ·exact .inr ⟨id,0,rfl,by simp⟩
 ·exact (h.at j _ _).more
end Go.Dp
namespace Go.Dp
open Go.RowKit Go.Proofs
attribute [local irreducible] wp wpOps wpOp1 CallW CallT kSeq kBlk kLoop kReg retP retR kAsg kRound kRf kCut kItr kItr2
set_option linter.unusedVariables false
set_option linter.unusedSimpArgs false
theorem losC_snoc:∀ (l:List (Int × Int)) (a b:Int),losC (l++[(a,b)]) = losC l++[.int .i64 a,.int .i64 b]
 | [],a,b=>rfl
 | p::l,a,b=>by
  have:=losC_snoc l a b
  simp only [List.cons_append,losC,this]
theorem losC_atoms:∀ (l:List (Int × Int)),∀ v∈losC l,v.atom = true
 | [],v,h=>by cases h
 | p::l,v,h=>by
  simp only [losC,List.mem_cons] at h
  rcases h with rfl | rfl | h
  ·rfl
  ·rfl
  ·exact losC_atoms l v h
theorem bad_eq {P B:Int} (hB:0≤B∧B < 16) (A:List Int):badP P B A = (decide (A.length≠0) && (decide ((A.length:Int)≠B+1) || decide (polyE P A≠0))):=by
 unfold badP
 by_cases h0:A.length = 0
 ·rw [decide_eq_false (by omega:¬ 0 < A.length),decide_eq_false (by omega:¬ A.length≠0),Bool.false_and,Bool.false_and]
 ·rw [decide_eq_true (by omega), decide_eq_true h0, Bool.true_and, Bool.true_and]
  by_cases h1:(A.length:Int) = B+1
  ·rw [decide_eq_false (by omega), Bool.false_or, Bool.false_or]
   cases hs:secsB P A
   ·have:polyE P A≠0:=fun e=>by
     have h2:=polyE_rng e
     rw [secsB,Bool.not_eq_false',List.any_eq_true] at hs
     obtain ⟨a,ha,h3⟩:=hs
     have:=h2 a ha
     simp only [decide_eq_true_eq] at h3
     omega
    rw [decide_eq_true this];rfl
   ·rw [decide_eq_false (by rw [secs_poly hs (by omega)];simp)];rfl
  ·rw [decide_eq_true h1,Bool.true_or,Bool.true_or]
end Go.Dp
