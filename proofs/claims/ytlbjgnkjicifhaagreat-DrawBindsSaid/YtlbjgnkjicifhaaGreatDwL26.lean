import Derived.Test.YtlbjgnkjicifhaaGreatDwL16
import Derived.Test.YtlbjgnkjicifhaaGreatDwL13
import Derived.Test.YtlbjgnkjicifhaaGreatDpCut
import Derived.Test.YtlbjgnkjicifhaaGreatDwJ13
namespace Go.Dp
open Go.RowKit Go.Proofs
attribute [local irreducible] wp wpOps wpOp1 CallW CallT kSeq kBlk kLoop kReg retP retR kAsg kRound kRf kCut kItr kItr2
set_option linter.unusedVariables false
set_option linter.unusedSimpArgs false
set_option maxRecDepth 10000 in
set_option maxHeartbeats 2000000 in
theorem k4 (c:Cf) (hw:B64 c.R∧B64 c.P∧B64 c.G∧B64 c.H∧B64 c.B∧B64 c.K) (l:List (List Int)) (hl:l.length < 2 ^ 63) (hx:∀ p∈l,p.length < 2 ^ 63∧∀ n∈p,B64 n) (b:Brd) (hb:LnA b.d∧LnA b.c∧LnA b.a∧LnA b.r):PureC Tryz.prog 4 [c.v,.sl (l.map slI) l.length,bdV b] (fun r=>r = .bool true):=by
 have hk:=k12 c hw 5 (by omega)
 have c1:PureC Tryz.prog 13 [bdV b,.int .i64 6] (fun r=>r = .tup [bdV (cutB 6 b),bdV (cutB 6 b)]):=k13 b (LnA.at hb) 6 (by omega)
 have hcb:=cutB_ok hb (m:=6) (by omega)
 have hf6:=cutB_fit hb (m:=6)
 have hf:=fits_mono hf6 (show (6:Int)≤100 by omega)
 have c2:=fun (x:Cf) (hX:x.Ok)=>(k23 x hX l hl hx (cutB 6 b) hcb.1 hf [] (by simp)).weak (VWL.cons (.refl x.v) (VWL.cons (.refl _) (VWL.cons (.refl _) (VWL.cons .nils .nil))))
 have hB:=fun (x:Cf) (hX:x.Ok)=>runB_okP hX hx [] hcb.1 hf
 have hBl:∀ x:Cf,x.Ok→x.H≤5→(runB x (polysM x l) [] (cutB 6 b)).r.length≤300  :=fun x hX hH=>by
  have hr:=hX.rng
  have:=curX_len hX (fun q hq hz=>(polysM_ok hX hx q hq hz).2) [] hf 3 (polysM x l).length
  rw [curX_end] at this
  have e:(runB x (polysM x l) [] (cutB 6 b)).r = (runX x (polysM x l) [] (cutB 6 b) 3).map Prod.fst:=runB_at x (polysM x l) [] (cutB 6 b) (k:=3) (by omega)
  rw [e,List.length_map]
  have:=polysM_len x l
  have:=hH
  omega
 generalize cutB 6 b = b6 at c1 c2 hB hBl hcb hf6
 refine pureC_of_wp .x mixed ok4 rfl ?_
 unfold c4
 rw [rep6]
 dsimp only [argE,Cf.v,cfgV,bdV]
 refine W.assoc (W.assoc (W.assoc (W.assoc (W.assoc (W.cut (fun y:Cf × Brd=>[(8,.ptr 72 0 0),(10,.ptr 136 0 0),(11,.ptr 224 0 0),(13,.ref 256 0 0 0)]) (fun y=>B4 y.1 y.2 b6 []) (fun y=>Bnd y.1 y.2 b6) 260 ?_ ?_)))))
 ·rintro ⟨x,F⟩ n h hn
  exact k4_b x F b6 h n (by omega)
 intro Gk hG
 refine W.run ?_
 refine W.pc0R hk rfl ⟨_,awC,aw_ok,by decide,by decide,rfl⟩ ?_
 rintro r ⟨x,hX,hH5,_,rfl⟩
 refine ⟨_,rfl,?_⟩
 have c3:=c2 x hX
 have hBx:=hB x hX
 have hBy:=hBl x hX hH5
 have c16:=k16 x.R x.P x.G x.H x.B x.K
 clear c2 hB hk hBl
 generalize runB x (polysM x l) [] b6 = B at c3 hBx hBy
 have c4:PureC Tryz.prog 13 [bdV B,.int .i64 400] (fun r=>r = .tup [bdV (cutB 400 B),bdV (cutB 400 B)]):=k13 B (LnA.at hBx.a) 400 (by omega)
 have hcY:=cutB_ok hBx.a (m:=400) (by omega)
 have hFl:(cutB 400 B).r.length≤300:=by show (cutS 400 B.r).length≤300;rw [cutS_len];omega
 generalize cutB 400 B = F at c4 hcY hFl
 have hBnd:Bnd x F b6:=⟨hX,hcY.1,hcb.1,hcY.2,hf6,hFl⟩
 refine W.run ?_
 exact W.kc hG (x,F) hBnd (by omega) (HS.p (HS.p (HS.p (HS.p (HS.emp _)))))
def tys4:List Ty:=tysD
theorem law4:∀ xs,Ty.okArgs tys4 xs→PureC Tryz.prog 4 xs (fun r=>r = .bool true):=by
 intro xs h
 obtain ⟨c,l,b,rfl,hc,hl,hx,hb⟩:=okArgs_D h
 exact k4 c hc l hl hx b hb
abbrev B6 (x:Cf) (A0 A1:List Int) (Y:Brd):Hp:=(((Hp.put (fun _=>none) 8 { cells:=[slI A0,slI A1],sz:=2 }).put 48 { cells:=[.int .i64 x.R,.int .i64 x.P,.int .i64 x.G,.int .i64 x.H,.int .i64 x.B,.int .i64 x.K],sz:=6 }).put 104 { cells:=[linV Y.d,linV Y.c,linV Y.a,linV Y.r],sz:=4 }).put 112 { cells:=[linV Y.d,linV Y.c,linV Y.a,linV Y.r],sz:=4 }
theorem tmod_rng {a m:Int} (hm:0 < m):-m < Int.tmod a m∧Int.tmod a m < m:=by
 have h1:=Int.tmod_lt_of_pos a hm
 have h2:-m < Int.tmod a m:=by
  have:=Int.tmod_lt_of_pos (-a) hm
  rw [Int.neg_tmod] at this
  omega
 exact ⟨h2,h1⟩
def vO (P:List Int):Option (Nat × Nat × Nat)→V
 | none=>slI P
 | some (id,ver,_)=>.ref id ver 0 P.length
def HO (B:Hp) (P:List Int):Option (Nat × Nat × Nat)→Hp
 | none=>B
 | some (id,ver,nq)=>B.put id { cells:=P.map (V.int .i64),sz:=1,ver:=ver,nl:=nq }
def okOb (m n:Nat):Option (Nat × Nat × Nat)→Prop
 | none=>True
 | some (id,_,_)=>m < id∧id < n
theorem okOb.mono {m n n':Nat} {o:Option (Nat × Nat × Nat)} (h:okOb m n o) (hn:n≤n'):okOb m n' o:=by
 cases o with
 | none=>trivial
 | some q=>exact ⟨h.1,by have:=h.2;omega⟩
def HOp (B:Hp) (P:List Int) (o:Option (Nat × Nat × Nat)) (lo n:Nat):Hp:=HO B P o
theorem zeros_ex (n:Nat):∃ Z:List Int,Z.length = n∧Z.map (V.int .i64) = zerosV [.int .i64 0] n:=by
 refine ⟨List.replicate n 0,by simp,?_⟩
 induction n with
 | zero=>rfl
 | succ n ih=>rw [List.replicate_succ,List.map_cons,ih];rfl
section
variable {B:Hp} {P:List Int} {o:Option (Nat × Nat × Nat)} {lo n i:Nat} {ob:Ob}
@[go_sem] theorem HOp_at (hb:okOb lo n o) (hi:i≤lo∨n≤i):HOp B P o lo n i = B i:=by
 cases o with
 | none=>rfl
 | some q=>exact put_ne (by have:=hb.1;have:=hb.2;omega)
@[go_sem] theorem HOp_put (hb:okOb lo n o) (hi:i≤lo∨n≤i):(HOp B P o lo n).put i ob = HOp (B.put i ob) P o lo n:=by
 cases o with
 | none=>rfl
 | some q=>exact put_comm (by have:=hb.1;have:=hb.2;omega)
@[go_sem] theorem HOp_mark {a:Nat} (hb:okOb lo n o) (hi:i≤lo∨n≤i):(HOp B P o lo n).mark i a = HOp (B.mark i a) P o lo n:=by
 unfold Hp.mark
 rw [HOp_at hb hi]
 cases B i with
 | none=>rfl
 | some ob=>exact HOp_put hb hi
theorem HOp_HS {B':Hp} {n':Nat} (h:HS B B'):HS (HOp B P o lo n') (HOp B' P o lo n):=by
 cases o with
 | none=>exact h
 | some q =>
  intro j x e
  simp only [HOp,HO,Hp.put] at e ⊢
  split
  ·rename_i hc;rw [if_pos hc] at e;exact e
  ·rename_i hc;rw [if_neg hc] at e;exact h j x e
end
end Go.Dp
namespace Go.Dp
open Go.RowKit Go.Proofs
attribute [local irreducible] wp wpOps wpOp1 CallW CallT kSeq kBlk kLoop kReg retP retR kAsg kRound kRf kCut kItr kItr2
set_option linter.unusedVariables false
set_option linter.unusedSimpArgs false
def lfC:C→C
 | .seq a _=>a
 | c=>c
def inC:C→C
 | .blk _ a=>a
 | .loop _ a=>a
 | c=>c
def bd6:C:=inC (lfC (rtC (inC (inC (rtC (lfC (rtC (rtC (rtC (rtC (rtC (rtC (rtC c6)))))))))))))
def bd6a:C:=.seq (.seq (.seq (.seq (.seq (lfC bd6) (lfC (rtC bd6))) (lfC (rtC (rtC bd6)))) (lfC (rtC (rtC (rtC bd6))))) (lfC (rtC (rtC (rtC (rtC bd6)))))) (lfC (rtC (rtC (rtC (rtC (rtC bd6))))))
def st6 (x:Cf) (A0 A1:List Int) (Y:Brd) (k:Nat) (hall ph:Int) (P G:List Int) (oP oG:Option (Nat × Nat × Nat)) (v:V) (n:Nat):St :=
 ⟨[(4,.ptr 8 0 0),(7,.ptr 48 0 0),(8,.ptr 104 0 0),(9,.ptr 112 0 0),(10,.int .i64 hall),(11,.int .i64 ph),(12,vO P oP),(13,vO G oG),(14,.int .i64 (k:Int)),(58,v)],HO (HO (B6 x A0 A1 Y) P oP) G oG,n⟩
def HOz (B:Hp) (P:List Int):Option (Nat × Nat × Nat)→Nat→Hp
 | none,_=>B
 | some (id,ver,nq),z=>B.put id { cells:=P.map (V.int .i64),sz:=1,ver:=ver,nl:=nq,fz:=z }
structure Rnd (x:Cf) (Y:Brd) (k:Nat) (hall ph:Int) (P G:List Int) (oP oG:Option (Nat × Nat × Nat)) (m:Nat):Prop where
 hX:x.Ok
 hh:-20≤hall∧hall≤20
 hph:-10≤ph∧ph≤10
 hPl:P.length≤64∧G.length≤64
 ho1:okOb 200 m oP
 ho2:okOb 200 m oG
 ho3:∀ q r,oP = some q→oG = some r→q.1≠r.1
 ho4:oG = none→oP = none
 hY:Y.Ok
 hYf:Y.fits 60 = true
 hm:256≤m
set_option maxRecDepth 10000 in
set_option maxHeartbeats 8000000 in
theorem k6_1 (x:Cf) (A0 A1:List Int) (Y:Brd) (k:Nat) (hall ph:Int) (P G:List Int) (oP oG:Option (Nat × Nat × Nat)) (m:Nat) (v:V) (R:Rnd x Y k hall ph P G oP oG m) (hhd:¬ ((1≤hall∧hall≤x.H)∧0≤ph∧ph≤3))
  (Gk:St→Prop) (K:Ex→St→Prop) (hG:∀ (_:Unit) n,m≤n→Gk ⟨[(4,.ptr 8 0 0),(7,.ptr 48 0 0),(8,.ptr 104 0 0),(9,.ptr 112 0 0),(10,.int .i64 hall),(14,.int .i64 (k:Int))],B6 x A0 A1 Y,n⟩) :
  wp Tryz.prog Ys.none bd6a (kCut Gk K) (st6 x A0 A1 Y k hall ph P G oP oG v (m+16)):=by
 obtain ⟨hX,hh,hph,hPl,ho1,ho2,ho3,ho4,hY,hYf,hm⟩:=R
 have hr:=hX.rng
 have c26:=k26 x hX Y hY hall P G (by omega) (by omega) ph
 have hE:postE x hall P G ph = 1:=by unfold postE;rw [if_pos];intro h;apply hhd;have h1:=h.1;simp [isHallB] at h1;exact ⟨h1,h.2.1,h.2.2.1⟩
 rw [fits_mono hYf (show (60:Int)≤400 by omega),if_neg (by simp),hE,if_pos (by omega)] at c26
 have c16:=k16 x.R x.P x.G x.H x.B x.K
 clear hX hY hYf
 unfold bd6a bd6 c6 st6
 dsimp only [rtC,lfC,inC]
 have hd4:hall < 1∨(¬ hall < 1∧x.H < hall)∨(¬ hall < 1∧¬ x.H < hall∧ph < 0)∨(¬ hall < 1∧¬ x.H < hall∧¬ ph < 0∧3 < ph):=by omega
 clear hhd
 rcases hcP:oP with _ | ⟨id,ver,nq⟩
 all_goals
  rcases hcG:oG with _ | ⟨id2,ver2,nq2⟩
 case' some.none=>exact absurd (ho4 hcG) (by rw [hcP];simp)
 case' some.some=>have h3:=ho3 _ _ hcP hcG;rw [hcP] at ho1;rw [hcG] at ho2;dsimp only [okOb] at ho1 ho2 h3
 case' none.some=>rw [hcG] at ho2;dsimp only [okOb] at ho2
 all_goals
  clear ho3 ho4
  dsimp only [vO,HO]
  rcases hd4 with hd4 | ⟨hd1,hd4⟩ | ⟨hd1,hd2,hd4⟩ | ⟨hd1,hd2,hd3,hd4⟩
 all_goals
  refine W.run ?_
  refine W.lp (fun i:Nat=>[(4,.ptr 8 0 0),(7,.ptr 48 0 0),(8,.ptr 104 0 0),(9,.ptr 112 0 0),(10,.int .i64 hall),(11,.int .i64 ph),(12,vO P oP),(13,vO G oG),(14,.int .i64 (k:Int)),(15,.nils),(16,.int .i64 1),(17,.int .i64 1),(18,.int .i64 (i:Int))]) (fun _=>HOz (HOz (B6 x A0 A1 Y) P oP (max 0 P.length)) G oG (max 0 G.length)) (fun _=>True) (fun _=>0) 0 (by rw [hcP,hcG];rfl) (by rw [hcP,hcG];exact HS.refl _) trivial ?_
  rintro i nx - hnx
  rw [hcP,hcG]
  dsimp only [vO,HOz]
  by_cases hi:i < P.length
  all_goals
   refine W.run ?_
   exact W.kcN hG () (by omega) (HS.p (HS.p (HS.p (HS.p (HS.emp _)))))
def wN (P:Int) (A:List Int) (i:Nat):Int:=if (A.take i).any (fun n=>decide (n < 0∨P≤n)) = true then 1 else 0
theorem wN_or (P:Int) (A:List Int) (i:Nat):wN P A i = 0∨wN P A i = 1:=by
 unfold wN;split
 ·exact .inr rfl
 ·exact .inl rfl
theorem wN_0 (P:Int) (A:List Int):wN P A 0 = 0:=by simp [wN]
theorem wN_succ {P:Int} {A:List Int} {i:Nat} (hi:i < A.length) (h:wN P A i = 0):wN P A (i+1) = if A[i] < 0∨P≤A[i] then 1 else 0:=by
 unfold wN at h ⊢
 rw [← List.take_append_getElem hi,List.any_append]
 by_cases ha:(A.take i).any (fun n=>decide (n < 0∨P≤n)) = true
 ·rw [if_pos ha] at h;omega
 ·rw [Bool.not_eq_true] at ha
  rw [ha];simp
set_option maxRecDepth 10000 in
set_option maxHeartbeats 8000000 in
theorem k6_2 (x:Cf) (A0 A1:List Int) (Y:Brd) (k:Nat) (hall ph:Int) (P G:List Int) (oP oG:Option (Nat × Nat × Nat)) (m:Nat) (v:V) (R:Rnd x Y k hall ph P G oP oG m) (hhd:(1≤hall∧hall≤x.H)∧0≤ph∧ph≤3) (hs:secsB x.P P = false)
  (Gk:St→Prop) (K:Ex→St→Prop) (hG:∀ (_:Unit) n,m≤n→Gk ⟨[(4,.ptr 8 0 0),(7,.ptr 48 0 0),(8,.ptr 104 0 0),(9,.ptr 112 0 0),(10,.int .i64 hall),(14,.int .i64 (k:Int))],B6 x A0 A1 Y,n⟩) :
  wp Tryz.prog Ys.none bd6a (kCut Gk K) (st6 x A0 A1 Y k hall ph P G oP oG v (m+16)):=by
 obtain ⟨hX,hh,hph,hPl,ho1,ho2,ho3,ho4,hY,hYf,hm⟩:=R
 have hr:=hX.rng
 have c26:=k26 x hX Y hY hall P G (by omega) (by omega) ph
 have hE:postE x hall P G ph = 1:=by unfold postE;rw [if_pos];intro h;rw [hs] at h;exact absurd h.2.2.2 (by simp)
 rw [fits_mono hYf (show (60:Int)≤400 by omega),if_neg (by simp),hE,if_pos (by omega)] at c26
 have c16:=k16 x.R x.P x.G x.H x.B x.K
 clear hX hY hYf
 unfold bd6a bd6 c6 st6
 dsimp only [rtC,lfC,inC]
 have c27:=fun n=>k27 (R:=x.R) (P:=x.P) (G:=x.G) n
 have hw1:wN x.P P P.length = 1:=by
  unfold wN
  rw [if_pos]
  rw [List.take_length]
  unfold secsB at hs
  simpa using hs
 clear hs
 rcases hcP:oP with _ | ⟨id,ver,nq⟩
 all_goals
  rcases hcG:oG with _ | ⟨id2,ver2,nq2⟩
 case' some.none=>exact absurd (ho4 hcG) (by rw [hcP];simp)
 case' some.some=>have h3:=ho3 _ _ hcP hcG;rw [hcP] at ho1;rw [hcG] at ho2;dsimp only [okOb] at ho1 ho2 h3
 case' none.some=>rw [hcG] at ho2;dsimp only [okOb] at ho2
 all_goals
  clear ho3 ho4
  dsimp only [vO,HO]
  refine W.run ?_
  refine W.lp (fun i:Nat=>[(4,.ptr 8 0 0),(7,.ptr 48 0 0),(8,.ptr 104 0 0),(9,.ptr 112 0 0),(10,.int .i64 hall),(11,.int .i64 ph),(12,vO P oP),(13,vO G oG),(14,.int .i64 (k:Int)),(15,.nils),(16,.int .i64 1),(17,.int .i64 (wN x.P P i)),(18,.int .i64 (i:Int))]) (fun _=>HOz (HOz (B6 x A0 A1 Y) P oP (max 0 P.length)) G oG (max 0 G.length)) (fun i=>i≤P.length) (fun i=>P.length - i) 0 (by rw [hcP,hcG,wN_0];rfl) (by rw [hcP,hcG];exact HS.refl _) (by omega) ?_
  rintro i nx hi hnx
  rw [hcP,hcG]
  dsimp only [vO,HOz]
  by_cases hw:wN x.P P i = 0
  ·by_cases hil:i < P.length
   ·have hs:=wN_succ hil hw
    have c28:=c27 P[i]
    rw [hw]
    clear c26 c16 c27 hw
    by_cases hb:0≤P[i]∧P[i] < x.P
    ·rw [decide_eq_true hb] at c28
     rw [if_neg (by omega)] at hs
     refine W.run ?_
     exact W.kl (i+1) (by rw [hs];first | rfl | (rw [hcP,hcG];rfl)) (by first | exact HS.refl _ | (rw [hcP,hcG];exact HS.refl _)) (by omega) (by omega) (by omega)
    ·rw [decide_eq_false hb] at c28
     rw [if_pos (by omega)] at hs
     clear hb
     refine W.run ?_
     exact W.kl (i+1) (by rw [hs];first | rfl | (rw [hcP,hcG];rfl)) (by first | exact HS.refl _ | (rw [hcP,hcG];exact HS.refl _)) (by omega) (by omega) (by omega)
   ·have hie : i = P.length := by omega
    rw [hie,hw1] at hw
    omega
  ·have hwi:wN x.P P i = 1:=(wN_or x.P P i).resolve_left hw
   rw [hwi]
   clear c26 c16 c27 hw hwi hw1
   by_cases hil:i < P.length
   all_goals
    refine W.run ?_
    exact W.kcN hG () (by omega) (HS.p (HS.p (HS.p (HS.p (HS.emp _)))))
set_option maxRecDepth 10000 in
set_option maxHeartbeats 8000000 in
theorem k6_3 (x:Cf) (A0 A1:List Int) (Y:Brd) (k:Nat) (hall ph:Int) (P G:List Int) (oP oG:Option (Nat × Nat × Nat)) (m:Nat) (v:V) (R:Rnd x Y k hall ph P G oP oG m) (hhd:(1≤hall∧hall≤x.H)∧0≤ph∧ph≤3) (hs:secsB x.P P = true) (hlen:¬ ((P.length:Int) = x.B+1∧(G.length:Int) = x.H))
  (Gk:St→Prop) (K:Ex→St→Prop) (hG:∀ (_:Unit) n,m≤n→Gk ⟨[(4,.ptr 8 0 0),(7,.ptr 48 0 0),(8,.ptr 104 0 0),(9,.ptr 112 0 0),(10,.int .i64 hall),(14,.int .i64 (k:Int))],B6 x A0 A1 Y,n⟩) :
  wp Tryz.prog Ys.none bd6a (kCut Gk K) (st6 x A0 A1 Y k hall ph P G oP oG v (m+16)):=by
 obtain ⟨hX,hh,hph,hPl,ho1,ho2,ho3,ho4,hY,hYf,hm⟩:=R
 have hr:=hX.rng
 have c26:=k26 x hX Y hY hall P G (by omega) (by omega) ph
 have hE:postE x hall P G ph = 7:=by
  unfold postE
  rw [if_neg (by simp only [isHallB,Classical.not_not];exact ⟨by simp;omega,hhd.2.1,hhd.2.2,hs⟩),if_pos (by omega)]
 rw [fits_mono hYf (show (60:Int)≤400 by omega),if_neg (by simp),hE,if_pos (by omega)] at c26
 have c16:=k16 x.R x.P x.G x.H x.B x.K
 clear hX hY hYf
 unfold bd6a bd6 c6 st6
 dsimp only [rtC,lfC,inC]
 have c27:=fun n=>k27 (R:=x.R) (P:=x.P) (G:=x.G) n
 have hgood:∀ i (hi:i < P.length),0≤P[i]∧P[i] < x.P:=fun i hi=>by
  rw [secsB,Bool.not_eq_true',List.any_eq_false] at hs
  have:=hs _ (List.getElem_mem hi)
  simp only [decide_eq_true_eq,not_or] at this
  omega
 clear hs
 rcases hcP:oP with _ | ⟨id,ver,nq⟩
 all_goals
  rcases hcG:oG with _ | ⟨id2,ver2,nq2⟩
 case' some.none=>exact absurd (ho4 hcG) (by rw [hcP];simp)
 case' some.some=>have h3:=ho3 _ _ hcP hcG;rw [hcP] at ho1;rw [hcG] at ho2;dsimp only [okOb] at ho1 ho2 h3
 case' none.some=>rw [hcG] at ho2;dsimp only [okOb] at ho2
 all_goals
  clear ho3 ho4
  dsimp only [vO,HO]
  refine W.run ?_
  refine W.lp (fun i:Nat=>[(4,.ptr 8 0 0),(7,.ptr 48 0 0),(8,.ptr 104 0 0),(9,.ptr 112 0 0),(10,.int .i64 hall),(11,.int .i64 ph),(12,vO P oP),(13,vO G oG),(14,.int .i64 (k:Int)),(15,.nils),(16,.int .i64 7),(17,.int .i64 0),(18,.int .i64 (i:Int))]) (fun _=>HOz (HOz (B6 x A0 A1 Y) P oP (max 0 P.length)) G oG (max 0 G.length)) (fun i=>i≤P.length) (fun i=>P.length - i) 0 (by rw [hcP,hcG];rfl) (by rw [hcP,hcG];exact HS.refl _) (by omega) ?_
  rintro i nx hi hnx
  rw [hcP,hcG]
  dsimp only [vO,HOz]
  by_cases hil:i < P.length
  ·have c29:=c27 P[i]
   rw [decide_eq_true (hgood i hil)] at c29
   clear c26 c16 c27 hgood
   refine W.run ?_
   exact W.kl (i+1) (by first | rfl | (rw [hcP,hcG];rfl)) (by first | exact HS.refl _ | (rw [hcP,hcG];exact HS.refl _)) (by omega) (by omega) (by omega)
  ·clear c27 hgood
   clear c26 c16
   by_cases hl1:(P.length:Int) = x.B+1
   all_goals
    refine W.run ?_
    exact W.kcN hG () (by omega) (HS.p (HS.p (HS.p (HS.p (HS.emp _)))))
set_option maxRecDepth 10000 in
set_option maxHeartbeats 8000000 in
theorem k6_4 (x:Cf) (A0 A1:List Int) (Y:Brd) (k:Nat) (hall ph:Int) (P G:List Int) (oP oG:Option (Nat × Nat × Nat)) (m:Nat) (v:V) (R:Rnd x Y k hall ph P G oP oG m) (hhd:(1≤hall∧hall≤x.H)∧0≤ph∧ph≤3) (hs:secsB x.P P = true) (hlen:(P.length:Int) = x.B+1∧(G.length:Int) = x.H)
  (Gk:St→Prop) (K:Ex→St→Prop) (hG:∀ (_:Unit) n,m≤n→Gk ⟨[(4,.ptr 8 0 0),(7,.ptr 48 0 0),(8,.ptr 104 0 0),(9,.ptr 112 0 0),(10,.int .i64 hall),(14,.int .i64 (k:Int))],B6 x A0 A1 Y,n⟩) :
  wp Tryz.prog Ys.none bd6a (kCut Gk K) (st6 x A0 A1 Y k hall ph P G oP oG v (m+16)):=by
 obtain ⟨hX,hh,hph,hPl,ho1,ho2,ho3,ho4,hY,hYf,hm⟩:=R
 have hr:=hX.rng
 have c26:=k26 x hX Y hY hall P G (by omega) (by omega) ph
 have hE:postE x hall P G ph = 0:=by
  unfold postE
  rw [if_neg (by simp only [isHallB,Classical.not_not];exact ⟨by simp;omega,hhd.2.1,hhd.2.2,hs⟩),if_neg (by omega)]
 have hpe:polyE x.P P = 0:=secs_poly hs (by omega)
 obtain ⟨p,rfl⟩:∃ p:Nat,ph = p:=⟨ph.toNat,by omega⟩
 have c28:=k28 x hX Y hY hall hhd.1 P G hpe hlen.2 p (by omega)
 have hmo:=postM_ok hX Y hall (got:=G) hpe p
 rw [show ((p:Nat):Int).toNat = p by omega] at c26
 generalize postM x Y hall P G p = M at c26 c28 hmo
 have hMv:VW (.sl (linN M) M.length) (linV M):=by
  have h:=(wkL_post fun y hy=>(hmo.2 y hy).2).vw
  rw [map_fst_pair,List.length_map] at h
  exact h
 have c20:=(k20 M ⟨by omega,fun y hy=>(hmo.2 y hy).1⟩).weak (VWL.cons hMv (VWL.cons hMv .nil))
 have hNl:=linN_len M
 have hMl:=hmo.1
 clear hMv hmo hpe
 rw [fits_mono hYf (show (60:Int)≤400 by omega),if_neg (by simp),hE,if_neg (by omega)] at c26
 have c16:=k16 x.R x.P x.G x.H x.B x.K
 clear hX hY hYf
 unfold bd6a bd6 c6 st6
 dsimp only [rtC,lfC,inC]
 have c27:=fun n=>k27 (R:=x.R) (P:=x.P) (G:=x.G) n
 have hgood:∀ i (hi:i < P.length),0≤P[i]∧P[i] < x.P:=fun i hi=>by
  rw [secsB,Bool.not_eq_true',List.any_eq_false] at hs
  have:=hs _ (List.getElem_mem hi)
  simp only [decide_eq_true_eq,not_or] at this
  omega
 clear hs
 rcases hcP:oP with _ | ⟨id,ver,nq⟩
 all_goals
  rcases hcG:oG with _ | ⟨id2,ver2,nq2⟩
 case' some.none=>exact absurd (ho4 hcG) (by rw [hcP];simp)
 case' some.some=>have h3:=ho3 _ _ hcP hcG;rw [hcP] at ho1;rw [hcG] at ho2;dsimp only [okOb] at ho1 ho2 h3
 case' none.some=>rw [hcG] at ho2;dsimp only [okOb] at ho2
 all_goals
  clear ho3 ho4
  dsimp only [vO,HO]
  refine W.run ?_
  refine W.lp (fun i:Nat=>[(4,.ptr 8 0 0),(7,.ptr 48 0 0),(8,.ptr 104 0 0),(9,.ptr 112 0 0),(10,.int .i64 hall),(11,.int .i64 (p:Int)),(12,vO P oP),(13,vO G oG),(14,.int .i64 (k:Int)),(15,.sl (linN M) M.length),(16,.int .i64 0),(17,.int .i64 0),(18,.int .i64 (i:Int))]) (fun _=>HOz (HOz (B6 x A0 A1 Y) P oP (max 0 P.length)) G oG (max 0 G.length)) (fun i=>i≤P.length) (fun i=>P.length - i) 0 (by rw [hcP,hcG];rfl) (by rw [hcP,hcG];exact HS.refl _) (by omega) ?_
  rintro i nx hi hnx
  rw [hcP,hcG]
  dsimp only [vO,HOz]
  by_cases hil:i < P.length
  ·have c29:=c27 P[i]
   rw [decide_eq_true (hgood i hil)] at c29
   clear c26 c16 c27 hgood
   refine W.run ?_
   exact W.kl (i+1) (by first | rfl | (rw [hcP,hcG];rfl)) (by first | exact HS.refl _ | (rw [hcP,hcG];exact HS.refl _)) (by omega) (by omega) (by omega)
  ·clear c27 hgood
   clear c26
   refine W.run ?_
   exact W.kcN hG () (by omega) (HS.p (HS.p (HS.p (HS.p (HS.emp _)))))
set_option maxRecDepth 10000 in
set_option maxHeartbeats 8000000 in
theorem k6_b (x:Cf) (hX:x.Ok) (A0 A1:List Int) (h0:A0.length < 2 ^ 63∧∀ n∈A0,B64 n) (h1:A1.length < 2 ^ 63∧∀ n∈A1,B64 n) (Y0:Brd) (hY0:Y0.Ok) (hf0:Y0.fits 60 = true) (hall0 ph0:Int) (P0 G0:List Int) (hh0:-20≤hall0∧hall0≤20) (hph0:-10≤ph0∧ph0≤10) (hPl0:P0.length≤64∧G0.length≤64) (n:Nat) (hn:256≤n) :
  wp Tryz.prog Ys.none (rtC (rtC (rtC (rtC (rtC (rtC (rtC c6))))))) (retP [.tmp 6] .x (fun r=>r = .bool true)) ⟨[(4,.ptr 8 0 0),(7,.ptr 48 0 0),(8,.ptr 104 0 0),(9,.ptr 112 0 0),(10,.int .i64 hall0),(11,.int .i64 ph0),(12,slI P0),(13,slI G0)],B6 x A0 A1 Y0,n⟩:=by
 have hr:=hX.rng
 have hP3:=hX.1.hP
 have cA:=k22
 unfold c6
 dsimp only [rtC]
 refine W.run ?_
 refine W.loop (fun z:Nat × (Int × Int) × (List Int × Option (Nat × Nat × Nat)) × (List Int × Option (Nat × Nat × Nat)) × Brd × Nat=>⟨[(4,.ptr 8 0 0),(7,.ptr 48 0 0),(8,.ptr 104 0 0),(9,.ptr 112 0 0),(10,.int .i64 z.2.1.1),(11,.int .i64 z.2.1.2),(12,vO z.2.2.1.1 z.2.2.1.2),(13,vO z.2.2.2.1.1 z.2.2.2.1.2),(14,.int .i64 (z.1:Int))],HO (HO (B6 x A0 A1 z.2.2.2.2.1) z.2.2.1.1 z.2.2.1.2) z.2.2.2.1.1 z.2.2.2.1.2,z.2.2.2.2.2⟩)
  (fun z=>z.1≤4∧((-20≤z.2.1.1∧z.2.1.1≤20)∧-10≤z.2.1.2∧z.2.1.2≤10)∧(z.2.2.1.1.length≤64∧z.2.2.2.1.1.length≤64)∧(okOb 200 z.2.2.2.2.2 z.2.2.1.2∧okOb 200 z.2.2.2.2.2 z.2.2.2.1.2∧(∀ q r,z.2.2.1.2 = some q→z.2.2.2.1.2 = some r→q.1≠r.1)∧(z.2.2.2.1.2 = none→z.2.2.1.2 = none))∧(z.2.2.2.2.1.Ok∧z.2.2.2.2.1.fits 60 = true)∧256≤z.2.2.2.2.2) (fun z=>4 - z.1) (0,(hall0,ph0),(P0,none),(G0,none),Y0,n+8) ⟨by dsimp only;omega,⟨hh0,hph0⟩,hPl0,⟨trivial,trivial,fun q r h=>(by cases h),fun _=>rfl⟩,⟨hY0,hf0⟩,by dsimp only;omega⟩ ?_ rfl (HS.refl _) rfl
 clear hh0 hph0 hPl0 hY0 hf0
 rintro ⟨k,⟨hall,ph⟩,⟨P,oP⟩,⟨G,oG⟩,Y,m⟩ ⟨hk,⟨hh,hph⟩,hPl,⟨ho1,ho2,ho3,ho4⟩,⟨hY,hYf⟩,hm⟩
 dsimp only at hk hh hph hPl ho1 ho2 ho3 ho4 hY hYf hm ⊢
 by_cases hk4:k < 4
 ·refine W.seq ?_
  refine W.seq ?_
  refine W.gos ?_
  refine W.seq ?_
  refine W.gos ?_
  refine W.assoc (W.assoc (W.assoc (W.assoc (W.assoc (W.cutN (fun _:Unit=>[(4,.ptr 8 0 0),(7,.ptr 48 0 0),(8,.ptr 104 0 0),(9,.ptr 112 0 0),(10,.int .i64 hall),(14,.int .i64 (k:Int))]) (fun _=>B6 x A0 A1 Y) (fun _ n=>m≤n) ?_ ?_)))))
  ·rintro _ q hq
   clear cA ho1 ho2 ho3 ho4 hPl
   have hall2:=emod_rng (a:=hall % 18446744073709551616) (P:=x.H) (by omega)
   obtain ⟨hall',hhall'⟩:∃ z:Int,z = 1+hall % 18446744073709551616 % x.H:=⟨_,rfl⟩
   have hlx:∀ p∈[A0,A1,[1],[2],[3]],p.length < 2 ^ 63∧∀ n∈p,B64 n:=fun p hp=>by
    simp only [List.mem_cons,List.not_mem_nil,or_false] at hp
    rcases hp with rfl | rfl | rfl | rfl | rfl
    ·exact h0
    ·exact h1
    ·exact ⟨by simp,by simp [B64]⟩
    ·exact ⟨by simp,by simp [B64]⟩
    ·exact ⟨by simp,by simp [B64]⟩
   have hl3:∀ p∈[A0,A1,[1]],p.length < 2 ^ 63∧∀ n∈p,B64 n:=fun p hp=>hlx p (by simp only [List.mem_cons,List.not_mem_nil,or_false] at hp ⊢;rcases hp with h | h | h <;> simp [h])
   have c21:PureC Tryz.prog 21 [x.v,.sl [slI A0,slI A1,.sl [.int .i64 1] 1,.sl [.int .i64 2] 1,.sl [.int .i64 3] 1] 5] (fun r=>r = .own ((polysM x [A0,A1,[1],[2],[3]]).map slI) x.H.toNat 1):=k21 x hX [A0,A1,[1],[2],[3]] (by simp) hlx
   have hQl:=polysM_len x [A0,A1,[1],[2],[3]]
   have hQo:=polysM_ok hX hlx
   have hY100:=fits_mono hYf (show (60:Int)≤100 by omega)
   have c23:PureC Tryz.prog 23 [x.v,.sl [slI A0,slI A1,.sl [.int .i64 1] 1] 3,bdV Y,.nils] (fun r=>r = bdV (runB x (polysM x [A0,A1,[1]]) [] Y)):=(k23 x hX [A0,A1,[1]] (by simp) hl3 Y hY hY100 [] (by simp)).weak (VWL.cons (.refl x.v) (VWL.cons (.refl _) (VWL.cons (.refl _) (VWL.cons .nils .nil))))
   have hRB:=runB_okP hX hl3 [] hY hY100
   generalize runB x (polysM x [A0,A1,[1]]) [] Y = RB at c23 hRB
   have c13:PureC Tryz.prog 13 [bdV RB,.int .i64 60] (fun r=>r = .tup [bdV (cutB 60 RB),bdV (cutB 60 RB)]):=k13 RB (LnA.at hRB.a) 60 (by omega)
   have hcZ:=cutB_ok hRB.a (m:=60) (by omega)
   have hfZ:=cutB_fit hRB.a (m:=60)
   generalize cutB 60 RB = Z at c13 hcZ hfZ
   generalize polysM x [A0,A1,[1],[2],[3]] = Q at c21 hQl hQo
   rw [← hQl] at c21
   clear hlx hl3 hRB hY100
   refine W.assoc (W.assoc (W.assoc (W.assoc (W.cutN (fun y:List Int × Option (Nat × Nat × Nat)=>[(4,.ptr 8 0 0),(7,.ptr 48 0 0),(8,.ptr 104 0 0),(9,.ptr 112 0 0),(10,.int .i64 hall'),(11,.int .i64 ((k:Int)+1)),(12,vO y.1 y.2),(14,.int .i64 (k:Int)),(19,.sl (Q.map slI) Q.length)]) (fun y=>HOp (B6 x A0 A1 Y) y.1 y.2 200 m) (fun y n=>y.1.length≤64∧okOb 200 n y.2∧q≤n) ?_ ?_))))
   ·rintro ⟨P',oP'⟩ q2 ⟨hP',hoP,hq2⟩
    dsimp only at hP' hoP hq2 ⊢
    change wp _ _ _ _ ⟨_,HOp (B6 x A0 A1 Y) P' oP' 200 q2,_⟩
    clear c21
    refine W.run ?_
    refine W.loop (fun z:Nat × List Int × Nat=>⟨[(4,.ptr 8 0 0),(7,.ptr 48 0 0),(8,.ptr 104 0 0),(9,.ptr 112 0 0),(10,.int .i64 hall'),(11,.int .i64 ((k:Int)+1)),(12,vO P' oP'),(13,.ref q2 z.2.1.length 0 z.2.1.length),(14,.int .i64 (k:Int)),(19,.sl (Q.map slI) Q.length),(20,.int .i64 (z.1:Int))],HOp ((B6 x A0 A1 Y).put q2 { cells:=(z.2.1).map (V.int .i64),sz:=1,ver:=(z.2.1).length,nl:=if (z.2.1).length = 0 then 1 else 0 }) P' oP' 200 q2,z.2.2⟩)
     (fun z=>z.1≤x.H.toNat∧z.2.1.length = z.1∧q2+16≤z.2.2) (fun z=>x.H.toNat - z.1) (0,[],q2+16) ⟨by dsimp only;omega,rfl,by dsimp only;omega⟩ ?_ rfl (HS.refl _) rfl
    rintro ⟨h,G',q3⟩ ⟨hh1,hG1,hq3⟩
    dsimp only at hh1 hG1 hq3 ⊢
    by_cases hhl:h < x.H.toNat
    ·have hhQ : h < Q.length := by omega
     have hQh:=hQo _ (List.getElem_mem hhQ)
     clear c23 c13 hQo
     by_cases hA:h < A1.length
     ·have hA1l:=h1.1
      by_cases hz:Q[h].length = 0
      ·clear hQh
       refine W.run ?_
       refine W.kl0 (HOp ((B6 x A0 A1 Y).put q2 { cells:=(G'++[Int.tmod A1[h] (x.P+2)]).map (V.int .i64),sz:=1,ver:=(G'++[Int.tmod A1[h] (x.P+2)]).length,nl:=if (G'++[Int.tmod A1[h] (x.P+2)]).length = 0 then 1 else 0 }) P' oP' 200 q2) ?_ ⟨(h+1,G'++[Int.tmod A1[h] (x.P+2)],_),⟨by dsimp only;omega,by dsimp only;rw [List.length_append,hG1];rfl,by dsimp only;omega⟩,St_fr (by dsimp only;rw [List.length_append];rfl),by dsimp only;omega⟩ Nat.zero_lt_one
       rw [List.map_append,List.length_append,List.length_singleton,if_neg (by omega)]
       exact HOp_HS (HS.skip (HS.refl _) (by simp only [Hp.put];repeat (rw [if_neg (by omega)])) _)
      ·have hQ0:=hQh hz
       by_cases hpar:(h:Int) % 2 = (k:Int) % 2
       ·have c29 := k29 (R := x.R) (G := x.G) hX.1.hP Q[h] _ rfl (by omega) (polyE_rng hQ0.2) hall' (by omega)
        refine W.run ?_
        refine W.kl0 (HOp ((B6 x A0 A1 Y).put q2 { cells:=(G'++[valM x.P hall' Q[h]]).map (V.int .i64),sz:=1,ver:=(G'++[valM x.P hall' Q[h]]).length,nl:=if (G'++[valM x.P hall' Q[h]]).length = 0 then 1 else 0 }) P' oP' 200 q2) ?_ ⟨(h+1,G'++[valM x.P hall' Q[h]],_),⟨by dsimp only;omega,by dsimp only;rw [List.length_append,hG1];rfl,by dsimp only;omega⟩,St_fr (by dsimp only;rw [List.length_append];rfl),by dsimp only;omega⟩ Nat.zero_lt_one
        rw [List.map_append,List.length_append,List.length_singleton,if_neg (by omega)]
        exact HOp_HS (HS.skip (HS.refl _) (by simp only [Hp.put];repeat (rw [if_neg (by omega)])) _)
       ·clear hQh
        refine W.run ?_
        refine W.kl0 (HOp ((B6 x A0 A1 Y).put q2 { cells:=(G'++[Int.tmod A1[h] (x.P+2)]).map (V.int .i64),sz:=1,ver:=(G'++[Int.tmod A1[h] (x.P+2)]).length,nl:=if (G'++[Int.tmod A1[h] (x.P+2)]).length = 0 then 1 else 0 }) P' oP' 200 q2) ?_ ⟨(h+1,G'++[Int.tmod A1[h] (x.P+2)],_),⟨by dsimp only;omega,by dsimp only;rw [List.length_append,hG1];rfl,by dsimp only;omega⟩,St_fr (by dsimp only;rw [List.length_append];rfl),by dsimp only;omega⟩ Nat.zero_lt_one
        rw [List.map_append,List.length_append,List.length_singleton,if_neg (by omega)]
        exact HOp_HS (HS.skip (HS.refl _) (by simp only [Hp.put];repeat (rw [if_neg (by omega)])) _)
     ·have hA1l:=h1.1
      by_cases hz:Q[h].length = 0
      ·clear hQh
       refine W.run ?_
       refine W.kl0 (HOp ((B6 x A0 A1 Y).put q2 { cells:=(G'++[-1]).map (V.int .i64),sz:=1,ver:=(G'++[-1]).length,nl:=if (G'++[-1]).length = 0 then 1 else 0 }) P' oP' 200 q2) ?_ ⟨(h+1,G'++[-1],_),⟨by dsimp only;omega,by dsimp only;rw [List.length_append,hG1];rfl,by dsimp only;omega⟩,St_fr (by dsimp only;rw [List.length_append];rfl),by dsimp only;omega⟩ Nat.zero_lt_one
       rw [List.map_append,List.length_append,List.length_singleton,if_neg (by omega)]
       exact HOp_HS (HS.skip (HS.refl _) (by simp only [Hp.put];repeat (rw [if_neg (by omega)])) _)
      ·have hQ0:=hQh hz
       by_cases hpar:(h:Int) % 2 = (k:Int) % 2
       ·have c29 := k29 (R := x.R) (G := x.G) hX.1.hP Q[h] _ rfl (by omega) (polyE_rng hQ0.2) hall' (by omega)
        refine W.run ?_
        refine W.kl0 (HOp ((B6 x A0 A1 Y).put q2 { cells:=(G'++[valM x.P hall' Q[h]]).map (V.int .i64),sz:=1,ver:=(G'++[valM x.P hall' Q[h]]).length,nl:=if (G'++[valM x.P hall' Q[h]]).length = 0 then 1 else 0 }) P' oP' 200 q2) ?_ ⟨(h+1,G'++[valM x.P hall' Q[h]],_),⟨by dsimp only;omega,by dsimp only;rw [List.length_append,hG1];rfl,by dsimp only;omega⟩,St_fr (by dsimp only;rw [List.length_append];rfl),by dsimp only;omega⟩ Nat.zero_lt_one
        rw [List.map_append,List.length_append,List.length_singleton,if_neg (by omega)]
        exact HOp_HS (HS.skip (HS.refl _) (by simp only [Hp.put];repeat (rw [if_neg (by omega)])) _)
       ·clear hQh
        refine W.run ?_
        refine W.kl0 (HOp ((B6 x A0 A1 Y).put q2 { cells:=(G'++[-1]).map (V.int .i64),sz:=1,ver:=(G'++[-1]).length,nl:=if (G'++[-1]).length = 0 then 1 else 0 }) P' oP' 200 q2) ?_ ⟨(h+1,G'++[-1],_),⟨by dsimp only;omega,by dsimp only;rw [List.length_append,hG1];rfl,by dsimp only;omega⟩,St_fr (by dsimp only;rw [List.length_append];rfl),by dsimp only;omega⟩ Nat.zero_lt_one
        rw [List.map_append,List.length_append,List.length_singleton,if_neg (by omega)]
        exact HOp_HS (HS.skip (HS.refl _) (by simp only [Hp.put];repeat (rw [if_neg (by omega)])) _)
    ·have hhe : h = x.H.toNat := by omega
     subst hhe
     clear hQo
     refine W.run ?_
     refine W.kl0 (HO (HO (B6 x A0 A1 Z) P' oP') G' (some (q2,G'.length,0))) ?_ ⟨(k+1,(hall',(k:Int)+1),(P',oP'),(G',some (q2,G'.length,0)),Z,q3+176),⟨by first | omega | (dsimp only;omega),⟨by first | omega | (dsimp only;omega),by first | omega | (dsimp only;omega)⟩,⟨by first | omega | (dsimp only;omega),by first | omega | (dsimp only;omega)⟩,⟨hoP.mono (by first | omega | (dsimp only;omega)),⟨by first | omega | (dsimp only;omega),by first | omega | (dsimp only;omega)⟩,fun u v hu hv=>?_,fun h=>(by cases h)⟩,⟨hcZ.1,hfZ⟩,by first | omega | (dsimp only;omega)⟩,rfl,by first | omega | (dsimp only;omega)⟩ Nat.zero_lt_one
     ·show HS ((HOp (B6 x A0 A1 Z) P' oP' 200 q2).put q2 _) _
      rw [HOp_put hoP (.inr (Nat.le_refl _))]
      exact HOp_HS (HS.skip (HS.skip (HS.refl _) (by simp only [Hp.put];repeat (rw [if_neg (by omega)])) _) (by simp only [Hp.put];repeat (rw [if_neg (by omega)])) _)
     ·dsimp only at hu hv
      subst hu
      cases hv
      have:=hoP.2
      dsimp only at this ⊢
      omega
   ·intro Gk hG
    by_cases hz:(Q[0]'(by omega)).length = 0
    ·obtain ⟨Z0,hZ1,hZ2⟩:=zeros_ex (x.B+1).toNat
     rw [← hZ1] at hZ2
     refine W.run ?_
     rw [← hhall',← hZ1,← hZ2]
     refine W.kcN hG (Z0,some (q+240+24,0,0)) ⟨by first | omega | (dsimp only;omega),⟨by first | omega | (dsimp only;omega),by first | omega | (dsimp only;omega)⟩,by omega⟩ ?_ (ES.keep (ES.keep (ES.keep (ES.keep (ES.keep (ES.keep (ES.keep (ES.keep (ES.keep (ES.nil _))))))))))
     exact HS.p (HS.p (HS.p (HS.p (HS.p (HS.emp _)))))
    ·have hQ0 := hQo _ (List.getElem_mem (show 0 < Q.length by omega)) hz
     refine W.run ?_
     rw [← hhall']
     refine W.kcN hG (Q[0]'(by omega),none) ⟨by dsimp only;omega,trivial,by omega⟩ ?_ (ES.keep (ES.keep (ES.keep (ES.keep (ES.keep (ES.keep (ES.keep (ES.keep (ES.keep (ES.nil _))))))))))
     exact HS.p (HS.p (HS.p (HS.p (HS.emp _))))
  ·intro Gk hG
   have R:Rnd x Y k hall ph P G oP oG m:=⟨hX,hh,hph,hPl,ho1,ho2,ho3,ho4,hY,hYf,hm⟩
   by_cases hhd:(1≤hall∧hall≤x.H)∧0≤ph∧ph≤3
   ·cases hs:secsB x.P P
    ·exact k6_2 x A0 A1 Y k hall ph P G oP oG m _ R hhd hs Gk _ hG
    ·by_cases hlen:(P.length:Int) = x.B+1∧(G.length:Int) = x.H
     ·exact k6_4 x A0 A1 Y k hall ph P G oP oG m _ R hhd hs hlen Gk _ hG
     ·exact k6_3 x A0 A1 Y k hall ph P G oP oG m _ R hhd hs hlen Gk _ hG
   ·exact k6_1 x A0 A1 Y k hall ph P G oP oG m _ R hhd Gk _ hG
 ·have hke : k = 4 := by omega
  subst hke
  rcases oP with _ | ⟨id,ver,nq⟩
  all_goals
   rcases oG with _ | ⟨id2,ver2,nq2⟩
  all_goals
   dsimp only [vO,HO]
   clear ho3 ho4
   dsimp only [okOb] at ho1 ho2
   refine W.run ?_
   rfl
set_option maxRecDepth 10000 in
set_option maxHeartbeats 4000000 in
theorem k6 (c:Cf) (hw:B64 c.R∧B64 c.P∧B64 c.G∧B64 c.H∧B64 c.B∧B64 c.K) (A0 A1:List Int) (h0:A0.length < 2 ^ 63∧∀ n∈A0,B64 n) (h1:A1.length < 2 ^ 63∧∀ n∈A1,B64 n) (b:Brd) (hb:LnA b.d∧LnA b.c∧LnA b.a∧LnA b.r):PureC Tryz.prog 6 [c.v,.agg [slI A0,slI A1],bdV b] (fun r=>r = .bool true):=by
 have hk:=k12 c hw 5 (by omega)
 have c1:PureC Tryz.prog 13 [bdV b,.int .i64 10] (fun r=>r = .tup [bdV (cutB 10 b),bdV (cutB 10 b)]):=k13 b (LnA.at hb) 10 (by omega)
 have hcb:=cutB_ok hb (m:=10) (by omega)
 have hf:=fits_mono (cutB_fit hb (m:=10)) (show (10:Int)≤60 by omega)
 have c2:PureC Tryz.prog 14 [.agg [.int .i64 0,.int .i64 0,.int .i64 0,slI A0]] (fun r=>r = .agg [.int .i64 0,.int .i64 0,.int .i64 0,slI (A0.take 64)]):=k14 ⟨0,0,0,A0⟩ h0.1
 have c3:PureC Tryz.prog 14 [.agg [.int .i64 0,.int .i64 0,.int .i64 0,slI A1]] (fun r=>r = .agg [.int .i64 0,.int .i64 0,.int .i64 0,slI (A1.take 64)]):=k14 ⟨0,0,0,A1⟩ h1.1
 generalize cutB 10 b = Y at c1 hcb hf
 generalize hP:A0.take 64 = P at c2
 generalize hG:A1.take 64 = G at c3
 refine pureC_of_wp .x mixed ok6 rfl ?_
 unfold c6
 rw [rep6]
 dsimp only [argE,Cf.v,cfgV,bdV]
 refine W.assoc (W.assoc (W.assoc (W.assoc (W.assoc (W.assoc (W.cutN (fun y:Cf × Int × Int × List Int × List Int=>[(4,.ptr 8 0 0),(7,.ptr 48 0 0),(8,.ptr 104 0 0),(9,.ptr 112 0 0),(10,.int .i64 y.2.1),(11,.int .i64 y.2.2.1),(12,slI y.2.2.2.1),(13,slI y.2.2.2.2)]) (fun y=>B6 y.1 A0 A1 Y) (fun y n=>y.1.Ok∧(-20≤y.2.1∧y.2.1≤20)∧(-10≤y.2.2.1∧y.2.2.1≤10)∧(y.2.2.2.1.length≤64∧y.2.2.2.2.length≤64)∧256≤n) ?_ ?_))))))
 ·rintro ⟨x,hall,ph,P',G'⟩ n ⟨hX,hha,hpha,hPla,hna⟩
  exact k6_b x hX A0 A1 h0 h1 Y hcb.1 hf hall ph P' G' hha hpha hPla n hna
 intro Gk hGk
 refine W.run ?_
 refine W.pc0R hk rfl ⟨_,awC,aw_ok,by decide,by decide,rfl⟩ ?_
 rintro r ⟨x,hX,_,_,rfl⟩
 refine ⟨_,rfl,?_⟩
 clear hk
 have hPl:P.length≤64:=by rw [← hP,List.length_take];omega
 have hGl:G.length≤64:=by rw [← hG,List.length_take];omega
 clear hP hG h0 h1 hcb hf
 rcases P with _ | ⟨p,P⟩
 all_goals
  rcases G with _ | ⟨q,G⟩
 ·refine W.run ?_
  exact W.kcN hGk (x,1,0,[],[]) ⟨hX,by dsimp only;omega,by dsimp only;omega,⟨by simp,by simp⟩,by omega⟩ (HS.p (HS.p (HS.p (HS.p (HS.emp _)))))
 ·have hq := tmod_rng (a := q) (m := 6) (by omega)
  refine W.run ?_
  exact W.kcN hGk (x,1,q.tmod 6,[],G) ⟨hX,by dsimp only;omega,by dsimp only;omega,⟨by simp only [List.length_cons,List.length_nil] at hPl hGl ⊢;omega,by simp only [List.length_cons,List.length_nil] at hPl hGl ⊢;omega⟩,by omega⟩ (HS.p (HS.p (HS.p (HS.p (HS.emp _))))) (ES.keep (ES.keep (ES.keep (ES.keep (ES.keep (ES.keep (ES.keep (ES.keep (ES.nil _)))))))))
 ·have hp := tmod_rng (a := p) (m := 20) (by omega)
  refine W.run ?_
  exact W.kcN hGk (x,p.tmod 20,0,P,[]) ⟨hX,by dsimp only;omega,by dsimp only;omega,⟨by simp only [List.length_cons,List.length_nil] at hPl hGl ⊢;omega,by simp only [List.length_cons,List.length_nil] at hPl hGl ⊢;omega⟩,by omega⟩ (HS.p (HS.p (HS.p (HS.p (HS.emp _))))) (ES.keep (ES.keep (ES.keep (ES.keep (ES.keep (ES.keep (ES.keep (ES.keep (ES.nil _)))))))))
 ·have hp := tmod_rng (a := p) (m := 20) (by omega)
  have hq:=tmod_rng (a:=q) (m:=6) (by omega)
  refine W.run ?_
  exact W.kcN hGk (x,p.tmod 20,q.tmod 6,P,G) ⟨hX,by dsimp only;omega,by dsimp only;omega,⟨by simp only [List.length_cons,List.length_nil] at hPl hGl ⊢;omega,by simp only [List.length_cons,List.length_nil] at hPl hGl ⊢;omega⟩,by omega⟩ (HS.p (HS.p (HS.p (HS.p (HS.emp _))))) (ES.keep (ES.keep (ES.keep (ES.keep (ES.keep (ES.keep (ES.keep (ES.keep (ES.nil _)))))))))
def tys6:List Ty:=[.cons (.cons (.int .i64) (.cons (.int .i64) (.cons (.int .i64) (.nil)))) (.cons (.int .i64) (.cons (.int .i64) (.cons (.int .i64) (.nil)))),.arr 2 (.sl (.int .i64)),.cons (.sl (.cons (.int .i64) (.cons (.int .i64) (.cons (.int .i64) (.cons (.sl (.int .i64)) (.nil)))))) (.cons (.sl (.cons (.int .i64) (.cons (.int .i64) (.cons (.int .i64) (.cons (.sl (.int .i64)) (.nil)))))) (.cons (.sl (.cons (.int .i64) (.cons (.int .i64) (.cons (.int .i64) (.cons (.sl (.int .i64)) (.nil)))))) (.cons (.sl (.cons (.int .i64) (.cons (.int .i64) (.cons (.int .i64) (.cons (.sl (.int .i64)) (.nil)))))) (.nil))))]
theorem law6:∀ xs,Ty.okArgs tys6 xs→PureC Tryz.prog 6 xs (fun r=>r = .bool true):=by
 intro xs h
 obtain ⟨x,l,rfl,hx,h⟩:=okArgs_cons h
 obtain ⟨y,l,rfl,hy,h⟩:=okArgs_cons h
 obtain ⟨z,l,rfl,hz,h⟩:=okArgs_cons h
 obtain rfl:=okArgs_nil h
 obtain ⟨c,rfl,hc⟩:=okArg_cf hx
 obtain ⟨b,rfl,hb⟩:=okArg_brd hz
 obtain ⟨ls,rfl,hl,hw⟩:=okArg_arr hy
 obtain ⟨p,q,rfl⟩:=len2 hl
 obtain ⟨A0,rfl,hA0,hw0⟩:=ok_longs (hw p (by simp))
 obtain ⟨A1,rfl,hA1,hw1⟩:=ok_longs (hw q (by simp))
 exact k6 c hc A0 A1 ⟨by unfold maxLen at hA0;omega,fun n hn=>by have:=hw0 n hn;unfold B64;omega⟩ ⟨by unfold maxLen at hA1;omega,fun n hn=>by have:=hw1 n hn;unfold B64;omega⟩ b hb
end Go.Dp
