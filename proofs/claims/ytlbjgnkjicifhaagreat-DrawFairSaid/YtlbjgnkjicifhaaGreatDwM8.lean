import Derived.Test.YtlbjgnkjicifhaaGreatDwL13
import Derived.Test.YtlbjgnkjicifhaaGreatDwM7
namespace Go.Dp
open Go.RowKit Go.Proofs
attribute [local irreducible] wp wpOps wpOp1 CallW CallT kSeq kBlk kLoop kReg retP retR kAsg kRound kRf kCut kItr kItr2
set_option linter.unusedVariables false
set_option linter.unusedSimpArgs false
def kObj (l:List Ln):Ob:={ cells:=linC l,sz:=4,ver:=l.length,nl:=if l.length = 0 then 1 else 0 }
theorem guilt_len {c:Cf} (hc:c.Ok) (b:Brd) (hf:b.fits 400 = true):(guiltM c b).length < 2 ^ 40:=by
 have hr:=hc.rng
 have hal:(b.a.length:Int)≤400:=fits_len hf 2
 have hrl:(b.r.length:Int)≤400:=fits_len hf 3
 have l1:=upH_len (f:=g1 c b) (m:=1) (fun k=>by unfold g1;split <;> simp) c.H.toNat
 have l2:=upH_len (f:=g2 c b) (m:=1) (fun k=>by unfold g2;split <;> simp) c.H.toNat
 have l3:=upH_len (f:=fun h=>upH (g3k c b h) c.H.toNat) (m:=16) (fun h=>by have:=upH_len (f:=g3k c b h) (m:=1) (fun k=>by unfold g3k;split <;> simp) c.H.toNat;omega) c.H.toNat
 have l4:=upH_len (f:=fun h=>idxG (f4 c b h) 0 b.a) (m:=400) (fun h=>by have:=idxG_len (f:=f4 c b h) (fun i x=>by unfold f4;split <;> simp) 0 b.a;omega) c.H.toNat
 have l5:=upH_len (f:=fun h=>idxG (f5 c b h) 0 b.r) (m:=400) (fun h=>by have:=idxG_len (f:=f5 c b h) (fun i x=>by unfold f5;split <;> simp) 0 b.r;omega) c.H.toNat
 have e1:=upH_all c (g1 c b)
 have e2:=upH_all c (g2 c b)
 have e3:=up3 c b
 have e4:=up4 c b
 have e5:upH (fun h=>idxG (f5 c b h) 0 b.r) c.H.toNat = (allH c).flatMap (g5 c b):=upH_all c _
 have hE:guiltM c b = upH (g1 c b) c.H.toNat++upH (g2 c b) c.H.toNat++upH (fun h=>upH (g3k c b h) c.H.toNat) c.H.toNat++upH (fun h=>idxG (f4 c b h) 0 b.a) c.H.toNat++upH (fun h=>idxG (f5 c b h) 0 b.r) c.H.toNat:=by
  rw [e1,e2,e3,e4,e5];rfl
 rw [hE]
 simp only [List.length_append]
 omega
theorem gC_h:∀ {l:List G3} {i:Nat} (h:i < l.length),(gC l)[i * 3]? = some (.int .i64 l[i].1)
 | p::l,0,h=>by simp [gC]
 | p::l,i+1,h=>by
  have:=gC_h (l:=l) (i:=i) (by simpa using h)
  rw [show (i+1) * 3 = i * 3+3 by omega]
  simpa [gC] using this
set_option maxRecDepth 10000 in
set_option maxHeartbeats 8000000 in
theorem k7_c (x:Cf) (hX:x.Ok) (Q:List (List Int)) (hn:(Q.length:Int) = x.H) (hQ:RowOk x Q) (hm:x.B < neC Q) (Y:Brd) (hY:Y.Ok) (hf:Y.fits 100 = true) (cs:List V) (os:List (Nat × Ob)) (n1 nq:Nat) (h200:200 < n1) (hb:BV os 200 n1) (hc:RowsO os Q cs) (L:List (Int × Int)) (hL:L.length < 2 ^ 30) (ip i0 i1 i2 i3 il m:Nat) (hid:n1≤ip∧ip < i0∧i0 < i1∧i1 < i2∧i2 < i3∧i3 < il∧il < m) :
  wp Tryz.prog Ys.none (rtC (rtC (rtC (rtC (rtC (rtC (rtC (rtC (rtC (rtC (rtC (rtC (rtC (rtC (rtC (rtC c7)))))))))))))))) (retP [.tmp 6] .x (fun r=>r = .bool true)) ⟨[(7,.ptr 40 0 0),(8,.ptr 72 0 0),(11,.ptr 184 0 0),(15,.ptr ip 0 0),(17,.ref il L.length 0 L.length)],
   HpV (((((((((Hp.put (fun _=>none) 40 { cells:=[.int .i64 x.R,.int .i64 x.P,.int .i64 x.G,.int .i64 x.H,.int .i64 x.B,.int .i64 x.K],sz:=6 }).put 72 { cells:=[.int .i64 x.R,.int .i64 x.P,.int .i64 x.G,.int .i64 x.H,.int .i64 x.B,.int .i64 x.K],sz:=6 }).put 184 { cells:=[.ref 200 0 0 Q.length],sz:=1 }).put 200 { cells:=cs,sz:=1,nl:=nq }).put ip { cells:=[.ref i0 (keepL x Q Y.d).length 0 (keepL x Q Y.d).length,.ref i1 (keepL x Q Y.c).length 0 (keepL x Q Y.c).length,.ref i2 (keepL x Q Y.a).length 0 (keepL x Q Y.a).length,.ref i3 (keepL x Q Y.r).length 0 (keepL x Q Y.r).length],sz:=4 }).put i0 (kObj (keepL x Q Y.d))).put i1 (kObj (keepL x Q Y.c))).put i2 (kObj (keepL x Q Y.a))).put i3 (kObj (keepL x Q Y.r)) |>.put il { cells:=losC L,sz:=2,ver:=L.length,nl:=if L.length = 0 then 1 else 0 }) os 200 n1,m⟩:=by
 have hr:=hX.rng
 have H:=hon_of hX hn hQ L hY hf
 have hbal:ballR x (runB x Q L (keepB x Q Y)) = (1+(sumM x (runB x Q L (keepB x Q Y))).1 % x.K,0):=by
  unfold ballR;rw [if_pos (H.ball (by rw [honL_ne];exact hm))]
 have hK:=hX.2.2.2
 have hmod:=emod_rng (a:=(sumM x (runB x Q L (keepB x Q Y))).1) (P:=x.K) (by omega)
 have hkb:=keepB_ok (x:=x) (Q:=Q) hY
 have hkf:=keepB_fits (x:=x) (Q:=Q) hf
 have cA:=k22
 have c15:=k15x x hX (keepB x Q Y) hkb Q (hQ.lt hX) L (by omega) hkf hn (hQ.bad hX)
 change PureC Tryz.prog 15 [x.v,polV Q,.agg [linV (keepL x Q Y.d),linV (keepL x Q Y.c),linV (keepL x Q Y.a),linV (keepL x Q Y.r)],losV L] _ at c15
 have hRB:=H.bOk
 have hRf:=runB_fits hX H.pE H.n16 L hkf
 have c31:=k31 x hX _ hRB
 have c32:=k32 x hX _ hRB
 have c33:=k33s x hX _ hRB hRf
 rw [hRf,if_pos rfl] at c31 c32
 rw [hbal] at c31
 have hin:=fun i (hi:i < Q.length) (hz:(polyAt Q i).length≠0)=>H.inList hi hz
 have hgu:=fun i (hi:i < Q.length) (hz:(polyAt Q i).length≠0)=>H.noGuilt hi hz
 have hIl:=hallsL_len hX (isInM x (runB x Q L (keepB x Q Y)))
 generalize hallsL x (isInM x (runB x Q L (keepB x Q Y))) = IN at c32 hin hIl
 have hGl:(guiltM x (runB x Q L (keepB x Q Y))).length < 2 ^ 40:=guilt_len hX _ hRf
 generalize guiltM x (runB x Q L (keepB x Q Y)) = G at c33 hgu hGl
 generalize (sumM x (runB x Q L (keepB x Q Y))).1 % x.K = s at c31 hmod
 generalize runB x Q L (keepB x Q Y) = RB at c15 c31 c32 c33
 clear hbal hRB hRf H hkb hkf hf hY
 obtain ⟨os',hfz0,hb',hc'⟩:=frz_rowsO hc hb
 have hfz:FzR os cs (Q.map slI) os' 200 n1:=⟨hfz0⟩
 clear hfz0
 have hRC:=hc'.c
 have hcl:=hc.len
 have hLc:=losC_len L
 have hl0:=linC_len (keepL x Q Y.d)
 have hl1:=linC_len (keepL x Q Y.c)
 have hl2:=linC_len (keepL x Q Y.a)
 have hl3:=linC_len (keepL x Q Y.r)
 have ha0:=linC_atoms (keepL x Q Y.d)
 have ha1:=linC_atoms (keepL x Q Y.c)
 have ha2:=linC_atoms (keepL x Q Y.a)
 have ha3:=linC_atoms (keepL x Q Y.r)
 have ha4:=losC_atoms L
 unfold c7
 dsimp only [rtC,kObj]
 refine W.run ?_
 refine W.run ?_
 clear c15 c31 c32 c33 ha0 ha1 ha2 ha3 ha4 hl0 hl1 hl2 hl3 hLc
 refine W.lp (fun i:Nat=>[(11,.ptr 184 0 0),(23,slI IN),(25,.sl (gC G) G.length),(27,.int .i64 (i:Int))]) (fun _=>(Hp.put (fun _=>none) 184 { cells:=[.ref 200 0 0 Q.length],sz:=1 }).put 200 { cells:=cs,sz:=1,fz:=max 0 Q.length,nl:=nq }) (fun i=>i≤Q.length) (fun i=>Q.length - i) 0 rfl ?_ (by omega) ?_
 ·refine HS.p (HS.p (HS.emp _) ?_) ?_
  all_goals
   rw [HpV_at hb' (by omega)]
   simp (disch:=omega) only [put_same,put_ne,ne_eq]
 clear hfz hb hb' hc hc' hid
 rintro i nx hi hnx
 by_cases hil:i < Q.length
 ·have hcell := hRC.2 i (by omega) hil
  have hp:=polyAt_get hil
  by_cases h0:Q[i].length = 0
  ·clear hin hgu cA
   rcases hcell with hcell | ⟨id,hcell⟩
   all_goals
    refine W.run ?_
    rw [hcell]
    refine W.run ?_
    exact W.kl (i+1) rfl (HS.refl _) (by omega) (by omega) (by omega)
  ·have hin' := hin i hil (by rw [hp]; exact h0)
   have hgu':=hgu i hil (by rw [hp];exact h0)
   clear hin hgu cA hp
   have hgl:=gC_len G
   rcases hcell with hcell | ⟨id,hcell⟩
   all_goals
    refine W.run ?_
    rw [hcell]
    refine W.run ?_
    refine W.lp (fun k:Nat=>[(11,.ptr 184 0 0),(23,slI IN),(25,.sl (gC G) G.length),(27,.int .i64 (i:Int)),(28,.bool ((IN.take k).any fun z=>decide (z = (i:Int)+1))),(29,.int .i64 (k:Int))]) (fun _=>(Hp.put (fun _=>none) 184 { cells:=[.ref 200 0 0 Q.length],sz:=1 }).put 200 { cells:=cs,sz:=1,fz:=max 0 Q.length,nl:=nq }) (fun k=>k≤IN.length) (fun k=>IN.length - k) 0 rfl (HS.refl _) (by omega) ?_
    rintro k nx2 hk hnx2
    by_cases hkl:k < IN.length
    ·have hs:=anyI_succ (n:=(i:Int)+1) hkl
     cases hb:(IN.take k).any fun z=>decide (z = (i:Int)+1)
     all_goals
      rw [hb] at hs
      refine W.run ?_
      exact W.kl (k+1) (by rw [hs];rfl) (HS.refl _) (by omega) (by omega) (by omega)
    ·have hke : k = IN.length := by omega
     rw [hke,List.take_length,hin']
     clear hin'
     refine W.run ?_
     refine W.lp (fun k:Nat=>[(11,.ptr 184 0 0),(23,slI IN),(25,.sl (gC G) G.length),(27,.int .i64 (i:Int)),(30,.int .i64 (k:Int))]) (fun _=>(Hp.put (fun _=>none) 184 { cells:=[.ref 200 0 0 Q.length],sz:=1 }).put 200 { cells:=cs,sz:=1,fz:=max 0 Q.length,nl:=nq }) (fun k=>k≤G.length) (fun k=>G.length - k) 0 rfl (HS.refl _) (by omega) ?_
     rintro k nx3 hk hnx3
     by_cases hkl:k < G.length
     ·have hne:=hgu' _ (List.getElem_mem hkl)
      have hgh:=gC_h hkl
      have hgh':(gC G)[k * 3]'(by omega) = .int .i64 G[k].1:=by rw [List.getElem?_eq_getElem (by omega)] at hgh;exact Option.some.inj hgh
      clear hgu' hgh
      refine W.run ?_
      rw [hgh']
      refine W.run ?_
      exact W.kl (k+1) rfl (HS.refl _) (by omega) (by omega) (by omega)
     ·clear hgu'
      refine W.run ?_
      exact W.kl (i+1) rfl (HS.refl _) (by omega) (by omega) (by omega)
 ·clear hin hgu
  refine W.run ?_
  rfl
def B7 (x:Cf) (Y:Brd) (n:Nat) (cs:List V) (nq:Nat):Hp:=((((Hp.put (fun _=>none) 40 { cells:=[.int .i64 x.R,.int .i64 x.P,.int .i64 x.G,.int .i64 x.H,.int .i64 x.B,.int .i64 x.K],sz:=6 }).put 72 { cells:=[.int .i64 x.R,.int .i64 x.P,.int .i64 x.G,.int .i64 x.H,.int .i64 x.B,.int .i64 x.K],sz:=6 }).put 136 { cells:=[linV Y.d,linV Y.c,linV Y.a,linV Y.r],sz:=4 }).put 184 { cells:=[.ref 200 0 0 n],sz:=1 }).put 200 { cells:=cs,sz:=1,nl:=nq }
theorem keep7 {B:Hp} {os:List (Nat × Ob)} {n1 nq top:Nat} {x:Cf} (hX:x.Ok) {cs:List V} {Q:List (List Int)} (L:List Ln) (hb:BV os 200 n1) (h200:200 < n1) (hcs:RowsC Q cs) (hn:(Q.length:Int) = x.H) (hL:LnsB L) (ht:n1≤top)
  (h1:B 40 = some { cells:=[.int .i64 x.R,.int .i64 x.P,.int .i64 x.G,.int .i64 x.H,.int .i64 x.B,.int .i64 x.K],sz:=6 }) (h2:B 184 = some { cells:=[.ref 200 0 0 Q.length],sz:=1 }) (h3:B 200 = some { cells:=cs,sz:=1,nl:=nq }) (hfr:∀ j,top≤j→B j = none) :
  RefC Tryz.prog Ys.none 30 [linV L,.ptr 40 0 0,.ptr 184 0 0] (HpV B os 200 n1) top (fun r H' t=>r = .ref (top+8) (keepL x Q L).length 0 (keepL x Q L).length∧H' = HpV (B.put (top+8) (kObj (keepL x Q L))) os 200 n1∧top+24≤t):=by
 refine (k30 Ys.none (HpV B os 200 n1) 40 184 200 top 0 nq x hX cs L Q (by rw [HpV_at hb (by omega)];exact h1) (by rw [HpV_at hb (by omega)];exact h2) (by rw [HpV_at hb (by omega)];exact h3) hcs hn hL (by omega) fun j hj=>by rw [HpV_at hb (by omega)];exact hfr j hj).mono ?_
 rintro r H' t ⟨rfl,rfl,h⟩
 exact ⟨rfl,HpV_put hb (by omega),h⟩
theorem keep7e {B:Hp} {os:List (Nat × Ob)} {n1 top:Nat} {x:Cf} {Q:List (List Int)} {L:List Ln} (hb:BV os 200 n1) (ht:n1≤top) :
  ∃ r H' t,(fun r H' t=>r = V.ref (top+8) (keepL x Q L).length 0 (keepL x Q L).length∧H' = HpV (B.put (top+8) (kObj (keepL x Q L))) os 200 n1∧top+24≤t) r H' t∧top≤t∧∀ j,j < top→HpV B os 200 n1 j = none→H' j = none :=
 ⟨_,_,top+24,⟨rfl,rfl,Nat.le_refl _⟩,by omega,fun j hj h=>by rw [← HpV_put hb (by omega),put_ne (by omega)];exact h⟩
set_option maxRecDepth 10000 in
set_option maxHeartbeats 8000000 in
theorem k7_b (x:Cf) (hX:x.Ok) (Q:List (List Int)) (hn:(Q.length:Int) = x.H) (hQ:RowOk x Q) (hm:x.B < neC Q) (Y:Brd) (hY:Y.Ok) (hf:Y.fits 100 = true) (cs:List V) (os:List (Nat × Ob)) (n1 nq:Nat) (h200:200 < n1) (hb:BV os 200 n1) (hc:RowsO os Q cs) :
  wp Tryz.prog Ys.none (rtC (rtC (rtC (rtC (rtC (rtC (rtC (rtC c7)))))))) (retP [.tmp 6] .x (fun r=>r = .bool true)) ⟨[(7,.ptr 40 0 0),(8,.ptr 72 0 0),(10,.ptr 136 0 0),(11,.ptr 184 0 0)],HpV (B7 x Y Q.length cs nq) os 200 n1,n1⟩:=by
 have hRC:=hc.c
 have hYo:=hY
 obtain ⟨hY0,hY1,hY2,hY3⟩:=hY
 have hcl:Y.c.length < 2 ^ 20:=hY1.1
 have hLl:(lostC Y.c).length = Y.c.length:=by simp [lostC]
 have hB:∀ (z:Nat × Nat × Nat × Nat × Nat) n,(n1 < z.1∧z.1 < z.2.1∧z.2.1 < z.2.2.1∧z.2.2.1 < z.2.2.2.1∧z.2.2.2.1 < z.2.2.2.2∧z.2.2.2.2 < n)→wp Tryz.prog Ys.none (rtC (rtC (rtC (rtC (rtC (rtC (rtC (rtC (rtC (rtC (rtC (rtC (rtC (rtC (rtC (rtC c7)))))))))))))))) (retP [.tmp 6] .x (fun r=>r = .bool true)) ⟨[(7,.ptr 40 0 0),(8,.ptr 72 0 0),(11,.ptr 184 0 0),(15,.ptr n1 0 0),(17,.ref z.2.2.2.2 (lostC Y.c).length 0 (lostC Y.c).length)],HpV ((((((((((Hp.put (fun _=>none) 40 { cells:=[.int .i64 x.R,.int .i64 x.P,.int .i64 x.G,.int .i64 x.H,.int .i64 x.B,.int .i64 x.K],sz:=6 }).put 72 { cells:=[.int .i64 x.R,.int .i64 x.P,.int .i64 x.G,.int .i64 x.H,.int .i64 x.B,.int .i64 x.K],sz:=6 }).put 184 { cells:=[.ref 200 0 0 Q.length],sz:=1 }).put 200 { cells:=cs,sz:=1,nl:=nq }).put n1 { cells:=[.ref z.1 (keepL x Q Y.d).length 0 (keepL x Q Y.d).length,.ref z.2.1 (keepL x Q Y.c).length 0 (keepL x Q Y.c).length,.ref z.2.2.1 (keepL x Q Y.a).length 0 (keepL x Q Y.a).length,.ref z.2.2.2.1 (keepL x Q Y.r).length 0 (keepL x Q Y.r).length],sz:=4 }).put z.1 (kObj (keepL x Q Y.d))).put z.2.1 (kObj (keepL x Q Y.c))).put z.2.2.1 (kObj (keepL x Q Y.a))).put z.2.2.2.1 (kObj (keepL x Q Y.r))).put z.2.2.2.2 { cells:=losC (lostC Y.c),sz:=2,ver:=(lostC Y.c).length,nl:=if (lostC Y.c).length = 0 then 1 else 0 }) os 200 n1,n⟩:=fun z n hz=>k7_c x hX Q hn hQ hm Y hYo hf cs os n1 nq h200 hb hc (lostC Y.c) (by omega) n1 z.1 z.2.1 z.2.2.1 z.2.2.2.1 z.2.2.2.2 n (by omega)
 unfold c7 at hB ⊢
 dsimp only [rtC] at hB
 dsimp only [rtC,B7]
 refine W.assoc (W.assoc (W.assoc (W.assoc (W.assoc (W.assoc (W.assoc (W.cutN (fun z:Nat × Nat × Nat × Nat × Nat=>[(7,.ptr 40 0 0),(8,.ptr 72 0 0),(11,.ptr 184 0 0),(15,.ptr n1 0 0),(17,.ref z.2.2.2.2 (lostC Y.c).length 0 (lostC Y.c).length)]) (fun z=>HpV ((((((((((Hp.put (fun _=>none) 40 { cells:=[.int .i64 x.R,.int .i64 x.P,.int .i64 x.G,.int .i64 x.H,.int .i64 x.B,.int .i64 x.K],sz:=6 }).put 72 { cells:=[.int .i64 x.R,.int .i64 x.P,.int .i64 x.G,.int .i64 x.H,.int .i64 x.B,.int .i64 x.K],sz:=6 }).put 184 { cells:=[.ref 200 0 0 Q.length],sz:=1 }).put 200 { cells:=cs,sz:=1,nl:=nq }).put n1 { cells:=[.ref z.1 (keepL x Q Y.d).length 0 (keepL x Q Y.d).length,.ref z.2.1 (keepL x Q Y.c).length 0 (keepL x Q Y.c).length,.ref z.2.2.1 (keepL x Q Y.a).length 0 (keepL x Q Y.a).length,.ref z.2.2.2.1 (keepL x Q Y.r).length 0 (keepL x Q Y.r).length],sz:=4 }).put z.1 (kObj (keepL x Q Y.d))).put z.2.1 (kObj (keepL x Q Y.c))).put z.2.2.1 (kObj (keepL x Q Y.a))).put z.2.2.2.1 (kObj (keepL x Q Y.r))).put z.2.2.2.2 { cells:=losC (lostC Y.c),sz:=2,ver:=(lostC Y.c).length,nl:=if (lostC Y.c).length = 0 then 1 else 0 }) os 200 n1) (fun z n=>n1 < z.1∧z.1 < z.2.1∧z.2.1 < z.2.2.1∧z.2.2.1 < z.2.2.2.1∧z.2.2.2.1 < z.2.2.2.2∧z.2.2.2.2 < n) hB ?_)))))))
 clear hB hm hf hQ
 intro Gk hG
 refine W.run ?_
 refine W.refR (keep7 (nq:=nq) hX Y.d hb h200 hRC hn hY0 (by omega) (by simp (disch:=omega) only [put_same,put_ne,ne_eq]) (by simp (disch:=omega) only [put_same,put_ne,ne_eq]) (by simp (disch:=omega) only [put_same,put_ne,ne_eq]) (fun j hj=>by repeat rw [put_ne (by omega)])) (keep7e hb (by omega)) ?_
 rintro r H1 t1 ⟨rfl,rfl,ht1⟩ - -
 refine W.run ?_
 refine W.refR (keep7 (nq:=nq) hX Y.c hb h200 hRC hn hY1 (by omega) (by simp (disch:=omega) only [put_same,put_ne,ne_eq]) (by simp (disch:=omega) only [put_same,put_ne,ne_eq]) (by simp (disch:=omega) only [put_same,put_ne,ne_eq]) (fun j hj=>by repeat rw [put_ne (by omega)])) (keep7e hb (by omega)) ?_
 rintro r H1 t2 ⟨rfl,rfl,ht2⟩ - -
 refine W.run ?_
 refine W.refR (keep7 (nq:=nq) hX Y.a hb h200 hRC hn hY2 (by omega) (by simp (disch:=omega) only [put_same,put_ne,ne_eq]) (by simp (disch:=omega) only [put_same,put_ne,ne_eq]) (by simp (disch:=omega) only [put_same,put_ne,ne_eq]) (fun j hj=>by repeat rw [put_ne (by omega)])) (keep7e hb (by omega)) ?_
 rintro r H1 t3 ⟨rfl,rfl,ht3⟩ - -
 refine W.run ?_
 refine W.refR (keep7 (nq:=nq) hX Y.r hb h200 hRC hn hY3 (by omega) (by simp (disch:=omega) only [put_same,put_ne,ne_eq]) (by simp (disch:=omega) only [put_same,put_ne,ne_eq]) (by simp (disch:=omega) only [put_same,put_ne,ne_eq]) (fun j hj=>by repeat rw [put_ne (by omega)])) (keep7e hb (by omega)) ?_
 rintro r H1 t4 ⟨rfl,rfl,ht4⟩ - -
 refine W.run ?_
 refine W.lp (fun i:Nat=>[(7,.ptr 40 0 0),(8,.ptr 72 0 0),(10,.ptr 136 0 0),(11,.ptr 184 0 0),(15,.ptr n1 0 0),(17,.ref t4 (lostC (Y.c.take i)).length 0 (lostC (Y.c.take i)).length),(18,.int .i64 (i:Int))]) (fun i=>HpV (((((((((((Hp.put (fun _=>none) 40 { cells:=[.int .i64 x.R,.int .i64 x.P,.int .i64 x.G,.int .i64 x.H,.int .i64 x.B,.int .i64 x.K],sz:=6 }).put 72 { cells:=[.int .i64 x.R,.int .i64 x.P,.int .i64 x.G,.int .i64 x.H,.int .i64 x.B,.int .i64 x.K],sz:=6 }).put 136 { cells:=[linV Y.d,linV Y.c,linV Y.a,linV Y.r],sz:=4 }).put 184 { cells:=[.ref 200 0 0 Q.length],sz:=1 }).put 200 { cells:=cs,sz:=1,nl:=nq }).put n1 { cells:=[.ref (n1+72+8) (keepL x Q Y.d).length 0 (keepL x Q Y.d).length,.ref (t1+48+8) (keepL x Q Y.c).length 0 (keepL x Q Y.c).length,.ref (t2+48+8) (keepL x Q Y.a).length 0 (keepL x Q Y.a).length,.ref (t3+48+8) (keepL x Q Y.r).length 0 (keepL x Q Y.r).length],sz:=4 }).put (n1+72+8) (kObj (keepL x Q Y.d))).put (t1+48+8) (kObj (keepL x Q Y.c))).put (t2+48+8) (kObj (keepL x Q Y.a))).put (t3+48+8) (kObj (keepL x Q Y.r))).put t4 { cells:=losC (lostC (Y.c.take i)),sz:=2,ver:=(lostC (Y.c.take i)).length,nl:=if (lostC (Y.c.take i)).length = 0 then 1 else 0 }) os 200 n1) (fun i=>i≤Y.c.length) (fun i=>Y.c.length - i) 0 rfl (HS.refl _) (by omega) ?_
 rintro i nx hi hnx
 have hll:(lostC (Y.c.take i)).length = i:=by unfold lostC;rw [List.length_map,List.length_take];omega
 have hlc:=losC_len (lostC (Y.c.take i))
 by_cases hil:i < Y.c.length
 ·have hs:=lostC_succ hil
  clear hG
  generalize lostC (Y.c.take i) = L at hs hll hlc ⊢
  refine W.run ?_
  refine W.kl (i+1) (by rw [hs,List.length_append];rfl) ?_ (by omega) (by omega) (by omega)
  rw [hs,losC_snoc,List.length_append,List.length_singleton,if_neg (by omega)]
  refine HpV_HS ?_
  exact HS.skip (HS.refl _) (by simp only [Hp.put];repeat (rw [if_neg (by omega)])) _
 ·have hie : i = Y.c.length := by omega
  rw [hie,List.take_length] at hll hlc ⊢
  clear hil hi hie
  generalize lostC Y.c = L at hll hlc hLl hG ⊢
  refine W.run ?_
  refine W.kcN hG (n1+72+8,t1+48+8,t2+48+8,t3+48+8,t4) (by dsimp only;omega) ?_
  refine HpV_HS ?_
  exact HS.p (HS.p (HS.p (HS.p (HS.p (HS.p (HS.p (HS.p (HS.p (HS.p (HS.emp _))))))))))
theorem set_td {cs:List V} {i:Nat} {v:V} (h:i < cs.length):List.take i cs++[v]++List.drop (i+1) cs = cs.set i v:=by
 rw [List.set_eq_take_append_cons_drop,if_pos h,List.append_assoc];rfl
theorem zeros_new {n:Nat} {x:Cf} (h:x.B = n):zerosV [V.int .i64 0] (x.B+1).toNat = (0::List.replicate n (0:Int)).map (V.int .i64):=by
 rw [show (x.B+1).toNat = n+1 by omega,← List.replicate_succ]
 have:∀ k:Nat,zerosV [V.int .i64 0] k = (List.replicate k (0:Int)).map (V.int .i64):=by
  intro k
  induction k with
  | zero=>rfl
  | succ k ih=>rw [zerosV,ih,List.replicate_succ];rfl
 exact this _
attribute [local go_sem] List.getElem_set_self
set_option maxRecDepth 10000 in
set_option maxHeartbeats 8000000 in
theorem k7 (c:Cf) (hw:B64 c.R∧B64 c.P∧B64 c.G∧B64 c.H∧B64 c.B∧B64 c.K) (l:List (List Int)) (hl:l.length < 2 ^ 63) (hx:∀ p∈l,p.length < 2 ^ 63∧∀ n∈p,B64 n) (b:Brd) (hb:LnA b.d∧LnA b.c∧LnA b.a∧LnA b.r):PureC Tryz.prog 7 [c.v,.sl (l.map slI) l.length,bdV b] (fun r=>r = .bool true):=by
 have hk:=k12 c hw 6 (by omega)
 have c1:PureC Tryz.prog 13 [bdV b,.int .i64 10] (fun r=>r = .tup [bdV (cutB 10 b),bdV (cutB 10 b)]):=k13 b (LnA.at hb) 10 (by omega)
 have hcb:=cutB_ok hb (m:=10) (by omega)
 have hf:=fits_mono (cutB_fit hb (m:=10)) (show (10:Int)≤100 by omega)
 generalize cutB 10 b = Y at c1 hcb hf
 refine pureC_of_wp .x mixed ok7 rfl ?_
 unfold c7
 rw [rep6]
 dsimp only [argE,Cf.v,cfgV,bdV]
 refine W.assoc (W.assoc (W.assoc (W.assoc (W.assoc (W.assoc (W.assoc (W.cutN (fun z:Cf × List (List Int) × List V × List (Nat × Ob) × Nat × Nat=>[(7,.ptr 40 0 0),(8,.ptr 72 0 0),(10,.ptr 136 0 0),(11,.ptr 184 0 0)]) (fun z=>HpV (B7 z.1 Y z.2.1.length z.2.2.1 z.2.2.2.2.2) z.2.2.2.1 200 z.2.2.2.2.1) (fun z n=>z.1.Ok∧((z.2.1.length:Int) = z.1.H∧RowOk z.1 z.2.1∧z.1.B < neC z.2.1)∧(200 < n∧z.2.2.2.2.1 = n)∧BV z.2.2.2.1 200 n∧RowsO z.2.2.2.1 z.2.1 z.2.2.1) ?_ ?_)))))))
 ·rintro ⟨x,Q,cs,os,n1,nq⟩ n ⟨hX,⟨hn,hQ,hm⟩,⟨h200,hn1⟩,hbv,hc⟩
  dsimp only at hX hn hQ hm h200 hn1 hbv hc ⊢
  subst hn1
  exact k7_b x hX Q hn hQ hm Y hcb.1 hf cs os n1 nq h200 hbv hc
 intro Gk hG
 refine W.run ?_
 refine W.pc0R hk rfl ⟨_,awC,aw_ok,by decide,by decide,rfl⟩ ?_
 rintro r ⟨x,hX,hH6,hP11,rfl⟩
 refine ⟨_,rfl,?_⟩
 clear hk
 have hr:=hX.rng
 have c16:=k16 x.R x.P x.G x.H x.B x.K
 have c21:=k21 x hX l hl hx
 have hQl:=polysM_len x l
 have hQo:=polysM_ok hX hx
 generalize polysM x l = Q at c21 hQl hQo
 rw [← hQl] at c21
 have c22:Opn (PureC Tryz.prog 21 [x.v,.sl (l.map slI) l.length] (fun r=>r = .own (Q.map slI) Q.length 1)):=c21
 clear c21
 refine W.run ?_
 clear c1 c16 c22 hcb hf hb
 generalize (if (List.map slI Q).isEmpty = true then 2 else 0) = nq
 refine W.lp (fun i:Nat=>[(7,.ptr 40 0 0),(8,.ptr 72 0 0),(10,.ptr 136 0 0),(11,.ptr 184 0 0),(12,.int .i64 (neC (Q.take i):Int)),(13,.int .i64 (i:Int))]) (fun _=>((((Hp.put (fun _=>none) 40 { cells:=[.int .i64 x.R,.int .i64 x.P,.int .i64 x.G,.int .i64 x.H,.int .i64 x.B,.int .i64 x.K],sz:=6 }).put 72 { cells:=[.int .i64 x.R,.int .i64 x.P,.int .i64 x.G,.int .i64 x.H,.int .i64 x.B,.int .i64 x.K],sz:=6 }).put 136 { cells:=[linV Y.d,linV Y.c,linV Y.a,linV Y.r],sz:=4 }).put 184 { cells:=[.ref 200 0 0 Q.length],sz:=1 }).put 200 { cells:=Q.map slI,sz:=1,nl:=nq }) (fun i=>i≤Q.length) (fun i=>Q.length - i) 0 rfl (HS.p (HS.p (HS.p (HS.p (HS.p (HS.emp _)))))) (by omega) ?_
 rintro i nx hi hnx
 have hne:=neC_le (Q.take i)
 rw [List.length_take] at hne
 by_cases hil:i < Q.length
 ·have hs:=neC_succ hil
  clear hG
  by_cases h0:Q[i].length = 0
  ·rw [if_pos h0] at hs
   generalize neC (Q.take i) = m at hs hne ⊢
   refine W.run ?_
   exact W.kl (i+1) (by rw [hs];rfl) (HS.refl _) (by omega) (by omega) (by omega)
  ·rw [if_neg h0] at hs
   generalize neC (Q.take i) = m at hs hne ⊢
   refine W.run ?_
   exact W.kl (i+1) (by rw [hs];rfl) (HS.refl _) (by omega) (by omega) (by omega)
 ·have hie : i = Q.length := by omega
  rw [hie,List.take_length] at hne ⊢
  clear hil hie hi
  have hno:=hG
  clear hG
  generalize hneq:neC Q = m0 at hne ⊢
  refine W.run ?_
  rw [← hneq]
  refine W.loop (fun z:Nat × List (List Int) × List V × List (Nat × Ob) × Nat=>⟨[(7,.ptr 40 0 0),(8,.ptr 72 0 0),(10,.ptr 136 0 0),(11,.ptr 184 0 0),(12,.int .i64 (neC z.2.1:Int)),(14,.int .i64 (z.1:Int))],HpV (B7 x Y z.2.1.length z.2.2.1 nq) z.2.2.2.1 200 z.2.2.2.2,z.2.2.2.2⟩)
   (fun z=>z.1≤z.2.1.length∧((z.2.1.length:Int) = x.H∧RowOk x z.2.1)∧(200 < z.2.2.2.2∧BV z.2.2.2.1 200 z.2.2.2.2)∧RowsO z.2.2.2.1 z.2.1 z.2.2.1∧∀ j (hj:j < z.2.1.length),j < z.1→z.2.1[j].length≠0) (fun z=>z.2.1.length - z.1) (0,Q,Q.map slI,[],_) ⟨by dsimp only;omega,⟨by dsimp only;omega,hQo⟩,⟨by dsimp only;omega,BV.nil⟩,RowsO.slices Q,fun j _ h=>absurd h (Nat.not_lt_zero _)⟩ ?_ rfl (HS.refl _) rfl
  clear hQo hQl hneq hne
  rintro ⟨i,Q',cs,os,n1⟩ ⟨hi,⟨hn,hQ⟩,⟨h200,hbv⟩,hc,hdone⟩
  dsimp only at hi hn hQ h200 hbv hc hdone ⊢
  dsimp only [B7]
  have hcl:=hc.len
  have hne:=neC_le Q'
  by_cases hil:i < Q'.length
  ·by_cases hmB:(neC Q':Int)≤x.B
   ·clear hno
    have hcell:=hc.c.2 i (by omega) hil
    by_cases h0:Q'[i].length = 0
    ·obtain ⟨B, hB⟩ : ∃ B : Nat, x.B = B := ⟨x.B.toNat, by omega⟩
     have hnr:=newR_ok hX hP11 (h:=i) (n:=B) (by omega) hB
     have hs:=neC_set (p:=newR (i:Int) B) hil h0 (by rw [newR_len];omega)
     have hset:=hc.set i (n1+128+40) (newR (i:Int) B)
     rcases hcell with hcell | ⟨id,hcell⟩
     all_goals
      refine W.run ?_
      rw [hcell]
      refine W.run ?_
      simp only [set_td (show i < cs.length by omega),zeros_new hB,List.map_cons]
      refine W.run ?_
      refine W.kl0 (HpV (B7 x Y (Q'.set i (newR (i:Int) B)).length (cs.set i (.ref (n1+128+40) 0 0 (newR (i:Int) B).length)) nq) (os++[(n1+128+40,{ cells:=(newR (i:Int) B).map (V.int .i64),sz:=1 })]) 200 (n1+296)) ?_ ⟨(i+1,Q'.set i (newR (i:Int) B),cs.set i (.ref (n1+128+40) 0 0 (newR (i:Int) B).length),os++[(n1+128+40,{ cells:=(newR (i:Int) B).map (V.int .i64),sz:=1 })],n1+296),⟨by rw [List.length_set];exact hil,⟨by rw [List.length_set];exact hn,hQ.set hnr⟩,⟨by dsimp only;omega,hbv.snoc (by dsimp only;omega) h200⟩,hset,fun j hj hji=>?_⟩,?_,?_⟩ Nat.zero_lt_one
      ·rw [HpV_snoc (n := n1), HpV_put hbv (by dsimp only; omega)]
       dsimp only [B7]
       rw [List.length_set,newR_len,show B+1 = (x.B+1).toNat by omega]
       exact HS.refl _
      ·dsimp only at hji hj ⊢
       rw [List.getElem_set]
       split
       ·rw [newR_len];omega
       ·rw [List.length_set] at hj
        exact hdone j hj (by omega)
      ·dsimp only
       rw [hs];rfl
      ·dsimp only
       rw [List.length_set];omega
    ·rcases hcell with hcell | ⟨id,hcell⟩
     all_goals
      refine W.run ?_
      rw [hcell]
      refine W.run ?_
      refine W.kl0 _ ?_ ⟨(i+1,Q',cs,os,_),⟨by dsimp only;omega,⟨hn,hQ⟩,⟨by dsimp only;omega,hbv.mono (by dsimp only;omega)⟩,hc,fun j hj hji=>?_⟩,rfl,by dsimp only;omega⟩ Nat.zero_lt_one
      ·exact HS.refl _
      ·dsimp only at hji
       by_cases e:j < i
       ·exact hdone j hj e
       ·have e2 : j = i := by omega
        subst e2;exact h0
   ·refine W.run ?_
    exact W.kcN hno (x,Q',cs,os,_,nq) ⟨hX,⟨hn,hQ,by dsimp only;omega⟩,⟨by omega,rfl⟩,hbv.mono (by omega),hc⟩ (HS.refl _)
  ·have hall:neC Q' = Q'.length:=neC_all fun p hp=>by
    obtain ⟨j,hj,rfl⟩:=List.getElem_of_mem hp
    exact hdone j hj (by omega)
   by_cases hmB:(neC Q':Int)≤x.B
   ·omega
   ·refine W.run ?_
    exact W.kcN hno (x,Q',cs,os,_,nq) ⟨hX,⟨hn,hQ,by dsimp only;omega⟩,⟨by omega,rfl⟩,hbv.mono (by omega),hc⟩ (HS.refl _)
def tys7:List Ty:=tysD
theorem law7:∀ xs,Ty.okArgs tys7 xs→PureC Tryz.prog 7 xs (fun r=>r = .bool true):=by
 intro xs h
 obtain ⟨c,l,b,rfl,hc,hl,hx,hb⟩:=okArgs_D h
 exact k7 c hc l hl hx b hb
end Go.Dp
namespace Go.Dp
open Go.RowKit Go.Proofs
set_option linter.unusedVariables false
set_option linter.unusedSimpArgs false
def sumZ (g:Nat→Int):Nat→Int
 | 0=>0
 | n+1=>sumZ g n+g n
theorem sumZ_head (g:Nat→Int):∀ n,sumZ g (n+1) = g 0+sumZ (fun i=>g (i+1)) n
 | 0=>by simp [sumZ]
 | n+1=>by rw [sumZ,sumZ_head g n,sumZ];omega
theorem sumS_map {c:Cf} {b:Brd} {f:Int→Int}:∀ (l:List Int) (a:Int × Bool),(∀ h∈l,secM c b h = some (f h))→sumS c b l a = some (l.foldl (fun s h=>(s+f h) % c.P) a.1,a.2 || decide (0 < l.length))
 | [],a,_=>by simp [sumS]
 | x::l,a,h=>by
  rw [sumS,h x (by simp)]
  simp only
  rw [sumS_map l _ fun y hy=>h y (by simp [hy])]
  simp
theorem fold_sumZ {P:Int} (g:Nat→Int):∀ n,(List.range n).foldl (fun s i=>(s+g i) % P) 0 = sumZ g n % P
 | 0=>by simp [sumZ]
 | n+1=>by
  rw [List.range_succ,List.foldl_append,fold_sumZ g n]
  simp [sumZ,Int.add_emod]
theorem Hon.sumAll {c:Cf} {polys:List (List Int)} {lost:List (Int × Int)} {b:Brd} (H:Hon c polys lost b) (hall:∀ i,i < polys.length→(polyAt polys i).length≠0):sumM c (runB c polys lost b) = (sumZ (fun i=>(polyAt polys i).headD 0) polys.length % c.P,true):=by
 have hr:=H.hc.rng
 have hln:=H.len
 have hn:c.H.toNat = polys.length:=by omega
 have e:hallsL c (isInM c (runB c polys lost b)) = (List.range polys.length).map fun i:Nat=>(i:Int)+1:=by
  unfold hallsL rngH
  rw [hn,List.filter_eq_self]
  intro x hx
  obtain ⟨i,hi,rfl⟩:=List.mem_map.1 hx
  rw [List.mem_range] at hi
  exact H.isIn hi (hall i hi)
 unfold sumM
 rw [e,sumS_map (f:=fun k=>(polyAt polys (k - 1).toNat).headD 0) _ _ fun k hk=>by
  obtain ⟨i,hi,rfl⟩:=List.mem_map.1 hk
  rw [List.mem_range] at hi
  rw [H.sec hi (hall i hi),show ((i:Int)+1 - 1).toNat = i by omega]]
 rw [Option.getD_some,List.foldl_map]
 have e2:(fun (s:Int) (i:Nat)=>(s+(polyAt polys ((i:Int)+1 - 1).toNat).headD 0) % c.P) = fun s i=>(s+(polyAt polys i).headD 0) % c.P:=by
  funext s i;rw [show ((i:Int)+1 - 1).toNat = i by omega]
 simp only [Bool.false_or,List.length_map,List.length_range]
 rw [e2,fold_sumZ (fun i=>(polyAt polys i).headD 0),decide_eq_true (by omega)]
section
variable {c:Cf} (hc:c.Ok) {D C A R R':List Ln}
include hc
end
end Go.Dp
namespace Go.Dp
open Go.RowKit Go.Proofs
set_option linter.unusedVariables false
set_option linter.unusedSimpArgs false
def zR (n:Nat):List Int:=List.replicate (n+1) 0
theorem zR_new (n:Nat):zR n = newR ((0:Nat):Int) n:=by unfold zR newR;rw [List.replicate_succ];rfl
theorem zR_len {n:Nat}:(zR n).length = n+1:=by simp [zR]
def turnQ (Q:List (List Int)) (k:Int):List (List Int):=(k::(Q.headD []).tail)::Q.tail
theorem turnQ_len {Q:List (List Int)} {k:Int} (h:0 < Q.length):(turnQ Q k).length = Q.length:=by
 unfold turnQ;rw [List.length_cons,List.length_tail];omega
theorem turnQ_ok {x:Cf} {Q:List (List Int)} (hQ:RowOk x Q) (hne:∀ p∈Q,p.length≠0) (h:0 < Q.length) {k:Int} (hk:0≤k∧k < x.P):RowOk x (turnQ Q k):=by
 obtain ⟨p,Q',rfl⟩:∃ p Q',Q = p::Q':=by
  cases Q with
  | nil=>cases h
  | cons p Q'=>exact ⟨p,Q',rfl⟩
 intro q hq hz
 rcases List.mem_cons.1 hq with rfl | hq
 ·have hp := hQ p (by simp) (hne p (by simp))
  have hr:=polyE_rng hp.2
  have hl:=polyE_len hp.2
  have hne':=hne p (by simp)
  have e:(k::(List.headD (p::Q') []).tail).length = p.length:=by simp;omega
  refine ⟨by rw [e];exact hp.1,secs_poly ?_ (by rw [e];omega)⟩
  unfold secsB
  rw [Bool.not_eq_true',List.any_eq_false]
  intro a ha
  rw [decide_eq_true_eq]
  rcases List.mem_cons.1 ha with rfl | ha
  ·omega
  ·have:=hr a (List.mem_of_mem_tail ha);omega
 ·exact hQ q (List.mem_cons_of_mem _ hq) hz
theorem turnQ_ne {Q:List (List Int)} {k:Int} (hne:∀ p∈Q,p.length≠0):∀ p∈turnQ Q k,p.length≠0:=fun p hp=>by
 rcases List.mem_cons.1 hp with rfl | hp
 ·simp
 ·exact hne p (List.mem_of_mem_tail hp)
def restS (Q:List (List Int)):Int:=sumZ (fun i=>(polyAt Q (i+1)).headD 0) (Q.length - 1)
theorem polyAt_turn {Q:List (List Int)} {k:Int} (i:Nat):polyAt (turnQ Q k) (i+1) = polyAt Q (i+1):=by
 unfold polyAt turnQ
 cases Q with
 | nil=>simp
 | cons p Q'=>simp
theorem turnQ_sum {Q:List (List Int)} (k:Int) (h:0 < Q.length):sumZ (fun i=>(polyAt (turnQ Q k) i).headD 0) Q.length = k+restS Q:=by
 obtain ⟨n,hn⟩:∃ n,Q.length = n+1:=⟨Q.length - 1,by omega⟩
 unfold restS
 rw [hn,sumZ_head]
 simp only [polyAt_turn]
 rfl
def brdE:Brd:=⟨[],[],[],[]⟩
theorem brdE_ok:brdE.Ok:=⟨nil_ok,nil_ok,nil_ok,nil_ok⟩
theorem brdE_fits {m:Int} (h:0≤m):brdE.fits m = true:=by simp [brdE,Brd.fits,okL,h]
theorem fair_sum {x:Cf} (hX:x.Ok) (hP:x.P = 11) {Q:List (List Int)} (hn:(Q.length:Int) = x.H) (h0:0 < Q.length) (hQ:RowOk x Q) (hne:∀ p∈Q,p.length≠0) {k:Int} (hk:0≤k∧k < 11) (L:List (Int × Int)):sumM x (runB x (turnQ Q k) L brdE) = ((k+restS Q) % 11,true):=by
 have hl:=turnQ_len (k:=k) h0
 have H:=hon_of hX (by rw [hl];exact hn) (turnQ_ok hQ hne h0 (by omega)) L brdE_ok (brdE_fits (by omega))
 have:=H.sumAll fun i hi=>by rw [polyAt_get hi];exact turnQ_ne hne _ (List.getElem_mem hi)
 rw [hl,turnQ_sum k h0,hP] at this
 exact this
def seenB (S:Int) (k j:Nat):Bool:=(List.range k).any fun i=>decide (((i:Int)+S) % 11 = j)
theorem seenB_succ {S:Int} {k j:Nat}:seenB S (k+1) j = (seenB S k j || decide (((k:Int)+S) % 11 = j)):=by
 unfold seenB;rw [List.range_succ,List.any_append];simp
theorem seenB_no {S:Int} {k:Nat} (hk:k < 11) {j:Nat} (hj:(j:Int) = ((k:Int)+S) % 11):seenB S k j = false:=by
 unfold seenB
 rw [List.any_eq_false]
 intro i hi
 rw [List.mem_range] at hi
 rw [decide_eq_true_eq]
 omega
def seenC (S:Int) (k:Nat):List V:=(List.range 11).map fun j=>.bool (seenB S k j)
theorem seenC_len {S:Int} {k:Nat}:(seenC S k).length = 11:=by simp [seenC]
theorem seenC_at {S:Int} {k j:Nat} (hj:j < (seenC S k).length):(seenC S k)[j] = .bool (seenB S k j):=by simp [seenC]
theorem seenC_set {S:Int} {k j:Nat} (hj:(j:Int) = ((k:Int)+S) % 11):(seenC S k).set j (.bool true) = seenC S (k+1):=by
 refine List.ext_getElem (by simp [seenC]) fun i h1 h2=>?_
 rw [List.getElem_set,seenC_at h2,seenB_succ]
 split
 ·rename_i e
  rw [e] at hj
  rw [decide_eq_true (by omega),Bool.or_true]
 ·rename_i e
  rw [seenC_at,decide_eq_false (by omega),Bool.or_false]
theorem sum_step {f:Nat→Int} {i:Nat}:(sumZ f i % 11+f i) % 11 = sumZ f (i+1) % 11:=by rw [sumZ];omega
end Go.Dp
