import Derived.Test.YtlbjgnkjicifhaaGreatDwC1
namespace Go.Dp
open Go.RowKit Go.Proofs
--
attribute [local irreducible] wp wpOps wpOp1 CallW CallT kSeq kBlk kLoop kReg retP retR kAsg kRound kRf kCut kItr
set_option linter.unusedVariables false
set_option linter.unusedSimpArgs false
theorem st0:(List.replicate 6 (V.int .i64 0)++[.nils,.nils,.nils,.nils]++List.replicate 17 (V.int .i64 0)++List.replicate 17 V.nils++List.replicate 289 (V.bool false)++List.replicate 289 (V.int .i64 0)) =
  stC [.int .i64 0,.int .i64 0,.int .i64 0,.int .i64 0,.int .i64 0,.int .i64 0,.nils,.nils,.nils,.nils] (fun _=>.int .i64 0) (fun _=>.nils) (fun _=>.bool false) (fun _=>.int .i64 0):=by
 simp only [stC,← tabN_replicate]
 simp only [List.append_assoc];rfl
theorem fill_st {cs vc:List V} {F D C A:Nat→V} {off size:Nat} (h:off+size≤cs.length):(stC cs F D C A).take off++vc++(stC cs F D C A).drop (off+size) = stC (cs.take off++vc++cs.drop (off+size)) F D C A:=by
 unfold stC
 rw [List.take_append_of_le_length (by omega),List.drop_append_of_le_length (by omega)];simp
@[go_sem high] theorem fillO_st {cs vc:List V} {F D C A:Nat→V} {off size:Nat} {rest:List (Nat × Nat × V)} (h:vc.length = size∧off+size≤cs.length):fillO (stC cs F D C A) off size rest (some vc) = fillV (stC (cs.take off++vc++cs.drop (off+size)) F D C A) rest:=by
 have:vc.length = size∧off+size≤(stC cs F D C A).length:=⟨h.1,by have:=h.2;simp [stC];omega⟩
 rw [fillO,if_pos this,fill_st h.2]
def hp58 (c:Cf) (b:Brd) (F D C A:Nat→V):Hp:=((Hp.put (fun _=>none) 0 { cells:=[.int .i64 c.R,.int .i64 c.P,.int .i64 c.G,.int .i64 c.H,.int .i64 c.B,.int .i64 c.K],sz:=6 }).put 8 { cells:=[linV b.d,linV b.c,linV b.a,linV b.r],sz:=4 }).put 48 { cells:=stC (hdC c b) F D C A,sz:=622 }
theorem k115 {R P G H B K:Int} (hg:GroupI R P G) (n:Int):PureC Tryz.prog 115 [.int .i64 n,.fp [.int .i64 R,.int .i64 P,.int .i64 G,.int .i64 H,.int .i64 B,.int .i64 K] 0] (fun r=>r = .bool (!hasB R P n)):=by
 have c1:=k116 hg n
 clear hg
 refine pureC_of_wp .x mixed ok115 rfl ?_
 unfold c115
 dsimp only [argE]
 refine W.run ?_
 rfl
theorem any_not_all {α:Type} (q:α→Bool) (l:List α):(l.any fun a=>!q a) = !l.all q:=by
 induction l with
 | nil=>rfl
 | cons a l ih=>simp [ih]
theorem has110 {R P G H B K:Int} (hg:GroupI R P G) (A:List Int) (hA:A.length < 2 ^ 40):PureC Tryz.prog 110 [slI A,.clo (.func 115) [] [.fp [.int .i64 R,.int .i64 P,.int .i64 G,.int .i64 H,.int .i64 B,.int .i64 K] 0]] (fun r=>r = .bool (!A.all (hasB R P))):=by
 rw [← any_not_all]
 exact k110 (V.int .i64) A _ rfl hA 115 [.fp [.int .i64 R,.int .i64 P,.int .i64 G,.int .i64 H,.int .i64 B,.int .i64 K] 0] (fun n=>!hasB R P n) (fun _=>rfl) (by simp [V.atom]) (fun a _=>k115 hg a)
theorem optV_atom:∀ o:Option (List Int),(optV o).atom = true
 | some _=>rfl
 | none=>rfl
theorem stB_atoms (c:Cf) (b:Brd):∀ v∈stB c b,v.atom = true:=by
 intro v hv
 simp only [stB,stC,hdC,tabN,List.mem_append,List.mem_map,List.mem_cons,List.not_mem_nil,or_false] at hv
 rcases hv with (rfl | rfl | rfl | rfl | rfl | rfl | rfl | rfl | rfl | rfl) | ⟨_,_,rfl⟩ | ⟨_,_,rfl⟩ | ⟨_,_,rfl⟩ | ⟨_,_,rfl⟩
 all_goals first | rfl | exact optV_atom _
theorem hp58_free {c:Cf} {b:Brd} {F D C A:Nat→V} {n:Nat} (h:56≤n):hp58 c b F D C A n = none:=by
 simp only [hp58,Hp.put];repeat (rw [if_neg (by omega)])
set_option maxRecDepth 10000 in
set_option maxHeartbeats 2000000 in
theorem k58 (c:Cf) (hc:c.Ok) (b:Brd) (hb:b.Ok):PureC Tryz.prog 58 [c.v,bdV b] (fun r=>r = stV c b):=by
 have hh:(hdC c b).length = 10:=rfl
 refine pureC_of_wp .x mixed ok58 rfl ?_
 unfold c58
 rw [st0]
 dsimp only [argE,Cf.v,cfgV]
 refine W.run ?_
 refine W.lp (fun y:Nat × (Nat→Int) × (Nat→Int)=>[(2,.ptr 0 0 0),(3,.ptr 8 0 0),(5,.ptr 48 0 0),(18,.int .i64 (y.1:Int))]) (fun y=>hp58 c b (fun j=>.int .i64 (y.2.1 j)) (fun _=>.nils) (fun _=>.bool false) (fun j=>.int .i64 (y.2.2 j)))
  (fun y=>y.1≤17∧(∀ j,y.2.1 j = if j < y.1 then -1 else 0)∧∀ q,y.2.2 q = if q < y.1 * 17 then -1 else 0) (fun y=>17 - y.1) (0,(fun _=>0),fun _=>0) rfl (HS.refl _) ⟨by dsimp only;omega,fun j=>by simp,fun q=>by simp⟩ ?_
 rintro ⟨i,F,A⟩ nx ⟨hi,hF,hA⟩ hnx
 dsimp only at hi hF hA ⊢
 by_cases hlt:i < 17
 ·unfold hp58
  refine W.run ?_
  refine W.lp (fun y:Nat × (Nat→Int)=>[(2,.ptr 0 0 0),(3,.ptr 8 0 0),(5,.ptr 48 0 0),(6,.int .i64 (i:Int)),(18,.int .i64 (i:Int)),(26,.int .i64 (y.1:Int))]) (fun y=>hp58 c b (fun j=>.int .i64 (upd F i (-1) j)) (fun _=>.nils) (fun _=>.bool false) (fun j=>.int .i64 (y.2 j)))
   (fun y=>y.1≤17∧∀ q,y.2 q = if q < i * 17+y.1 then -1 else 0) (fun y=>17 - y.1) (0,A) rfl (HS.refl _) ⟨by dsimp only;omega,hA⟩ ?_
  rintro ⟨k,A'⟩ nx' ⟨hk,hA'⟩ hnx'
  dsimp only at hk hA' ⊢
  by_cases hlk:k < 17
  ·unfold hp58
   refine W.run ?_
   refine W.kl (k+1,upd A' (i * 17+k) (-1)) rfl (HS.refl _) (by omega) ⟨by dsimp only;omega,fun q=>?_⟩ (by dsimp only;omega)
   dsimp only [upd]
   rw [hA' q]
   split <;> split <;> (try split) <;> omega
  ·unfold hp58
   refine W.run ?_
   refine W.kl (i+1,upd F i (-1),A') rfl (HS.refl _) (by omega) ⟨by dsimp only;omega,fun q=>?_,fun q=>?_⟩ (by dsimp only;omega)
   ·dsimp only [upd]
    rw [hF q]
    split <;> split <;> (try split) <;> omega
   ·dsimp only
    rw [hA' q,show i * 17+k = (i+1) * 17 by omega]
 ·have hi17 : i = 17 := by omega
  subst hi17
  unfold hp58
  refine W.run ?_
  obtain ⟨hg,hcf⟩:=hc
  have hH:c.H≤16:=hcf.1.2.1
  have hB:0≤c.B∧c.B < 16:=by have:=hcf.2.1;omega
  obtain ⟨hd,hco,han,hre⟩:=hb
  have chas:∀ i (hi:i < b.d.length),PureC Tryz.prog 110 [slI b.d[i].nums,.clo (.func 115) [] [.fp [.int .i64 c.R,.int .i64 c.P,.int .i64 c.G,.int .i64 c.H,.int .i64 c.B,.int .i64 c.K] 0]] (fun r=>r = .bool (!b.d[i].nums.all (hasB c.R c.P))):=fun i hi=>has110 hg _ (by have:=(hd.2 b.d[i] (List.getElem_mem hi)).1;omega)
  refine W.lp (fun y:Nat × (Nat→Int) × (Nat→Option (List Int))=>[(2,.ptr 0 0 0),(3,.ptr 8 0 0),(5,.ptr 48 0 0),(39,linV b.d),(40,.int .i64 (b.d.length:Int)),(41,.int .i64 (y.1:Int))]) (fun y=>hp58 c b (fun j=>.int .i64 (y.2.1 j)) (fun j=>optV (y.2.2 j)) (fun _=>.bool false) (fun j=>.int .i64 (A j)))
   (fun y=>y.1≤b.d.length∧∀ h,h < 17→y.2.1 h = fstI (qDeal c h) (b.d.take y.1)∧y.2.2 h = dealL c (b.d.take y.1) h) (fun y=>b.d.length - y.1) (0,F,fun _=>none) rfl (HS.refl _) ⟨by dsimp only;omega,fun h hh'=>⟨by dsimp only;rw [hF h,if_pos hh'];rfl,rfl⟩⟩ ?_
  rintro ⟨i,F1,D⟩ nx1 ⟨hi,hFD⟩ hnx1
  dsimp only at hi hFD ⊢
  by_cases hlt:i < b.d.length
  ·have c1 := k114 c.R c.P c.G c.H c.B c.K 1 (c.B + 1) b.d[i] (by have := (hd.2 b.d[i] (List.getElem_mem hlt)).1; omega) false (slI b.d[i].nums) (Or.inl rfl)
   have htk:=List.take_append_getElem hlt
   have hlen:=hd.1
   have htl:(b.d.take i).length = i:=by rw [List.length_take];omega
   clear hg hcf
   cases hcnt:cntB c.H b.d[i] 1 (c.B+1) false
   ·rw [hcnt] at c1
    unfold hp58
    refine W.run ?_
    refine W.kl (i+1,F1,D) rfl (HS.skip (HS.refl _) (hp58_free (by omega)) _) (by omega) ⟨by dsimp only;omega,fun h hh'=>?_⟩ (by dsimp only;omega)
    have hq:qDeal c h b.d[i] = false:=by rw [qDeal,hcnt];rfl
    dsimp only
    rw [← htk,fstI_skip hq,dealL_skip hq]
    exact hFD h hh'
   ·rw [hcnt] at c1
    have hx:=cntB_hall hcnt
    have hhl:b.d[i].hall.toNat < 17:=by omega
    have hFx:=hFD _ hhl
    unfold hp58
    by_cases hneg:F1 b.d[i].hall.toNat < 0
    ·rw [hFx.1] at hneg
     have hkey:∀ h:Nat,h < 17→upd F1 b.d[i].hall.toNat (i:Int) h = fstI (qDeal c h) (b.d.take (i+1))∧upd D b.d[i].hall.toNat (if b.d[i].nums.all (hasB c.R c.P) then some b.d[i].nums else none) h = dealL c (b.d.take (i+1)) h:=fun h hh'=>by
      rw [← htk,fstI_snoc,dealL_snoc,htl]
      simp only [upd]
      by_cases he:h = b.d[i].hall.toNat
      ·subst he
       have hq:qDeal c (b.d[i].hall.toNat:Int) b.d[i] = true:=by rw [qDeal,hcnt,Bool.true_and];exact decide_eq_true (by omega)
       rw [if_pos rfl,if_pos rfl,if_pos hneg,if_pos hneg,if_pos hq,if_pos hq];exact ⟨rfl,rfl⟩
      ·have hq : qDeal c (h : Int) b.d[i] = false := by rw [qDeal, hcnt, Bool.true_and]; exact decide_eq_false (by omega)
       rw [if_neg he,if_neg he,hq]
       have:=hFD h hh'
       rw [this.1,this.2]
       constructor
       ·split
        ·rename_i h1;rw [fstI_neg h1];rfl
        ·rfl
       ·split
        ·rename_i h1;rw [dealL_neg h1];rfl
        ·rfl
     rw [← hFx.1] at hneg
     have c2:=chas i hlt
     clear chas
     cases hall:b.d[i].nums.all (hasB c.R c.P)
     ·rw [hall] at c2 hkey
      refine W.run ?_
      refine W.kl (i+1,upd F1 b.d[i].hall.toNat i,D) rfl (HS.skip (HS.refl _) (hp58_free (by omega)) _) (by omega) ⟨by dsimp only;omega,fun h hh'=>?_⟩ (by dsimp only;omega)
      have:=hkey h hh'
      refine ⟨this.1,?_⟩
      rw [← this.2]
      simp only [upd]
      split
      ·rename_i e;rw [e,hFx.2,dealL_neg (hFx.1 ▸ hneg)];rfl
      ·rfl
     ·rw [hall] at c2 hkey
      refine W.run ?_
      exact W.kl (i+1,upd F1 b.d[i].hall.toNat i,upd D b.d[i].hall.toNat (some b.d[i].nums)) rfl (HS.skip (HS.refl _) (hp58_free (by omega)) _) (by omega) ⟨by dsimp only;omega,fun h hh'=>hkey h hh'⟩ (by dsimp only;omega)
    ·refine W.run ?_
     refine W.kl (i+1,F1,D) rfl (HS.skip (HS.refl _) (hp58_free (by omega)) _) (by omega) ⟨by dsimp only;omega,fun h hh'=>?_⟩ (by dsimp only;omega)
     dsimp only
     rw [← htk]
     by_cases he:h = b.d[i].hall.toNat
     ·subst he
      rw [hFx.1] at hneg
      rw [fstI_snoc,dealL_snoc,if_neg hneg,if_neg hneg];exact hFx
     ·have hq : qDeal c (h : Int) b.d[i] = false := by rw [qDeal, hcnt, Bool.true_and]; exact decide_eq_false (by omega)
      rw [fstI_skip hq,dealL_skip hq];exact hFD h hh'
  ·have hid : i = b.d.length := by omega
   subst hid
   rw [List.take_length] at hFD
   have hlen:=hd.1
   clear chas hg hcf hF
   unfold hp58
   refine W.run ?_
   refine W.lp (fun y:Nat × (Nat→Bool)=>[(2,.ptr 0 0 0),(3,.ptr 8 0 0),(5,.ptr 48 0 0),(84,linV b.c),(85,.int .i64 (b.c.length:Int)),(86,.int .i64 (y.1:Int))]) (fun y=>hp58 c b (fun j=>.int .i64 (F1 j)) (fun j=>optV (D j)) (fun j=>.bool (y.2 j)) (fun j=>.int .i64 (A j)))
    (fun y=>y.1≤b.c.length∧∀ h,h < 289→y.2 h = ((b.deal c ((h % 17:Nat):Int)).isSome && (b.c.take y.1).any (qCompl c ((h / 17:Nat):Int) ((h % 17:Nat):Int)))) (fun y=>b.c.length - y.1) (0,fun _=>false) rfl (HS.refl _) ⟨by dsimp only;omega,fun h hh'=>by simp⟩ ?_
   rintro ⟨i,C⟩ nx2 ⟨hi2,hC⟩ hnx2
   dsimp only at hi2 hC ⊢
   by_cases hlt2:i < b.c.length
   ·have c1 := k114 c.R c.P c.G c.H c.B c.K 2 0 b.c[i] (by have := (hco.2 b.c[i] (List.getElem_mem hlt2)).1; omega) true (slI b.c[i].nums) (Or.inl rfl)
    have htk:=List.take_append_getElem hlt2
    have hlenc:=hco.1
    cases hcnt:cntB c.H b.c[i] 2 0 true
    ·rw [hcnt] at c1
     unfold hp58
     refine W.run ?_
     refine W.kl (i+1,C) rfl (HS.skip (HS.refl _) (hp58_free (by omega)) _) (by omega) ⟨by dsimp only;omega,fun h hh'=>?_⟩ (by dsimp only;omega)
     have hq:qCompl c ((h / 17:Nat):Int) ((h % 17:Nat):Int) b.c[i] = false:=by rw [qCompl,hcnt];rfl
     dsimp only
     rw [← htk,List.any_append,hC h hh',List.any_cons,hq,List.any_nil,Bool.or_self,Bool.or_false]
    ·rw [hcnt] at c1
     have hx:=cntB_hall hcnt
     have hy:=cntB_other hcnt
     have hhl:b.c[i].hall.toNat < 17:=by omega
     have hol:b.c[i].other.toNat < 17:=by omega
     have hDo:=(hFD _ hol).2
     have hdo:b.deal c (b.c[i].other.toNat:Int) = D b.c[i].other.toNat:=hDo.symm
     cases hdl:D b.c[i].other.toNat with
     | none =>
      unfold hp58
      refine W.run ?_
      rw [hdl]
      refine W.run ?_
      refine W.kl (i+1,C) rfl (HS.skip (HS.refl _) (hp58_free (by omega)) _) (by omega) ⟨by dsimp only;omega,fun h hh'=>?_⟩ (by dsimp only;omega)
      dsimp only
      rw [← htk,List.any_append,hC h hh']
      by_cases he:h % 17 = b.c[i].other.toNat
      ·rw [he,hdo,hdl];rfl
      ·have hq:qCompl c ((h / 17:Nat):Int) ((h % 17:Nat):Int) b.c[i] = false:=by
        rw [qCompl,hcnt,Bool.true_and,decide_eq_false (p:=b.c[i].other = ((h % 17:Nat):Int)) (by omega),Bool.and_false]
       rw [List.any_cons,hq,List.any_nil,Bool.or_self,Bool.or_false]
     | some A0 =>
      have hA0:0 < A0.length:=by have:=dealL_len (hDo.symm.trans hdl);omega
      unfold hp58
      refine W.run ?_
      rw [hdl]
      refine W.run ?_
      refine W.kl (i+1,upd C (b.c[i].hall.toNat * 17+b.c[i].other.toNat) true) rfl (HS.skip (HS.refl _) (hp58_free (by omega)) _) (by omega) ⟨by dsimp only;omega,fun h hh'=>?_⟩ (by dsimp only;omega)
      dsimp only [upd]
      rw [← htk,List.any_append,hC h hh',List.any_cons,List.any_nil,Bool.or_false]
      by_cases he:h = b.c[i].hall.toNat * 17+b.c[i].other.toNat
      ·have hq:qCompl c ((h / 17:Nat):Int) ((h % 17:Nat):Int) b.c[i] = true:=by
        rw [qCompl,hcnt,Bool.true_and,decide_eq_true (p:=b.c[i].other = ((h % 17:Nat):Int)) (by omega),Bool.and_true]
        exact decide_eq_true (by omega)
       have h17:h % 17 = b.c[i].other.toNat:=by omega
       rw [if_pos he,hq,h17,hdo,hdl,Bool.or_true];rfl
      ·have hq:qCompl c ((h / 17:Nat):Int) ((h % 17:Nat):Int) b.c[i] = false:=by
        rw [qCompl,hcnt,Bool.true_and,← Bool.decide_and]
        exact decide_eq_false (by omega)
       rw [if_neg he,hq,Bool.or_false]
   ·have hid : i = b.c.length := by omega
    subst hid
    rw [List.take_length] at hC
    have hlen:=hco.1
    unfold hp58
    refine W.run ?_
    refine W.lp (fun y:Nat × (Nat→Int)=>[(2,.ptr 0 0 0),(5,.ptr 48 0 0),(114,linV b.a),(115,.int .i64 (b.a.length:Int)),(116,.int .i64 (y.1:Int))]) (fun y=>hp58 c b (fun j=>.int .i64 (F1 j)) (fun j=>optV (D j)) (fun j=>.bool (C j)) (fun j=>.int .i64 (y.2 j)))
     (fun y=>y.1≤b.a.length∧∀ h,h < 289→y.2 h = fstI (qAns c ((h / 17:Nat):Int) ((h % 17:Nat):Int)) (b.a.take y.1)) (fun y=>b.a.length - y.1) (0,A) rfl (HS.refl _) ⟨by dsimp only;omega,fun h hh'=>by dsimp only;rw [hA h,if_pos (by omega)];rfl⟩ ?_
    rintro ⟨i,A1⟩ nx3 ⟨hi3,hA1⟩ hnx3
    dsimp only at hi3 hA1 ⊢
    by_cases hlt3:i < b.a.length
    ·have c1 := k114 c.R c.P c.G c.H c.B c.K 3 1 b.a[i] (by have := (han.2 b.a[i] (List.getElem_mem hlt3)).1; omega) true (slI b.a[i].nums) (Or.inl rfl)
     have htk:=List.take_append_getElem hlt3
     have hlena:=han.1
     have htl:(b.a.take i).length = i:=by rw [List.length_take];omega
     cases hcnt:cntB c.H b.a[i] 3 1 true
     ·rw [hcnt] at c1
      unfold hp58
      refine W.run ?_
      refine W.kl (i+1,A1) rfl (HS.skip (HS.refl _) (hp58_free (by omega)) _) (by omega) ⟨by dsimp only;omega,fun h hh'=>?_⟩ (by dsimp only;omega)
      have hq:qAns c ((h / 17:Nat):Int) ((h % 17:Nat):Int) b.a[i] = false:=by rw [qAns,hcnt];rfl
      dsimp only
      rw [← htk,fstI_skip hq];exact hA1 h hh'
     ·rw [hcnt] at c1
      have hx:=cntB_hall hcnt
      have hy:=cntB_other hcnt
      have hhl:b.a[i].hall.toNat < 17:=by omega
      have hol:b.a[i].other.toNat < 17:=by omega
      have hqi:∀ h:Nat,h < 289→qAns c ((h / 17:Nat):Int) ((h % 17:Nat):Int) b.a[i] = decide (h = b.a[i].hall.toNat * 17+b.a[i].other.toNat):=fun h hh'=>by
       rw [qAns,hcnt,Bool.true_and,← Bool.decide_and]
       exact decide_eq_decide.2 (by omega)
      by_cases hneg:A1 (b.a[i].hall.toNat * 17+b.a[i].other.toNat) < 0
      ·unfold hp58
       refine W.run ?_
       refine W.kl (i+1,upd A1 (b.a[i].hall.toNat * 17+b.a[i].other.toNat) i) rfl (HS.skip (HS.refl _) (hp58_free (by omega)) _) (by omega) ⟨by dsimp only;omega,fun h hh'=>?_⟩ (by dsimp only;omega)
       dsimp only [upd]
       rw [← htk,fstI_snoc,hqi h hh',htl]
       by_cases he:h = b.a[i].hall.toNat * 17+b.a[i].other.toNat
       ·rw [if_pos he,← hA1 h hh',he,if_pos hneg,decide_eq_true rfl];rfl
       ·rw [if_neg he,decide_eq_false he,hA1 h hh']
        split
        ·rename_i h1;rw [fstI_neg h1];rfl
        ·rfl
      ·unfold hp58
       refine W.run ?_
       refine W.kl (i+1,A1) rfl (HS.skip (HS.refl _) (hp58_free (by omega)) _) (by omega) ⟨by dsimp only;omega,fun h hh'=>?_⟩ (by dsimp only;omega)
       dsimp only
       rw [← htk,fstI_snoc,hqi h hh',htl]
       by_cases he:h = b.a[i].hall.toNat * 17+b.a[i].other.toNat
       ·rw [← hA1 h hh',he,if_neg hneg]
       ·rw [decide_eq_false he,hA1 h hh']
        split
        ·rename_i h1;rw [fstI_neg h1];rfl
        ·rfl
    ·have hid : i = b.a.length := by omega
     subst hid
     rw [List.take_length] at hA1
     have hlen:=han.1
     unfold hp58
     have hst:stC (hdC c b) (fun j=>.int .i64 (F1 j)) (fun j=>optV (D j)) (fun j=>.bool (C j)) (fun j=>.int .i64 (A1 j)) = stB c b:=by
      unfold stB
      refine stC_congr (fun h hh'=>?_) (fun h hh'=>?_) (fun h hh'=>?_) (fun h hh'=>?_)
      ·rw [(hFD h hh').1];rfl
      ·rw [(hFD h hh').2];rfl
      ·rw [hC h hh'];rfl
      ·rw [hA1 h hh'];rfl
     rw [hst]
     have hat:∀ v∈stB c b,v.atom = true:=stB_atoms c b
     refine W.run ?_
     rfl
end Go.Dp
