import Derived.Test.YtlbjgnkjicifhaaGreatDwJ4
namespace Go.Dp
open Go.RowKit Go.Proofs
attribute [local irreducible] wp wpOps wpOp1 CallW CallT kSeq kBlk kLoop kReg retP retR kAsg kRound kRf kCut kItr kItr2
set_option linter.unusedVariables false
set_option linter.unusedSimpArgs false
theorem chk_ok {P:Int} {X S:List Int} (hl:X.length = S.length) (h1:1≤X.length∧X.length≤64) (hX:∀ x∈X,1≤x∧x < P) (hS:∀ s∈S,0≤s∧s < P) (hn:X.Nodup):chkE P X S = 0:=by
 unfold chkE
 rw [if_neg (by omega),if_neg (by omega),if_pos,if_pos hn]
 rw [Bool.and_eq_true,List.all_eq_true,List.all_eq_true]
 exact ⟨fun x hx=>decide_eq_true (hX x hx),fun x hx=>decide_eq_true (hS x hx)⟩
theorem isIn_deal {c:Cf} {b:Brd} {h:Int} (e:isInM c b h = true):∃ A,b.deal c h = some A:=by
 unfold isInM at e
 rw [Bool.and_eq_true] at e
 exact Option.isSome_iff_exists.1 e.1
def firstX (c:Cf) (b:Brd) (h:Int):List Int:=(foundL c b h).take (c.B+1).toNat
theorem lag_found {c:Cf} (hc:c.Ok) {b:Brd} {h:Int} {A a:List Int} (ha:PolyOf c A a) (hA:(A.length:Int) = c.B+1) (hl:c.B < (foundL c b h).length) :
  chkE c.P (firstX c b h) ((firstX c b h).map fun x=>valM c.P x a) = 0∧(firstX c b h).length = (c.B+1).toNat∧padL (lagO c.P (firstX c b h) (firstX c b h) ((firstX c b h).map fun x=>valM c.P x a) []) (firstX c b h).length = a:=by
 have hr:=hc.rng
 have hP:=hc.1.hP
 have hlen:(firstX c b h).length = (c.B+1).toNat:=by unfold firstX;rw [List.length_take];omega
 have hmem:∀ x∈firstX c b h,1≤x∧x≤c.H:=fun x hx=>by
  have:=rngH_mem.1 (List.mem_filter.1 (List.mem_of_mem_take hx)).1
  omega
 have hnd:(firstX c b h).Nodup:=(foundL_nodup c b h).sublist (List.take_sublist _ _)
 refine ⟨chk_ok (by simp) (by omega) (fun x hx=>by have:=hmem x hx;omega) (fun s hs=>?_) hnd,hlen,?_⟩
 ·obtain ⟨x,_,rfl⟩:=List.mem_map.1 hs
  exact valM_rng (by omega) a
 ·have := lag_shares hc.1.pP hP.1 (X := firstX c b h) (a := a) (fun x hx => by have := hmem x hx; omega) hnd ha.2.2 (by have := ha.2.1; omega) rfl
  unfold padL
  rw [this,show (firstX c b h).length - a.length = 0 by have:=ha.2.1;omega]
  simp
abbrev qOpn (c:Cf) (b:Brd) (h k:Int) (x:Ln):Bool:=opnR c b x && decide (x.other = h) && decide (x.hall = k)
theorem any_take {q:Ln→Bool} {l:List Ln} {i:Nat} (hi:i < l.length):(l.take (i+1)).any q = ((l.take i).any q || q l[i]):=by
 rw [← List.take_append_getElem hi,List.any_append];simp
set_option maxRecDepth 10000 in
set_option maxHeartbeats 4000000 in
theorem k87 (c:Cf) (hc:c.Ok) (b:Brd) (hb:b.Ok) (h:Int):PureC Tryz.prog 87 [c.v,bdV b,.int .i64 h] (fun r=>r = if isInM c b h = true then .tup [.int .i64 ((secM c b h).getD 0),.bool (secM c b h).isSome] else .tup [.int .i64 0,.bool false]):=by
 have hr:=hc.rng
 have c1:=k67 c hc b hb h
 have hbl:=hb.2.2.2.1
 have hal:=hb.2.2.1.1
 refine pureC_of_wp (.l [.x,.x]) mixed ok87 rfl ?_
 unfold c87
 dsimp only [argE,Cf.v,cfgV,bdV]
 cases hin:isInM c b h
 ·rw [hin] at c1
  rw [if_neg (by simp)]
  clear hc hb
  refine W.run ?_
  rfl
 rw [hin] at c1
 rw [if_pos rfl]
 obtain ⟨A,hd⟩:=isIn_deal hin
 obtain ⟨a,ha⟩:=polyOf_ex hc hb hd
 have hA:=(deal_ok hb hd).1
 rw [secM_eq hc hb hd ha]
 have c2:=fun j=>k71 c hc b hb h j
 have c3:=fun i (hi:i < b.a.length) (hn:b.a[i].nums.length = 1)=>k72 c hc b hb i hi hn
 have c4:=fun i (hi:i < b.r.length)=>k123 c hc b.r[i] (by have:=(hb.2.2.2.2 b.r[i] (List.getElem_mem hi)).1;omega)
 have c5:=fun i (hi:i < b.r.length) (hn:b.r[i].nums.length = 1) (hdl:(b.deal c b.r[i].other).isSome = true)=>k133 c hc b hb b.r[i] (hb.2.2.2.2 b.r[i] (List.getElem_mem hi)) hn hdl
 have c6:=fun i (hi:i < b.r.length) (hcn:cntB c.H b.r[i] 4 (c.B+1) false = true)=>k132 c hc b hb b.r[i] (hb.2.2.2.2 b.r[i] (List.getElem_mem hi)) hcn
 refine W.run ?_
 clear c1
 refine W.lp (fun j:Nat=>[(2,.int .i64 h),(3,.ptr 0 0 0),(4,.ptr 8 0 0),(8,.ref 72 ((rngH j).filter (foundB c b h)).length 0 ((rngH j).filter (foundB c b h)).length),(9,.ref 80 ((rngH j).filter (foundB c b h)).length 0 ((rngH j).filter (foundB c b h)).length),(10,.int .i64 ((j:Int)+1))])
  (fun j=>((HB c b).put 72 { cells:=((rngH j).filter (foundB c b h)).map (V.int .i64),sz:=1,ver:=((rngH j).filter (foundB c b h)).length,nl:=if ((rngH j).filter (foundB c b h)).length = 0 then 1 else 0 }).put 80 { cells:=(((rngH j).filter (foundB c b h)).map fun x=>valM c.P x a).map (V.int .i64),sz:=1,ver:=((rngH j).filter (foundB c b h)).length,nl:=if ((rngH j).filter (foundB c b h)).length = 0 then 1 else 0 })
  (fun j=>j≤c.H.toNat) (fun j=>c.H.toNat - j) 0 rfl (HS.refl _) (by omega) ?_
 rintro j nx h1 hnx
 have hle:((rngH j).filter (foundB c b h)).length≤j:=by
  have:=List.length_filter_le (foundB c b h) (rngH j)
  rwa [rngH_len] at this
 by_cases hj:j < c.H.toNat
 ·have hs:(rngH (j+1)).filter (foundB c b h) = (rngH j).filter (foundB c b h)++if foundB c b h ((j:Int)+1) then [(j:Int)+1] else []:=by
   rw [rngH_succ,List.filter_append]
   congr 1
   cases hqj:foundB c b h ((j:Int)+1) <;> simp [hqj]
  generalize (rngH j).filter (foundB c b h) = L at hs hle ⊢
  have c7:=c2 ((j:Int)+1)
  clear c2 c6
  obtain ⟨fv,hfv⟩:∃ fv,fv = valM c.P ((j:Int)+1) a:=⟨_,rfl⟩
  have hopn:∀ i (hi:i < b.r.length),opnR c b b.r[i] = true→b.r[i].other = h→b.r[i].hall = (j:Int)+1→b.r[i].nums.headD 0 = fv:=fun i hi e1 e2 e3=>by rw [hfv,← e3];exact opnR_val hc hd ha e1 e2
  have hansv:ansB c b h ((j:Int)+1) = true→ansN c b h ((j:Int)+1) = fv:=fun e=>by rw [hfv];exact ansB_val hc hd ha e
  have hfnd:foundB c b h ((j:Int)+1) = (ansB c b h ((j:Int)+1) || b.r.any (qOpn c b h ((j:Int)+1))):=rfl
  clear hb hA ha hc
  have key:b.ans c h ((j:Int)+1) < 0∨∃ i:Nat,∃ hi:i < b.a.length,b.ans c h ((j:Int)+1) = i∧b.a[i].nums.length = 1∧fitsM c b b.a[i].hall b.a[i].other (b.a[i].nums.headD 0) = ansB c b h ((j:Int)+1)∧ansN c b h ((j:Int)+1) = b.a[i].nums.headD 0:=by
   by_cases hn:b.ans c h ((j:Int)+1) < 0
   ·exact .inl hn
   ·obtain ⟨i, hi⟩ : ∃ i : Nat, b.ans c h ((j : Int) + 1) = i := ⟨(b.ans c h ((j : Int) + 1)).toNat, by omega⟩
    obtain ⟨hil,hq,hl⟩:=ans_at hi
    exact .inr ⟨i,hil,hi,ans_len hq,right_ans hil hq hl,by rw [ansN,hl]⟩
  have key2:b.ans c h ((j:Int)+1) < 0→ansB c b h ((j:Int)+1) = false:=fun hn=>by rw [ansB,ans_none hn]
  generalize hab:ansB c b h ((j:Int)+1) = F0 at hansv hfnd key key2
  rcases key with hn | ⟨i0,hi0,hn,hl1,hright,hval⟩
  ·have hF0:=key2 hn
   subst hF0
   have hv0:false = true→(0:Int) = fv:=by simp
   clear c3 hansv key2 hab
   refine W.run ?_
   refine W.lp (fun y:Nat × Bool × Int=>[(2,.int .i64 h),(3,.ptr 0 0 0),(4,.ptr 8 0 0),(8,.ref 72 L.length 0 L.length),(9,.ref 80 L.length 0 L.length),(10,.int .i64 ((j:Int)+1)),(11,.bool y.2.1),(12,.int .i64 y.2.2),(14,.int .i64 (y.1:Int))])
    (fun _=>((HB c b).put 72 { cells:=L.map (V.int .i64),sz:=1,ver:=L.length,nl:=if L.length = 0 then 1 else 0 }).put 80 { cells:=(L.map fun x=>valM c.P x a).map (V.int .i64),sz:=1,ver:=L.length,nl:=if L.length = 0 then 1 else 0 })
    (fun y=>y.1≤b.r.length∧y.2.1 = (false || (b.r.take y.1).any (qOpn c b h ((j:Int)+1)))∧(y.2.1 = true→y.2.2 = fv)) (fun y=>b.r.length - y.1) (0,false,0) rfl (HS.refl _) ⟨by dsimp only;omega,by simp,hv0⟩ ?_
   clear hv0
   rintro ⟨i,F,n⟩ nx2 ⟨h2,hF,hv⟩ hnx2
   dsimp only at h2 hF hv ⊢
   by_cases hi:i < b.r.length
   ·have c9:=c4 i hi 5
    have hcn:cntR c b.r[i] 5 = cntB c.H b.r[i] 5 1 true:=by rw [cntR,if_neg (by omega),if_neg (by omega)]
    rw [hcn] at c9
    have hgo:qOpn c b h ((j:Int)+1) b.r[i] = false→i+1≤b.r.length∧F = (false || (b.r.take (i+1)).any (qOpn c b h ((j:Int)+1)))∧(F = true→n = fv):=fun hq=>⟨by omega,by rw [any_take hi,hq,Bool.or_false];exact hF,hv⟩
    have hst : qOpn c b h ((j : Int) + 1) b.r[i] = true → i + 1 ≤ b.r.length ∧ true = (false || (b.r.take (i + 1)).any (qOpn c b h ((j : Int) + 1))) ∧ (true = true → b.r[i].nums.headD 0 = fv) := fun hq => ⟨by omega, by rw [any_take hi, hq, Bool.or_true, Bool.or_true], fun _ => by
     simp only [qOpn,Bool.and_eq_true,decide_eq_true_eq] at hq
     exact hopn i hi hq.1.1 hq.1.2 hq.2⟩
    have c10:=c5 i hi
    have hqe:qOpn c b h ((j:Int)+1) b.r[i] = (cntB c.H b.r[i] 5 1 true && isInM c b b.r[i].other && fitsM c b b.r[i].other b.r[i].hall (b.r[i].nums.headD 0) && decide (b.r[i].other = h) && decide (b.r[i].hall = (j:Int)+1)):=rfl
    clear c4 c5 hF hv hcn hopn
    cases hcnt:cntB c.H b.r[i] 5 1 true
    ·rw [hcnt] at c9
     have hg:=hgo (by rw [hqe,hcnt];rfl)
     clear hgo hst hqe c10
     refine W.run ?_
     exact W.kl (i+1,F,n) rfl (HS.skip (HS.refl _) (by simp only [Hp.put];repeat (rw [if_neg (by omega)])) _) (by omega) hg (by dsimp only;omega)
    rw [hcnt] at c9
    have hl1:b.r[i].nums.length = 1:=by have:=(cntB_hall hcnt).2.2.2;omega
    by_cases ho:b.r[i].other = h
    ·have c11 := c10 hl1 (by rw [ho, hd]; rfl)
     by_cases hh:b.r[i].hall = (j:Int)+1
     ·cases hft:fitsM c b b.r[i].other b.r[i].hall (b.r[i].nums.headD 0)
      ·rw [hft] at c11
       have hg:=hgo (by rw [hqe,hft];simp)
       clear hgo hst hqe c10
       refine W.run ?_
       exact W.kl (i+1,F,n) rfl (HS.skip (HS.refl _) (by simp only [Hp.put];repeat (rw [if_neg (by omega)])) _) (by omega) hg (by dsimp only;omega)
      ·rw [hft] at c11
       have hg:=hst (by rw [hqe,hft,hcnt,ho,hin,decide_eq_true hh];simp)
       rw [headD_get (by omega)] at hg
       clear hgo hst hqe c10 hft
       refine W.run ?_
       exact W.kl (i+1,true,b.r[i].nums[0]) rfl (HS.skip (HS.refl _) (by simp only [Hp.put];repeat (rw [if_neg (by omega)])) _) (by omega) hg (by dsimp only;omega)
     ·have hg := hgo (by rw [hqe, decide_eq_false hh, Bool.and_false])
      clear hgo hst hqe c10
      refine W.run ?_
      exact W.kl (i+1,F,n) rfl (HS.skip (HS.refl _) (by simp only [Hp.put];repeat (rw [if_neg (by omega)])) _) (by omega) hg (by dsimp only;omega)
    ·have hg := hgo (by rw [hqe, decide_eq_false ho, Bool.and_false, Bool.false_and])
     clear hgo hst hqe c10
     refine W.run ?_
     exact W.kl (i+1,F,n) rfl (HS.skip (HS.refl _) (by simp only [Hp.put];repeat (rw [if_neg (by omega)])) _) (by omega) hg (by dsimp only;omega)
   ·have hi2 : i = b.r.length := by omega
    rw [hi2,List.take_length,← hfnd] at hF
    clear c4 c5 hopn hfnd
    cases F
    ·rw [← hF] at hs
     have hs2:(rngH (j+1)).filter (foundB c b h) = L:=by rw [hs];simp
     clear hs hv hF
     refine W.run ?_
     refine W.kl (j+1) ?_ ?_ (by omega) (by omega) (by omega)
     ·rw [hs2];rfl
     ·rw [hs2];exact HS.refl _
    ·rw [← hF] at hs
     have hs2:(rngH (j+1)).filter (foundB c b h) = L++[(j:Int)+1]:=by rw [hs];simp
     have hv2:=hv rfl
     clear hs hv hF
     refine W.run ?_
     refine W.kl (j+1) ?_ ?_ (by omega) (by omega) (by omega)
     ·rw [hs2,List.length_append,List.length_singleton];rfl
     ·rw [hs2,List.length_append,List.length_singleton,if_neg (by omega),List.map_append,List.map_append,List.map_append,hv2,hfv];exact HS.skip (HS.skip (HS.refl _) (by simp only [Hp.put];repeat (rw [if_neg (by omega)])) _) (by simp only [Hp.put];repeat (rw [if_neg (by omega)])) _
  ·have c8:=c3 i0 hi0 hl1
   rw [hright] at c8
   rw [hn] at c7
   rw [headD_get (by omega)] at hval
   clear c3 key2 hright
   cases F0
   ·have hv0 : false = true → (0 : Int) = fv := by simp
    clear hansv hab
    refine W.run ?_
    refine W.lp (fun y:Nat × Bool × Int=>[(2,.int .i64 h),(3,.ptr 0 0 0),(4,.ptr 8 0 0),(8,.ref 72 L.length 0 L.length),(9,.ref 80 L.length 0 L.length),(10,.int .i64 ((j:Int)+1)),(11,.bool y.2.1),(12,.int .i64 y.2.2),(14,.int .i64 (y.1:Int))])
     (fun _=>((HB c b).put 72 { cells:=L.map (V.int .i64),sz:=1,ver:=L.length,nl:=if L.length = 0 then 1 else 0 }).put 80 { cells:=(L.map fun x=>valM c.P x a).map (V.int .i64),sz:=1,ver:=L.length,nl:=if L.length = 0 then 1 else 0 })
     (fun y=>y.1≤b.r.length∧y.2.1 = (false || (b.r.take y.1).any (qOpn c b h ((j:Int)+1)))∧(y.2.1 = true→y.2.2 = fv)) (fun y=>b.r.length - y.1) (0,false,0) rfl (HS.refl _) ⟨by dsimp only;omega,by simp,hv0⟩ ?_
    clear hv0
    rintro ⟨i,F,n⟩ nx2 ⟨h2,hF,hv⟩ hnx2
    dsimp only at h2 hF hv ⊢
    by_cases hi:i < b.r.length
    ·have c9:=c4 i hi 5
     have hcn:cntR c b.r[i] 5 = cntB c.H b.r[i] 5 1 true:=by rw [cntR,if_neg (by omega),if_neg (by omega)]
     rw [hcn] at c9
     have hgo:qOpn c b h ((j:Int)+1) b.r[i] = false→i+1≤b.r.length∧F = (false || (b.r.take (i+1)).any (qOpn c b h ((j:Int)+1)))∧(F = true→n = fv):=fun hq=>⟨by omega,by rw [any_take hi,hq,Bool.or_false];exact hF,hv⟩
     have hst : qOpn c b h ((j : Int) + 1) b.r[i] = true → i + 1 ≤ b.r.length ∧ true = (false || (b.r.take (i + 1)).any (qOpn c b h ((j : Int) + 1))) ∧ (true = true → b.r[i].nums.headD 0 = fv) := fun hq => ⟨by omega, by rw [any_take hi, hq, Bool.or_true, Bool.or_true], fun _ => by
      simp only [qOpn,Bool.and_eq_true,decide_eq_true_eq] at hq
      exact hopn i hi hq.1.1 hq.1.2 hq.2⟩
     have c10:=c5 i hi
     have hqe:qOpn c b h ((j:Int)+1) b.r[i] = (cntB c.H b.r[i] 5 1 true && isInM c b b.r[i].other && fitsM c b b.r[i].other b.r[i].hall (b.r[i].nums.headD 0) && decide (b.r[i].other = h) && decide (b.r[i].hall = (j:Int)+1)):=rfl
     clear c4 c5 hF hv hcn hopn
     cases hcnt:cntB c.H b.r[i] 5 1 true
     ·rw [hcnt] at c9
      have hg:=hgo (by rw [hqe,hcnt];rfl)
      clear hgo hst hqe c10
      refine W.run ?_
      exact W.kl (i+1,F,n) rfl (HS.skip (HS.refl _) (by simp only [Hp.put];repeat (rw [if_neg (by omega)])) _) (by omega) hg (by dsimp only;omega)
     rw [hcnt] at c9
     have hl1:b.r[i].nums.length = 1:=by have:=(cntB_hall hcnt).2.2.2;omega
     by_cases ho:b.r[i].other = h
     ·have c11 := c10 hl1 (by rw [ho, hd]; rfl)
      by_cases hh:b.r[i].hall = (j:Int)+1
      ·cases hft:fitsM c b b.r[i].other b.r[i].hall (b.r[i].nums.headD 0)
       ·rw [hft] at c11
        have hg:=hgo (by rw [hqe,hft];simp)
        clear hgo hst hqe c10
        refine W.run ?_
        exact W.kl (i+1,F,n) rfl (HS.skip (HS.refl _) (by simp only [Hp.put];repeat (rw [if_neg (by omega)])) _) (by omega) hg (by dsimp only;omega)
       ·rw [hft] at c11
        have hg:=hst (by rw [hqe,hft,hcnt,ho,hin,decide_eq_true hh];simp)
        rw [headD_get (by omega)] at hg
        clear hgo hst hqe c10 hft
        refine W.run ?_
        exact W.kl (i+1,true,b.r[i].nums[0]) rfl (HS.skip (HS.refl _) (by simp only [Hp.put];repeat (rw [if_neg (by omega)])) _) (by omega) hg (by dsimp only;omega)
      ·have hg := hgo (by rw [hqe, decide_eq_false hh, Bool.and_false])
       clear hgo hst hqe c10
       refine W.run ?_
       exact W.kl (i+1,F,n) rfl (HS.skip (HS.refl _) (by simp only [Hp.put];repeat (rw [if_neg (by omega)])) _) (by omega) hg (by dsimp only;omega)
     ·have hg := hgo (by rw [hqe, decide_eq_false ho, Bool.and_false, Bool.false_and])
      clear hgo hst hqe c10
      refine W.run ?_
      exact W.kl (i+1,F,n) rfl (HS.skip (HS.refl _) (by simp only [Hp.put];repeat (rw [if_neg (by omega)])) _) (by omega) hg (by dsimp only;omega)
    ·have hi2 : i = b.r.length := by omega
     rw [hi2,List.take_length,← hfnd] at hF
     clear c4 c5 hopn hfnd
     cases F
     ·rw [← hF] at hs
      have hs2:(rngH (j+1)).filter (foundB c b h) = L:=by rw [hs];simp
      clear hs hv hF
      refine W.run ?_
      refine W.kl (j+1) ?_ ?_ (by omega) (by omega) (by omega)
      ·rw [hs2];rfl
      ·rw [hs2];exact HS.refl _
     ·rw [← hF] at hs
      have hs2:(rngH (j+1)).filter (foundB c b h) = L++[(j:Int)+1]:=by rw [hs];simp
      have hv2:=hv rfl
      clear hs hv hF
      refine W.run ?_
      refine W.kl (j+1) ?_ ?_ (by omega) (by omega) (by omega)
      ·rw [hs2,List.length_append,List.length_singleton];rfl
      ·rw [hs2,List.length_append,List.length_singleton,if_neg (by omega),List.map_append,List.map_append,List.map_append,hv2,hfv];exact HS.skip (HS.skip (HS.refl _) (by simp only [Hp.put];repeat (rw [if_neg (by omega)])) _) (by simp only [Hp.put];repeat (rw [if_neg (by omega)])) _
   ·have hv0 : true = true → b.a[i0].nums[0] = fv := fun _ => by rw [← hval]; exact hansv rfl
    clear hansv hab
    refine W.run ?_
    refine W.lp (fun y:Nat × Bool × Int=>[(2,.int .i64 h),(3,.ptr 0 0 0),(4,.ptr 8 0 0),(8,.ref 72 L.length 0 L.length),(9,.ref 80 L.length 0 L.length),(10,.int .i64 ((j:Int)+1)),(11,.bool y.2.1),(12,.int .i64 y.2.2),(14,.int .i64 (y.1:Int))])
     (fun _=>((HB c b).put 72 { cells:=L.map (V.int .i64),sz:=1,ver:=L.length,nl:=if L.length = 0 then 1 else 0 }).put 80 { cells:=(L.map fun x=>valM c.P x a).map (V.int .i64),sz:=1,ver:=L.length,nl:=if L.length = 0 then 1 else 0 })
     (fun y=>y.1≤b.r.length∧y.2.1 = (true || (b.r.take y.1).any (qOpn c b h ((j:Int)+1)))∧(y.2.1 = true→y.2.2 = fv)) (fun y=>b.r.length - y.1) (0,true,b.a[i0].nums[0]) rfl (HS.refl _) ⟨by dsimp only;omega,by simp,hv0⟩ ?_
    clear hv0
    rintro ⟨i,F,n⟩ nx2 ⟨h2,hF,hv⟩ hnx2
    dsimp only at h2 hF hv ⊢
    by_cases hi:i < b.r.length
    ·have c9:=c4 i hi 5
     have hcn:cntR c b.r[i] 5 = cntB c.H b.r[i] 5 1 true:=by rw [cntR,if_neg (by omega),if_neg (by omega)]
     rw [hcn] at c9
     have hgo:qOpn c b h ((j:Int)+1) b.r[i] = false→i+1≤b.r.length∧F = (true || (b.r.take (i+1)).any (qOpn c b h ((j:Int)+1)))∧(F = true→n = fv):=fun hq=>⟨by omega,by rw [any_take hi,hq,Bool.or_false];exact hF,hv⟩
     have hst : qOpn c b h ((j : Int) + 1) b.r[i] = true → i + 1 ≤ b.r.length ∧ true = (true || (b.r.take (i + 1)).any (qOpn c b h ((j : Int) + 1))) ∧ (true = true → b.r[i].nums.headD 0 = fv) := fun hq => ⟨by omega, by rw [any_take hi, hq, Bool.or_true, Bool.or_true], fun _ => by
      simp only [qOpn,Bool.and_eq_true,decide_eq_true_eq] at hq
      exact hopn i hi hq.1.1 hq.1.2 hq.2⟩
     have c10:=c5 i hi
     have hqe:qOpn c b h ((j:Int)+1) b.r[i] = (cntB c.H b.r[i] 5 1 true && isInM c b b.r[i].other && fitsM c b b.r[i].other b.r[i].hall (b.r[i].nums.headD 0) && decide (b.r[i].other = h) && decide (b.r[i].hall = (j:Int)+1)):=rfl
     clear c4 c5 hF hv hcn hopn
     cases hcnt:cntB c.H b.r[i] 5 1 true
     ·rw [hcnt] at c9
      have hg:=hgo (by rw [hqe,hcnt];rfl)
      clear hgo hst hqe c10
      refine W.run ?_
      exact W.kl (i+1,F,n) rfl (HS.skip (HS.refl _) (by simp only [Hp.put];repeat (rw [if_neg (by omega)])) _) (by omega) hg (by dsimp only;omega)
     rw [hcnt] at c9
     have hl1:b.r[i].nums.length = 1:=by have:=(cntB_hall hcnt).2.2.2;omega
     by_cases ho:b.r[i].other = h
     ·have c11 := c10 hl1 (by rw [ho, hd]; rfl)
      by_cases hh:b.r[i].hall = (j:Int)+1
      ·cases hft:fitsM c b b.r[i].other b.r[i].hall (b.r[i].nums.headD 0)
       ·rw [hft] at c11
        have hg:=hgo (by rw [hqe,hft];simp)
        clear hgo hst hqe c10
        refine W.run ?_
        exact W.kl (i+1,F,n) rfl (HS.skip (HS.refl _) (by simp only [Hp.put];repeat (rw [if_neg (by omega)])) _) (by omega) hg (by dsimp only;omega)
       ·rw [hft] at c11
        have hg:=hst (by rw [hqe,hft,hcnt,ho,hin,decide_eq_true hh];simp)
        rw [headD_get (by omega)] at hg
        clear hgo hst hqe c10 hft
        refine W.run ?_
        exact W.kl (i+1,true,b.r[i].nums[0]) rfl (HS.skip (HS.refl _) (by simp only [Hp.put];repeat (rw [if_neg (by omega)])) _) (by omega) hg (by dsimp only;omega)
      ·have hg := hgo (by rw [hqe, decide_eq_false hh, Bool.and_false])
       clear hgo hst hqe c10
       refine W.run ?_
       exact W.kl (i+1,F,n) rfl (HS.skip (HS.refl _) (by simp only [Hp.put];repeat (rw [if_neg (by omega)])) _) (by omega) hg (by dsimp only;omega)
     ·have hg := hgo (by rw [hqe, decide_eq_false ho, Bool.and_false, Bool.false_and])
      clear hgo hst hqe c10
      refine W.run ?_
      exact W.kl (i+1,F,n) rfl (HS.skip (HS.refl _) (by simp only [Hp.put];repeat (rw [if_neg (by omega)])) _) (by omega) hg (by dsimp only;omega)
    ·have hi2 : i = b.r.length := by omega
     rw [hi2,List.take_length,← hfnd] at hF
     clear c4 c5 hopn hfnd
     cases F
     ·rw [← hF] at hs
      have hs2:(rngH (j+1)).filter (foundB c b h) = L:=by rw [hs];simp
      clear hs hv hF
      refine W.run ?_
      refine W.kl (j+1) ?_ ?_ (by omega) (by omega) (by omega)
      ·rw [hs2];rfl
      ·rw [hs2];exact HS.refl _
     ·rw [← hF] at hs
      have hs2:(rngH (j+1)).filter (foundB c b h) = L++[(j:Int)+1]:=by rw [hs];simp
      have hv2:=hv rfl
      clear hs hv hF
      refine W.run ?_
      refine W.kl (j+1) ?_ ?_ (by omega) (by omega) (by omega)
      ·rw [hs2,List.length_append,List.length_singleton];rfl
      ·rw [hs2,List.length_append,List.length_singleton,if_neg (by omega),List.map_append,List.map_append,List.map_append,hv2,hfv];exact HS.skip (HS.skip (HS.refl _) (by simp only [Hp.put];repeat (rw [if_neg (by omega)])) _) (by simp only [Hp.put];repeat (rw [if_neg (by omega)])) _
 ·have hj2 : j = c.H.toNat := by omega
  subst hj2
  clear c2 c3 c5
  have hLe:(rngH c.H.toNat).filter (foundB c b h) = foundL c b h:=rfl
  rw [hLe] at hle ⊢
  have hlag:=lag_found (b:=b) (h:=h) hc ha hA
  unfold firstX at hlag
  have hrvs:∀ i (hi:i < b.r.length),revR c b b.r[i] = true→b.r[i].hall = h→b.r[i].nums.headD 0 = a.headD 0:=fun i hi h1 h5=>by
   simp only [revR,Bool.and_eq_true,decide_eq_true_eq] at h1
   obtain ⟨h2,h3,h4⟩:=h1
   rw [h5,hd,Option.some.injEq,← ha.1] at h4
   rw [com_inj hc.1 (polyE_rng h3) ha.2.2 h4]
  have hg0:=hc.1
  have hP:=hc.1.hP
  have hal2:=ha.2.1
  generalize foundL c b h = L at hle hlag ⊢
  clear hLe hb hc ha
  obtain ⟨E,hE⟩:∃ E,E = if (revB c b h || decide (c.B < (L.length:Int))) = true then some (a.headD 0) else none:=⟨_,rfl⟩
  rw [← hE]
  refine W.run ?_
  refine W.lp (fun i:Nat=>[(2,.int .i64 h),(3,.ptr 0 0 0),(4,.ptr 8 0 0),(8,.ref 72 L.length 0 L.length),(9,.ref 80 L.length 0 L.length),(16,.int .i64 (i:Int))])
   (fun _=>((HB c b).put 72 { cells:=L.map (V.int .i64),sz:=1,ver:=L.length,nl:=if L.length = 0 then 1 else 0 }).put 80 { cells:=(L.map fun x=>valM c.P x a).map (V.int .i64),sz:=1,ver:=L.length,nl:=if L.length = 0 then 1 else 0 })
   (fun i=>i≤b.r.length∧∀ x∈b.r.take i,(revR c b x && decide (x.hall = h)) = false) (fun i=>b.r.length - i) 0 rfl (HS.refl _) ⟨by omega,by simp⟩ ?_
  rintro i nx1 ⟨g1,g2⟩ hnx1
  by_cases hi:i < b.r.length
  ·have c8:=c4 i hi 4
   have hcn:cntR c b.r[i] 4 = cntB c.H b.r[i] 4 (c.B+1) false:=by rw [cntR,if_pos (.inr rfl)]
   rw [hcn] at c8
   have hgo:(revR c b b.r[i] && decide (b.r[i].hall = h)) = false→i+1≤b.r.length∧∀ x∈b.r.take (i+1),(revR c b x && decide (x.hall = h)) = false:=fun hq=>⟨by omega,fun x hx=>(mem_take_succ hi hx).elim (g2 x) (fun e=>e ▸ hq)⟩
   have c9:=c6 i hi
   have hrv:=hrvs i hi
   clear g2 c4 c6 hcn hlag hrvs
   cases hcnt:cntB c.H b.r[i] 4 (c.B+1) false
   ·rw [hcnt] at c8
    have hg:=hgo (by rw [revR,revC,hcnt];rfl)
    clear hgo c9 hrv hE
    refine W.run ?_
    exact W.kl (i+1) rfl (HS.skip (HS.refl _) (by simp only [Hp.put];repeat (rw [if_neg (by omega)])) _) (by omega) hg (by omega)
   rw [hcnt] at c8
   have c10:=c9 hcnt
   have hnl:=(cntB_hall hcnt).2.2.2
   by_cases hh:b.r[i].hall = h
   ·cases hr2:revR c b b.r[i]
    ·rw [hr2] at c10
     have hg:=hgo (by rw [hr2];rfl)
     clear hgo c9 hrv hE
     refine W.run ?_
     exact W.kl (i+1) rfl (HS.skip (HS.refl _) (by simp only [Hp.put];repeat (rw [if_neg (by omega)])) _) (by omega) hg (by omega)
    ·have hrB : revB c b h = true := List.any_eq_true.2 ⟨_, List.getElem_mem hi, by rw [hr2, decide_eq_true hh]; rfl⟩
     rw [hr2] at c10
     rw [hrB,Bool.true_or,if_pos rfl,← hrv hr2 hh,headD_get (by omega)] at hE
     subst hE
     clear hgo c9 hrv
     refine W.run ?_
     rfl
   ·have hg := hgo (by rw [decide_eq_false hh, Bool.and_false])
    clear hgo c9 hrv hE
    refine W.run ?_
    exact W.kl (i+1) rfl (HS.skip (HS.refl _) (by simp only [Hp.put];repeat (rw [if_neg (by omega)])) _) (by omega) hg (by omega)
  ·have hi2 : i = b.r.length := by omega
   subst hi2
   rw [List.take_length] at g2
   have hrB:revB c b h = false:=by
    unfold revB
    rw [List.any_eq_false];intro x hx;rw [g2 x hx];simp
   rw [hrB,Bool.false_or] at hE
   clear g2 c4 c6 hrvs
   by_cases hlt:c.B < (L.length:Int)
   ·rw [if_pos (decide_eq_true hlt)] at hE
    subst hE
    obtain ⟨l1,l2,l3⟩:=hlag hlt
    have c8:=k44 hg0 _ _ (by simp) l1
    rw [l3] at c8
    have e1:slI (List.take (c.B+1).toNat L) = .sl ((List.take (c.B+1).toNat L).map (V.int .i64)) (c.B+1).toNat:=by
     show V.sl ((List.take (c.B+1).toNat L).map (V.int .i64)) (List.take (c.B+1).toNat L).length = _
     rw [l2]
    have e2:slI ((List.take (c.B+1).toNat L).map fun x=>valM c.P x a) = .sl ((List.take (c.B+1).toNat (L.map fun x=>valM c.P x a)).map (V.int .i64)) (c.B+1).toNat:=by
     show V.sl (((List.take (c.B+1).toNat L).map fun x=>valM c.P x a).map (V.int .i64)) ((List.take (c.B+1).toNat L).map fun x=>valM c.P x a).length = _
     rw [List.length_map,l2,List.map_take]
    rw [e1,e2] at c8
    clear hlag l1 l3 hg0 e1 e2
    rw [headD_get (by omega)]
    refine W.run ?_
    rfl
   ·rw [if_neg (by simpa using hlt)] at hE
    subst hE
    clear hlag
    refine W.run ?_
    rfl
end Go.Dp
