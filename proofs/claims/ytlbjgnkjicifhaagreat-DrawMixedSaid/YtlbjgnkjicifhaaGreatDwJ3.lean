import Derived.Test.YtlbjgnkjicifhaaGreatDwC9
import Derived.Test.YtlbjgnkjicifhaaGreatDwC24
namespace Go.Dp
open Go.RowKit Go.Proofs
attribute [local irreducible] wp wpOps wpOp1 CallW CallT kSeq kBlk kLoop kReg retP retR kAsg kRound kRf kCut kItr kItr2
set_option linter.unusedVariables false
set_option linter.unusedSimpArgs false
theorem k167 (c:Cf) (h:Int):PureC Tryz.prog 167 [c.v,.int .i64 h] (fun r=>r = .bool (isHallB c.H h)):=by
 refine pureC_of_wp .x mixed ok167 rfl ?_
 unfold c167 isHallB
 dsimp only [argE,Cf.v,cfgV]
 by_cases h1:1≤h
 ·by_cases h2:h≤c.H
  ·rw [decide_eq_true (⟨h1,h2⟩:1≤h∧h≤c.H)]
   refine W.run ?_
   simp only [h2,decide_true]
  ·rw [decide_eq_false (fun e=>h2 e.2:¬ (1≤h∧h≤c.H))]
   refine W.run ?_
   simp only [h2,decide_false]
 ·rw [decide_eq_false (fun e=>h1 e.1:¬ (1≤h∧h≤c.H))]
  refine W.run ?_
  rfl
def cntR (c:Cf) (x:Ln) (kind:Int):Bool:=if kind = 1∨kind = 4 then cntB c.H x kind (c.B+1) false else if kind = 2 then cntB c.H x 2 0 true else cntB c.H x kind 1 true
set_option maxRecDepth 10000 in
theorem k123 (c:Cf) (hc:c.Ok) (x:Ln) (hx:x.nums.length < 2 ^ 40) (kind:Int):PureC Tryz.prog 123 [c.v,.agg (lnK x),.int .i64 kind] (fun r=>r = .bool (cntR c x kind)):=by
 have hr:=hc.rng
 have c1:=k167 c x.hall
 have c2:=k167 c x.other
 clear hc
 refine pureC_of_wp .x mixed ok123 rfl ?_
 unfold c123 cntR cntB
 dsimp only [argE,Cf.v,cfgV,lnK]
 by_cases hk:x.kind = kind
 case neg =>
  rw [decide_eq_false hk]
  have hk2:kind = 2→¬ x.kind = 2:=fun e=>e ▸ hk
  refine W.run ?_
  simp only [Bool.false_and]
  split
  ·rfl
  ·split
   ·rename_i e;rw [decide_eq_false (hk2 e)];rfl
   ·rfl
 subst hk
 cases hh:isHallB c.H x.hall
 ·rw [hh] at c1
  refine W.run ?_
  simp
 rw [hh] at c1
 by_cases h1:x.kind = 1
 ·rw [if_pos (.inl h1)]
  refine W.run ?_
  simp
 by_cases h4:x.kind = 4
 ·rw [if_pos (.inr h4)]
  refine W.run ?_
  simp
 rw [if_neg (by omega)]
 by_cases h2:x.kind = 2
 ·rw [if_pos h2]
  cases ho:isHallB c.H x.other
  ·rw [ho] at c2
   refine W.run ?_
   simp
  rw [ho] at c2
  by_cases he:x.other = x.hall
  ·refine W.run ?_
   simp [he]
  ·refine W.run ?_
   simp [he,h2,Int.natCast_eq_zero]
 rw [if_neg h2]
 cases ho:isHallB c.H x.other
 ·rw [ho] at c2
  refine W.run ?_
  simp
 rw [ho] at c2
 by_cases he:x.other = x.hall
 ·refine W.run ?_
  simp [he]
 ·refine W.run ?_
  simp [he]
abbrev HB (c:Cf) (b:Brd):Hp:=(Hp.put (fun _=>none) 0 { cells:=[.int .i64 c.R,.int .i64 c.P,.int .i64 c.G,.int .i64 c.H,.int .i64 c.B,.int .i64 c.K],sz:=6 }).put 8 { cells:=[linV b.d,linV b.c,linV b.a,linV b.r],sz:=4 }
theorem linC_j {l:List Ln} {i j:Nat} (h:i < l.length) (hj:j < 4):(linC l)[i * 4+j]? = (lnK l[i])[j]?:=by
 have e:((linC l).drop (i * 4)).take 4 = lnK l[i]:=linC_get h
 have:=congrArg (fun m=>m[j]?) e
 simp only [List.getElem?_take,hj,if_true,List.getElem?_drop] at this
 exact this
@[go_sem] theorem linC_0 {l:List Ln} {i:Nat} (h:i < l.length):(linC l)[i * 4]? = some (.int .i64 l[i].hall):=linC_j (j:=0) h (by omega)
set_option maxRecDepth 10000 in
theorem k121 (c:Cf) (hc:c.Ok) (b:Brd) (hb:b.Ok) (h:Int):PureC Tryz.prog 121 [c.v,bdV b,.int .i64 h] (fun r=>r = .int .i64 (b.first c h)):=by
 have hbl:=hb.1.1
 have hbd:=hb.1.2
 clear hb
 refine pureC_of_wp .x mixed ok121 rfl ?_
 unfold c121 Brd.first
 dsimp only [argE,Cf.v,cfgV,bdV]
 refine W.run ?_
 refine W.lp (fun i:Nat=>[(2,.int .i64 h),(3,.ptr 0 0 0),(4,.ptr 8 0 0),(7,.int .i64 (i:Int))]) (fun _=>HB c b) (fun i=>i≤b.d.length∧∀ x∈b.d.take i,qDeal c h x = false) (fun i=>b.d.length - i) 0 rfl (HS.refl _) ⟨by omega,by simp⟩ ?_
 rintro i nx ⟨h1,h2⟩ hnx
 by_cases hi:i < b.d.length
 ·have c1 := k123 c hc b.d[i] (by have := (hbd b.d[i] (List.getElem_mem hi)).1; omega) 1
  have hcn:cntR c b.d[i] 1 = cntB c.H b.d[i] 1 (c.B+1) false:=by rw [cntR,if_pos (.inl rfl)]
  rw [hcn] at c1
  have hgo:qDeal c h b.d[i] = false→i+1≤b.d.length∧∀ x∈b.d.take (i+1),qDeal c h x = false:=fun hq=>⟨by omega,fun x hx=>(mem_take_succ hi hx).elim (h2 x) (fun e=>e ▸ hq)⟩
  have hst:qDeal c h b.d[i] = true→fstI (qDeal c h) b.d = i:=fun hq=>fstI_hit hi h2 hq
  clear h2 hc hbd hcn
  cases hcnt:cntB c.H b.d[i] 1 (c.B+1) false
  ·rw [hcnt] at c1
   have hg:=hgo (by rw [qDeal,hcnt];rfl)
   clear hgo hst
   refine W.run ?_
   exact W.kl (i+1) rfl (HS.refl _) (by omega) hg (by omega)
  rw [hcnt] at c1
  by_cases hhall:b.d[i].hall = h
  ·have hg := hst (by rw [qDeal, hcnt, decide_eq_true hhall]; rfl)
   clear hgo hst
   rw [hg]
   refine W.run ?_
   rfl
  ·have hg := hgo (by rw [qDeal, decide_eq_false hhall, Bool.and_false])
   clear hgo hst
   refine W.run ?_
   exact W.kl (i+1) rfl (HS.refl _) (by omega) hg (by omega)
 ·have hi2 : i = b.d.length := by omega
  subst hi2
  rw [List.take_length] at h2
  rw [fstI_no h2]
  clear h2
  refine W.run ?_
  rfl
def dealV:Option (List Int)→V
 | some A=>.tup [slI A,.bool true]
 | none=>.tup [.nils,.bool false]
theorem deal_first {c:Cf} {b:Brd} {h:Int} (hf:b.first c h < 0):b.deal c h = none:=by
 have:=(fstI_find _ _).1 hf
 unfold Brd.deal dealL
 rw [this]
theorem deal_at {c:Cf} {b:Brd} {h:Int} {i:Nat} (hf:b.first c h = i):∃ hi:i < b.d.length,qDeal c h b.d[i] = true∧b.deal c h = if b.d[i].nums.all (hasB c.R c.P) then some b.d[i].nums else none:=by
 obtain ⟨h1,h2⟩:=fstI_get (q:=qDeal c h) (l:=b.d) (show 0≤b.first c h by omega)
 change (b.first c h).toNat < b.d.length at h1
 have e:(fstI (qDeal c h) b.d).toNat = i:=by
  show (b.first c h).toNat = i
  omega
 have hi:i < b.d.length:=by omega
 refine ⟨hi,?_⟩
 have h3:b.d.find? (qDeal c h) = some b.d[i]:=by
  rw [h2];simp only [e]
 refine ⟨List.find?_some h3,?_⟩
 unfold Brd.deal dealL
 rw [h3]
set_option maxRecDepth 10000 in
theorem k68 (c:Cf) (hc:c.Ok) (b:Brd) (hb:b.Ok) (h:Int):PureC Tryz.prog 68 [c.v,bdV b,.int .i64 h] (fun r=>r = dealV (b.deal c h)):=by
 have hbl:=hb.1.1
 have hbd:=hb.1.2
 have c1:=k121 c hc b hb h
 have hg:=hc.1
 clear hb
 refine pureC_of_wp (.l [.x,.x]) mixed ok68 rfl ?_
 unfold c68
 dsimp only [argE,Cf.v,cfgV,bdV]
 by_cases hf:b.first c h < 0
 ·rw [deal_first hf]
  refine W.run ?_
  rfl
 obtain ⟨i,hi⟩:∃ i:Nat,b.first c h = i:=⟨(b.first c h).toNat,by omega⟩
 obtain ⟨hil,hq,hd⟩:=deal_at hi
 rw [hi] at c1
 rw [hd]
 have hl:=(hbd b.d[i] (List.getElem_mem hil)).1
 clear hd hq hi hf hbd hc
 refine W.run ?_
 refine W.lp (fun j:Nat=>[(3,.ptr 0 0 0),(9,slI b.d[i].nums),(10,.int .i64 (j:Int))]) (fun _=>HB c b) (fun j=>j≤b.d[i].nums.length∧∀ x∈b.d[i].nums.take j,hasB c.R c.P x = true) (fun j=>b.d[i].nums.length - j) 0 rfl (HS.refl _) ⟨by omega,by simp⟩ ?_
 generalize b.d[i].nums = A at hl ⊢
 rintro j nx ⟨h1,h2⟩ hnx
 by_cases hj:j < A.length
 ·have c2:=k122 hg A[j]
  cases hh:hasB c.R c.P A[j]
  ·rw [hh] at c2
   have:A.all (hasB c.R c.P) = false:=by
    rw [Bool.eq_false_iff,ne_eq,List.all_eq_true]
    intro h3
    rw [h3 _ (List.getElem_mem hj)] at hh;cases hh
   rw [this]
   clear h2
   refine W.run ?_
   rfl
  ·rw [hh] at c2
   have h3:∀ x∈A.take (j+1),hasB c.R c.P x = true:=fun x hx=>by
    rw [← List.take_append_getElem hj,List.mem_append,List.mem_singleton] at hx
    exact hx.elim (h2 x) (fun e=>e ▸ hh)
   clear h2
   refine W.run ?_
   exact W.kl (j+1) rfl (HS.refl _) (by omega) ⟨by omega,h3⟩ (by omega)
 ·have hj2 : j = A.length := by omega
  subst hj2
  rw [List.take_length] at h2
  rw [List.all_eq_true.2 h2]
  clear h2
  refine W.run ?_
  rfl
set_option maxRecDepth 10000 in
theorem k70 (c:Cf) (hc:c.Ok) (b:Brd) (hb:b.Ok) (h k:Int):PureC Tryz.prog 70 [c.v,bdV b,.int .i64 h,.int .i64 k] (fun r=>r = .bool (b.compl c h k)):=by
 have hbl:=hb.2.1.1
 have hbd:=hb.2.1.2
 have c1:=k68 c hc b hb k
 clear hb
 refine pureC_of_wp .x mixed ok70 rfl ?_
 unfold c70 Brd.compl
 dsimp only [argE,Cf.v,cfgV,bdV]
 cases hd:b.deal c k with
 | none =>
  rw [hd] at c1
  dsimp only [dealV] at c1
  refine W.run ?_
  rfl
 | some A =>
  rw [hd] at c1
  dsimp only [dealV] at c1
  rw [Option.isSome_some,Bool.true_and]
  refine W.run ?_
  clear c1
  refine W.lp (fun i:Nat=>[(2,.int .i64 h),(3,.int .i64 k),(4,.ptr 0 0 0),(5,.ptr 8 0 0),(11,.int .i64 (i:Int))]) (fun _=>HB c b) (fun i=>i≤b.c.length∧∀ x∈b.c.take i,qCompl c h k x = false) (fun i=>b.c.length - i) 0 rfl (HS.refl _) ⟨by omega,by simp⟩ ?_
  rintro i nx ⟨h1,h2⟩ hnx
  by_cases hi:i < b.c.length
  ·have c2 := k123 c hc b.c[i] (by have := (hbd b.c[i] (List.getElem_mem hi)).1; omega) 2
   have hcn:cntR c b.c[i] 2 = cntB c.H b.c[i] 2 0 true:=by rw [cntR,if_neg (by omega),if_pos rfl]
   rw [hcn] at c2
   have hgo:qCompl c h k b.c[i] = false→i+1≤b.c.length∧∀ x∈b.c.take (i+1),qCompl c h k x = false:=fun hq=>⟨by omega,fun x hx=>(mem_take_succ hi hx).elim (h2 x) (fun e=>e ▸ hq)⟩
   have hst:qCompl c h k b.c[i] = true→b.c.any (qCompl c h k) = true:=fun hq=>List.any_eq_true.2 ⟨_,List.getElem_mem hi,hq⟩
   clear h2 hc hbd hcn hd
   cases hcnt:cntB c.H b.c[i] 2 0 true
   ·rw [hcnt] at c2
    have hg:=hgo (by rw [qCompl,hcnt];rfl)
    clear hgo hst
    refine W.run ?_
    exact W.kl (i+1) rfl (HS.skip (HS.refl _) (by simp only [Hp.put];repeat (rw [if_neg (by omega)])) _) (by omega) hg (by omega)
   rw [hcnt] at c2
   by_cases hhall:b.c[i].hall = h
   ·by_cases hoth:b.c[i].other = k
    ·have hg := hst (by rw [qCompl, hcnt, decide_eq_true hhall, decide_eq_true hoth]; rfl)
     clear hgo hst
     rw [hg]
     refine W.run ?_
     rfl
    ·have hg := hgo (by rw [qCompl, decide_eq_false hoth, Bool.and_false])
     clear hgo hst
     refine W.run ?_
     exact W.kl (i+1) rfl (HS.skip (HS.refl _) (by simp only [Hp.put];repeat (rw [if_neg (by omega)])) _) (by omega) hg (by omega)
   ·have hg := hgo (by rw [qCompl, decide_eq_false hhall, Bool.and_false, Bool.false_and])
    clear hgo hst
    refine W.run ?_
    exact W.kl (i+1) rfl (HS.skip (HS.refl _) (by simp only [Hp.put];repeat (rw [if_neg (by omega)])) _) (by omega) hg (by omega)
  ·have hi2 : i = b.c.length := by omega
   subst hi2
   rw [List.take_length] at h2
   have:b.c.any (qCompl c h k) = false:=by
    rw [List.any_eq_false];intro x hx;rw [h2 x hx];simp
   rw [this]
   clear h2
   refine W.run ?_
   rfl
set_option maxRecDepth 10000 in
theorem k71 (c:Cf) (hc:c.Ok) (b:Brd) (hb:b.Ok) (h k:Int):PureC Tryz.prog 71 [c.v,bdV b,.int .i64 h,.int .i64 k] (fun r=>r = .int .i64 (b.ans c h k)):=by
 have hbl:=hb.2.2.1.1
 have hbd:=hb.2.2.1.2
 clear hb
 refine pureC_of_wp .x mixed ok71 rfl ?_
 unfold c71 Brd.ans
 dsimp only [argE,Cf.v,cfgV,bdV]
 refine W.run ?_
 refine W.lp (fun i:Nat=>[(2,.int .i64 h),(3,.int .i64 k),(4,.ptr 0 0 0),(5,.ptr 8 0 0),(9,.int .i64 (i:Int))]) (fun _=>HB c b) (fun i=>i≤b.a.length∧∀ x∈b.a.take i,qAns c h k x = false) (fun i=>b.a.length - i) 0 rfl (HS.refl _) ⟨by omega,by simp⟩ ?_
 rintro i nx ⟨h1,h2⟩ hnx
 by_cases hi:i < b.a.length
 ·have c2 := k123 c hc b.a[i] (by have := (hbd b.a[i] (List.getElem_mem hi)).1; omega) 3
  have hcn:cntR c b.a[i] 3 = cntB c.H b.a[i] 3 1 true:=by rw [cntR,if_neg (by omega),if_neg (by omega)]
  rw [hcn] at c2
  have hgo:qAns c h k b.a[i] = false→i+1≤b.a.length∧∀ x∈b.a.take (i+1),qAns c h k x = false:=fun hq=>⟨by omega,fun x hx=>(mem_take_succ hi hx).elim (h2 x) (fun e=>e ▸ hq)⟩
  have hst:qAns c h k b.a[i] = true→fstI (qAns c h k) b.a = i:=fun hq=>fstI_hit hi h2 hq
  clear h2 hc hbd hcn
  cases hcnt:cntB c.H b.a[i] 3 1 true
  ·rw [hcnt] at c2
   have hg:=hgo (by rw [qAns,hcnt];rfl)
   clear hgo hst
   refine W.run ?_
   exact W.kl (i+1) rfl (HS.skip (HS.refl _) (by simp only [Hp.put];repeat (rw [if_neg (by omega)])) _) (by omega) hg (by omega)
  rw [hcnt] at c2
  by_cases hhall:b.a[i].hall = h
  ·by_cases hoth:b.a[i].other = k
   ·have hg := hst (by rw [qAns, hcnt, decide_eq_true hhall, decide_eq_true hoth]; rfl)
    clear hgo hst
    rw [hg]
    refine W.run ?_
    rfl
   ·have hg := hgo (by rw [qAns, decide_eq_false hoth, Bool.and_false])
    clear hgo hst
    refine W.run ?_
    exact W.kl (i+1) rfl (HS.skip (HS.refl _) (by simp only [Hp.put];repeat (rw [if_neg (by omega)])) _) (by omega) hg (by omega)
  ·have hg := hgo (by rw [qAns, decide_eq_false hhall, Bool.and_false, Bool.false_and])
   clear hgo hst
   refine W.run ?_
   exact W.kl (i+1) rfl (HS.skip (HS.refl _) (by simp only [Hp.put];repeat (rw [if_neg (by omega)])) _) (by omega) hg (by omega)
 ·have hi2 : i = b.a.length := by omega
  subst hi2
  rw [List.take_length] at h2
  rw [fstI_no h2]
  clear h2
  refine W.run ?_
  rfl
set_option maxRecDepth 10000 in
theorem k72 (c:Cf) (hc:c.Ok) (b:Brd) (hb:b.Ok) (i:Nat) (hi:i < b.a.length) (hn:b.a[i].nums.length = 1):PureC Tryz.prog 72 [c.v,bdV b,.int .i64 (i:Int)] (fun r=>r = .bool (fitsM c b b.a[i].hall b.a[i].other (b.a[i].nums.headD 0))):=by
 have hbl:=hb.2.2.1.1
 have c1:=k68 c hc b hb b.a[i].hall
 have hdo:=fun A (e:b.deal c b.a[i].hall = some A)=>deal_ok hb e
 have hg:=hc.1
 refine pureC_of_wp .x mixed ok72 rfl ?_
 unfold c72 fitsM
 dsimp only [argE,Cf.v,cfgV,bdV]
 rw [headD_get (by omega)]
 cases hd:b.deal c b.a[i].hall with
 | none =>
  rw [hd] at c1
  dsimp only [dealV] at c1
  clear hdo
  refine W.run ?_
  rfl
 | some A =>
  rw [hd] at c1
  dsimp only [dealV] at c1
  have hA:=hdo A hd
  have c2:=k69 hg A A.length rfl (by omega) hA.2.1 b.a[i].other b.a[i].nums[0]
  have hAl:=hA.2.2.2
  clear hdo hA hb hc
  refine W.run ?_
  rfl
theorem ans_at {c:Cf} {b:Brd} {h k:Int} {i:Nat} (hf:b.ans c h k = i):∃ hi:i < b.a.length,qAns c h k b.a[i] = true∧ansL c b h k = some b.a[i]:=by
 obtain ⟨h1,h2⟩:=fstI_get (q:=qAns c h k) (l:=b.a) (show 0≤b.ans c h k by omega)
 change (b.ans c h k).toNat < b.a.length at h1
 have e:(fstI (qAns c h k) b.a).toNat = i:=by
  show (b.ans c h k).toNat = i
  omega
 have hi:i < b.a.length:=by omega
 refine ⟨hi,?_⟩
 have h3:b.a.find? (qAns c h k) = some b.a[i]:=by
  rw [h2];simp only [e]
 exact ⟨List.find?_some h3,h3⟩
theorem ans_none {c:Cf} {b:Brd} {h k:Int} (hf:b.ans c h k < 0):ansL c b h k = none:=(fstI_find _ _).1 hf
theorem right_ans {c:Cf} {b:Brd} {h k:Int} {i:Nat} (hi:i < b.a.length) (hq:qAns c h k b.a[i] = true) (hl:ansL c b h k = some b.a[i]):fitsM c b b.a[i].hall b.a[i].other (b.a[i].nums.headD 0) = ansB c b h k:=by
 simp only [qAns,Bool.and_eq_true,decide_eq_true_eq] at hq
 unfold ansB
 rw [hl,hq.1.2,hq.2]
set_option maxRecDepth 10000 in
theorem k67 (c:Cf) (hc:c.Ok) (b:Brd) (hb:b.Ok) (h:Int):PureC Tryz.prog 67 [c.v,bdV b,.int .i64 h] (fun r=>r = .bool (isInM c b h)):=by
 have hr:=hc.rng
 have c1:=k68 c hc b hb h
 have c2:=fun j=>k70 c hc b hb j h
 have c3:=fun j=>k71 c hc b hb h j
 have c4:=fun i hi hn=>k72 c hc b hb i hi hn
 have hal:=hb.2.2.1.1
 clear hc hb
 refine pureC_of_wp .x mixed ok67 rfl ?_
 unfold c67 isInM
 dsimp only [argE,Cf.v,cfgV,bdV]
 cases hd:b.deal c h with
 | none =>
  rw [hd] at c1
  dsimp only [dealV] at c1
  clear c2 c3 c4
  refine W.run ?_
  rfl
 | some A =>
  rw [hd] at c1
  dsimp only [dealV] at c1
  rw [Option.isSome_some,Bool.true_and]
  refine W.run ?_
  clear c1 hd
  refine W.lp (fun j:Nat=>[(2,.int .i64 h),(3,.ptr 0 0 0),(4,.ptr 8 0 0),(9,.int .i64 ((j:Int)+1))]) (fun _=>HB c b) (fun j=>j≤c.H.toNat∧∀ k,k < j→(!b.compl c ((k:Int)+1) h || ansB c b h ((k:Int)+1)) = true) (fun j=>c.H.toNat - j) 0 rfl (HS.refl _) ⟨by omega,by omega⟩ ?_
  rintro j nx ⟨h1,h2⟩ hnx
  by_cases hj:j < c.H.toNat
  ·have c5:=c2 ((j:Int)+1)
   have c6:=c3 ((j:Int)+1)
   have hgo : (!b.compl c ((j : Int) + 1) h || ansB c b h ((j : Int) + 1)) = true → j + 1 ≤ c.H.toNat ∧ ∀ k, k < j + 1 → (!b.compl c ((k : Int) + 1) h || ansB c b h ((k : Int) + 1)) = true := fun hq => ⟨by omega, fun k hk => by
    by_cases e:k = j
    ·subst e;exact hq
    ·exact h2 k (by omega)⟩
   have hst:(!b.compl c ((j:Int)+1) h || ansB c b h ((j:Int)+1)) = false→((rngH c.H.toNat).all fun j=>!b.compl c j h || ansB c b h j) = false:=fun hq=>by
    rw [Bool.eq_false_iff,ne_eq,rngH_all]
    intro h3
    have:=h3 j hj
    rw [hq] at this;cases this
   clear h2 c2 c3
   cases hcm:b.compl c ((j:Int)+1) h
   ·rw [hcm] at c5
    have hg:=hgo (by rw [hcm];rfl)
    clear hgo hst c4 c6
    refine W.run ?_
    exact W.kl (j+1) rfl (HS.refl _) (by omega) hg (by omega)
   ·rw [hcm] at c5
    by_cases hn:b.ans c h ((j:Int)+1) < 0
    ·have hg := hst (by rw [hcm, ansB, ans_none hn]; rfl)
     rw [hg]
     clear hgo hst c4
     refine W.run ?_
     rfl
    ·obtain ⟨i, hi⟩ : ∃ i : Nat, b.ans c h ((j : Int) + 1) = i := ⟨(b.ans c h ((j : Int) + 1)).toNat, by omega⟩
     obtain ⟨hil,hq,hl⟩:=ans_at hi
     have c7:=c4 i hil (ans_len hq)
     rw [right_ans hil hq hl] at c7
     rw [hi] at c6
     clear c4 hq hl
     cases hab:ansB c b h ((j:Int)+1)
     ·have hg := hst (by rw [hcm, hab]; rfl)
      rw [hg]
      rw [hab] at c7
      clear hgo hst
      refine W.run ?_
      rfl
     ·rw [hab] at c7
      have hg:=hgo (by rw [hcm,hab];rfl)
      clear hgo hst
      refine W.run ?_
      exact W.kl (j+1) rfl (HS.refl _) (by omega) hg (by omega)
  ·have hj2 : j = c.H.toNat := by omega
   subst hj2
   rw [rngH_all.2 h2]
   clear h2 c2 c3 c4
   refine W.run ?_
   rfl
theorem fits_at {most:Int} {b:Brd}:b.fits most = true↔∀ k,k < 4→okL most (b.at k) = true:=by
 simp only [Brd.fits,Bool.and_eq_true]
 constructor
 ·rintro ⟨⟨⟨h0,h1⟩,h2⟩,h3⟩ k hk
  match k with
  | 0=>exact h0
  | 1=>exact h1
  | 2=>exact h2
  | 3=>exact h3
  | k+4=>omega
 ·intro h
  exact ⟨⟨⟨h 0 (by omega),h 1 (by omega)⟩,h 2 (by omega)⟩,h 3 (by omega)⟩
theorem okL_all {most:Int} {l:List Ln} (h1:(l.length:Int)≤most) (h:∀ x∈l,¬ 64 < x.nums.length):okL most l = true:=by
 unfold okL
 rw [decide_eq_true h1,Bool.true_and,Bool.not_eq_true',List.any_eq_false]
 intro x hx;rw [decide_eq_true_eq];exact h x hx
theorem lost_any {lost:List (Int × Int)} {a b:Int}:lost.any (lstQ a b) = true↔∃ p∈lost,p.1 = a∧p.2 = b:=by
 simp only [List.any_eq_true,lstQ,Bool.and_eq_true,decide_eq_true_eq]
 exact ⟨fun ⟨p,h,e1,e2⟩=>⟨p,h,e1.symm,e2.symm⟩,fun ⟨p,h,e1,e2⟩=>⟨p,h,e1.symm,e2.symm⟩⟩
@[go_sem] theorem losC_0:∀ {l:List (Int × Int)} {i:Nat} (h:i < l.length),(losC l)[i * 2]? = some (V.int .i64 l[i].1)
 | p::l,0,_=>rfl
 | p::l,i+1,h=>by
  have:=losC_0 (l:=l) (i:=i) (by simpa using h)
  rw [show (i+1) * 2 = i * 2+2 by omega]
  simpa [losC] using this
@[go_sem] theorem losC_1:∀ {l:List (Int × Int)} {i:Nat} (h:i < l.length),(losC l)[i * 2+1]? = some (V.int .i64 l[i].2)
 | p::l,0,_=>rfl
 | p::l,i+1,h=>by
  have:=losC_1 (l:=l) (i:=i) (by simpa using h)
  rw [show (i+1) * 2+1 = i * 2+1+2 by omega]
  simpa [losC] using this
set_option maxRecDepth 10000 in
theorem k60 (L:List (Int × Int)) (hL:L.length < 2 ^ 40) (a b:Int):PureC Tryz.prog 60 [losV L,.int .i64 a,.int .i64 b] (fun r=>r = .bool (L.any (lstQ a b))):=by
 refine pureC_of_wp .x mixed ok60 rfl ?_
 unfold c60
 dsimp only [argE]
 refine W.run ?_
 refine W.lp (fun i:Nat=>[(0,losV L),(1,.int .i64 a),(2,.int .i64 b),(7,.int .i64 (i:Int))]) (fun _ _=>none) (fun i=>i≤L.length∧∀ p∈L.take i,¬ (p.1 = a∧p.2 = b)) (fun i=>L.length - i) 0 rfl (HS.refl _) ⟨by omega,by simp⟩ ?_
 rintro i nx ⟨h1,h2⟩ hnx
 by_cases hi:i < L.length
 ·have hgo : ¬ (L[i].1 = a ∧ L[i].2 = b) → i + 1 ≤ L.length ∧ ∀ p ∈ L.take (i + 1), ¬ (p.1 = a ∧ p.2 = b) := fun hq => ⟨by omega, fun x hx => by
   rw [← List.take_append_getElem hi,List.mem_append,List.mem_singleton] at hx
   exact hx.elim (h2 x) (fun e=>e ▸ hq)⟩
  by_cases e1:L[i].1 = a
  ·by_cases e2:L[i].2 = b
   ·rw [lost_any.2 ⟨_,List.getElem_mem hi,e1,e2⟩]
    clear hgo h2
    refine W.run ?_
    rfl
   ·have hg:=hgo (fun h=>e2 h.2)
    clear hgo h2
    refine W.run ?_
    exact W.kl (i+1) rfl (HS.refl _) (by omega) hg (by omega)
  ·have hg:=hgo (fun h=>e1 h.1)
   clear hgo h2
   refine W.run ?_
   exact W.kl (i+1) rfl (HS.refl _) (by omega) hg (by omega)
 ·have hi2 : i = L.length := by omega
  subst hi2
  rw [List.take_length] at h2
  have:L.any (lstQ a b) = false:=by
   rw [Bool.eq_false_iff,ne_eq,lost_any]
   rintro ⟨p,hp,e⟩
   exact h2 p hp e
  rw [this]
  clear h2
  refine W.run ?_
  rfl
set_option maxRecDepth 10000 in
theorem k84 (c:Cf) (hc:c.Ok) (b:Brd) (hb:b.Ok) (inn:Bool):PureC Tryz.prog 84 [c.v,bdV b,.bool inn] (fun r=>r = slI (hallsL c fun h=>if inn then isInM c b h else (b.deal c h).isSome)):=by
 have hr:=hc.rng
 have c1:=fun j=>k68 c hc b hb j
 have c2:=fun j=>k67 c hc b hb j
 clear hc hb
 obtain ⟨q,hq⟩:∃ q:Int→Bool,q = fun h=>if inn then isInM c b h else (b.deal c h).isSome:=⟨_,rfl⟩
 rw [← hq]
 refine pureC_of_wp .x mixed ok84 rfl ?_
 unfold c84 hallsL
 dsimp only [argE,Cf.v,cfgV,bdV]
 refine W.run ?_
 refine W.lp (fun j:Nat=>[(2,.bool inn),(3,.ptr 0 0 0),(4,.ptr 8 0 0),(7,.ref 24 ((rngH j).filter q).length 0 ((rngH j).filter q).length),(8,.int .i64 ((j:Int)+1))]) (fun j=>(HB c b).put 24 { cells:=((rngH j).filter q).map (V.int .i64),sz:=1,ver:=((rngH j).filter q).length,nl:=if ((rngH j).filter q).length = 0 then 1 else 0 }) (fun j=>j≤c.H.toNat) (fun j=>c.H.toNat - j) 0 rfl (HS.refl _) (by omega) ?_
 rintro j nx h1 hnx
 have hle:((rngH j).filter q).length≤j:=by
  have:=List.length_filter_le q (rngH j)
  rwa [rngH_len] at this
 by_cases hj:j < c.H.toNat
 ·have c3:=c1 ((j:Int)+1)
  have c4:=c2 ((j:Int)+1)
  have hs:(rngH (j+1)).filter q = (rngH j).filter q++if q ((j:Int)+1) then [(j:Int)+1] else []:=by
   rw [rngH_succ,List.filter_append]
   congr 1
   cases hqj:q ((j:Int)+1) <;> simp [hqj]
  have hqj:q ((j:Int)+1) = if inn then isInM c b ((j:Int)+1) else (b.deal c ((j:Int)+1)).isSome:=by rw [hq]
  clear hq c1 c2
  generalize (rngH j).filter q = L at hs hle ⊢
  generalize isInM c b ((j:Int)+1) = u at c4 hqj
  have hfin:q ((j:Int)+1) = true→(rngH (j+1)).filter q = L++[(j:Int)+1]:=fun e=>by rw [hs,e];rfl
  have hfin2:q ((j:Int)+1) = false→(rngH (j+1)).filter q = L:=fun e=>by rw [hs,e];simp
  generalize b.deal c ((j:Int)+1) = dl at c3 hqj
  clear hs
  cases inn
  ·cases dl with
   | none =>
    have hf:=hfin2 (by rw [hqj];rfl)
    dsimp only [dealV] at c3
    clear hfin hfin2 hqj
    refine W.run ?_
    refine W.kl (j+1) ?_ ?_ (by omega) (by omega) (by omega)
    ·rw [hf];rfl
    ·rw [hf];exact HS.refl _
   | some A =>
    have hf:=hfin (by rw [hqj];rfl)
    dsimp only [dealV] at c3
    clear hfin hfin2 hqj
    refine W.run ?_
    refine W.kl (j+1) ?_ ?_ (by omega) (by omega) (by omega)
    ·rw [hf,List.length_append,List.length_singleton];rfl
    ·rw [hf,List.length_append,List.length_singleton,if_neg (by omega),List.map_append];exact HS.skip (HS.refl _) (by simp only [Hp.put];repeat (rw [if_neg (by omega)])) _
  ·cases dl with
   | none =>
    dsimp only [dealV] at c3
    cases u
    ·have hf := hfin2 (by rw [hqj]; rfl)
     clear hfin hfin2 hqj
     refine W.run ?_
     refine W.kl (j+1) ?_ ?_ (by omega) (by omega) (by omega)
     ·rw [hf];rfl
     ·rw [hf];exact HS.refl _
    ·have hf := hfin (by rw [hqj]; rfl)
     clear hfin hfin2 hqj
     refine W.run ?_
     refine W.kl (j+1) ?_ ?_ (by omega) (by omega) (by omega)
     ·rw [hf,List.length_append,List.length_singleton];rfl
     ·rw [hf,List.length_append,List.length_singleton,if_neg (by omega),List.map_append];exact HS.skip (HS.refl _) (by simp only [Hp.put];repeat (rw [if_neg (by omega)])) _
   | some A =>
    dsimp only [dealV] at c3
    cases u
    ·have hf := hfin2 (by rw [hqj]; rfl)
     clear hfin hfin2 hqj
     refine W.run ?_
     refine W.kl (j+1) ?_ ?_ (by omega) (by omega) (by omega)
     ·rw [hf];rfl
     ·rw [hf];exact HS.refl _
    ·have hf := hfin (by rw [hqj]; rfl)
     clear hfin hfin2 hqj
     refine W.run ?_
     refine W.kl (j+1) ?_ ?_ (by omega) (by omega) (by omega)
     ·rw [hf,List.length_append,List.length_singleton];rfl
     ·rw [hf,List.length_append,List.length_singleton,if_neg (by omega),List.map_append];exact HS.skip (HS.refl _) (by simp only [Hp.put];repeat (rw [if_neg (by omega)])) _
 ·have hj2 : j = c.H.toNat := by omega
  subst hj2
  clear c1 c2 hq
  generalize (rngH c.H.toNat).filter q = L at hle ⊢
  refine W.run ?_
  rfl
end Go.Dp
