import Derived.Test.YtlbjgnkjicifhaaGreatDwC9
import Derived.Test.YtlbjgnkjicifhaaGreatDwC24
namespace Go.Dp
open Go.RowKit Go.Proofs
attribute [local irreducible] wp wpOps wpOp1 CallW CallT kSeq kBlk kLoop kReg retP retR kAsg kRound kRf kCut kItr kItr2
set_option linter.unusedVariables false
set_option linter.unusedSimpArgs false
theorem k167 (c:Cf) (h:Int):PureC Tryz.prog 167 [c.v,.int .i64 h] (fun r=>r = .bool (isHallB c.H h)):=by
 refine pureC_of_wp .x mixed ok167 rfl ?_
 unfold c167 isHallB
 dsimp only [argE,Cf.v,cfgV]
 by_cases h1:1≤h
 ·by_cases h2:h≤c.H
  ·rw [decide_eq_true (⟨h1,h2⟩:1≤h∧h≤c.H)]
   refine W.run ?_
   simp only [h2,decide_true]
  ·rw [decide_eq_false (fun e=>h2 e.2:¬ (1≤h∧h≤c.H))]
   refine W.run ?_
   simp only [h2,decide_false]
 ·rw [decide_eq_false (fun e=>h1 e.1:¬ (1≤h∧h≤c.H))]
  refine W.run ?_
  rfl
def cntR (c:Cf) (x:Ln) (kind:Int):Bool:=if kind = 1∨kind = 4 then cntB c.H x kind (c.B+1) false else if kind = 2 then cntB c.H x 2 0 true else cntB c.H x kind 1 true
set_option maxRecDepth 10000 in
theorem k123 (c:Cf) (hc:c.Ok) (x:Ln) (hx:x.nums.length < 2 ^ 40) (kind:Int):PureC Tryz.prog 123 [c.v,.agg (lnK x),.int .i64 kind] (fun r=>r = .bool (cntR c x kind)):=by
 have hr:=hc.rng
 have c1:=k167 c x.hall
 have c2:=k167 c x.other
 clear hc
 refine pureC_of_wp .x mixed ok123 rfl ?_
 unfold c123 cntR cntB
 dsimp only [argE,Cf.v,cfgV,lnK]
 by_cases hk:x.kind = kind
 case neg =>
  rw [decide_eq_false hk]
  have hk2:kind = 2→¬ x.kind = 2:=fun e=>e ▸ hk
  refine W.run ?_
  simp only [Bool.false_and]
  split
  ·rfl
  ·split
   ·rename_i e;rw [decide_eq_false (hk2 e)];rfl
   ·rfl
 subst hk
 cases hh:isHallB c.H x.hall
 ·rw [hh] at c1
  refine W.run ?_
  simp
 rw [hh] at c1
 by_cases h1:x.kind = 1
 ·rw [if_pos (.inl h1)]
  refine W.run ?_
  simp
 by_cases h4:x.kind = 4
 ·rw [if_pos (.inr h4)]
  refine W.run ?_
  simp
 rw [if_neg (by omega)]
 by_cases h2:x.kind = 2
 ·rw [if_pos h2]
  cases ho:isHallB c.H x.other
  ·rw [ho] at c2
   refine W.run ?_
   simp
  rw [ho] at c2
  by_cases he:x.other = x.hall
  ·refine W.run ?_
   simp [he]
  ·refine W.run ?_
   simp [he,h2,Int.natCast_eq_zero]
 rw [if_neg h2]
 cases ho:isHallB c.H x.other
 ·rw [ho] at c2
  refine W.run ?_
  simp
 rw [ho] at c2
 by_cases he:x.other = x.hall
 ·refine W.run ?_
  simp [he]
 ·refine W.run ?_
  simp [he]
abbrev HB (c:Cf) (b:Brd):Hp:=(Hp.put (fun _=>none) 0 { cells:=[.int .i64 c.R,.int .i64 c.P,.int .i64 c.G,.int .i64 c.H,.int .i64 c.B,.int .i64 c.K],sz:=6 }).put 8 { cells:=[linV b.d,linV b.c,linV b.a,linV b.r],sz:=4 }
theorem linC_j {l:List Ln} {i j:Nat} (h:i < l.length) (hj:j < 4):(linC l)[i * 4+j]? = (lnK l[i])[j]?:=by
 have e:((linC l).drop (i * 4)).take 4 = lnK l[i]:=linC_get h
 have:=congrArg (fun m=>m[j]?) e
 simp only [List.getElem?_take,hj,if_true,List.getElem?_drop] at this
 exact this
@[go_sem] theorem linC_0 {l:List Ln} {i:Nat} (h:i < l.length):(linC l)[i * 4]? = some (.int .i64 l[i].hall):=linC_j (j:=0) h (by omega)
@[go_sem] theorem linC_1 {l:List Ln} {i:Nat} (h:i < l.length):(linC l)[i * 4+1]? = some (.int .i64 l[i].kind):=linC_j (j:=1) h (by omega)
@[go_sem] theorem linC_2 {l:List Ln} {i:Nat} (h:i < l.length):(linC l)[i * 4+2]? = some (.int .i64 l[i].other):=linC_j (j:=2) h (by omega)
set_option maxRecDepth 10000 in
theorem k121 (c:Cf) (hc:c.Ok) (b:Brd) (hb:b.Ok) (h:Int):PureC Tryz.prog 121 [c.v,bdV b,.int .i64 h] (fun r=>r = .int .i64 (b.first c h)):=by
 have hbl:=hb.1.1
 have hbd:=hb.1.2
 clear hb
 refine pureC_of_wp .x mixed ok121 rfl ?_
 unfold c121 Brd.first
 dsimp only [argE,Cf.v,cfgV,bdV]
 refine W.run ?_
 refine W.lp (fun i:Nat=>[(2,.int .i64 h),(3,.ptr 0 0 0),(4,.ptr 8 0 0),(7,.int .i64 (i:Int))]) (fun _=>HB c b) (fun i=>i≤b.d.length∧∀ x∈b.d.take i,qDeal c h x = false) (fun i=>b.d.length - i) 0 rfl (HS.refl _) ⟨by omega,by simp⟩ ?_
 rintro i nx ⟨h1,h2⟩ hnx
 by_cases hi:i < b.d.length
 ·have c1 := k123 c hc b.d[i] (by have := (hbd b.d[i] (List.getElem_mem hi)).1; omega) 1
  have hcn:cntR c b.d[i] 1 = cntB c.H b.d[i] 1 (c.B+1) false:=by rw [cntR,if_pos (.inl rfl)]
  rw [hcn] at c1
  have hgo:qDeal c h b.d[i] = false→i+1≤b.d.length∧∀ x∈b.d.take (i+1),qDeal c h x = false:=fun hq=>⟨by omega,fun x hx=>(mem_take_succ hi hx).elim (h2 x) (fun e=>e ▸ hq)⟩
  have hst:qDeal c h b.d[i] = true→fstI (qDeal c h) b.d = i:=fun hq=>fstI_hit hi h2 hq
  clear h2 hc hbd hcn
  cases hcnt:cntB c.H b.d[i] 1 (c.B+1) false
  ·rw [hcnt] at c1
   have hg:=hgo (by rw [qDeal,hcnt];rfl)
   clear hgo hst
   refine W.run ?_
   exact W.kl (i+1) rfl (HS.refl _) (by omega) hg (by omega)
  rw [hcnt] at c1
  by_cases hhall:b.d[i].hall = h
  ·have hg := hst (by rw [qDeal, hcnt, decide_eq_true hhall]; rfl)
   clear hgo hst
   rw [hg]
   refine W.run ?_
   rfl
  ·have hg := hgo (by rw [qDeal, decide_eq_false hhall, Bool.and_false])
   clear hgo hst
   refine W.run ?_
   exact W.kl (i+1) rfl (HS.refl _) (by omega) hg (by omega)
 ·have hi2 : i = b.d.length := by omega
  subst hi2
  rw [List.take_length] at h2
  rw [fstI_no h2]
  clear h2
  refine W.run ?_
  rfl
def dealV:Option (List Int)→V
 | some A=>.tup [slI A,.bool true]
 | none=>.tup [.nils,.bool false]
theorem deal_first {c:Cf} {b:Brd} {h:Int} (hf:b.first c h < 0):b.deal c h = none:=by
 have:=(fstI_find _ _).1 hf
 unfold Brd.deal dealL
 rw [this]
theorem deal_at {c:Cf} {b:Brd} {h:Int} {i:Nat} (hf:b.first c h = i):∃ hi:i < b.d.length,qDeal c h b.d[i] = true∧b.deal c h = if b.d[i].nums.all (hasB c.R c.P) then some b.d[i].nums else none:=by
 obtain ⟨h1,h2⟩:=fstI_get (q:=qDeal c h) (l:=b.d) (show 0≤b.first c h by omega)
 change (b.first c h).toNat < b.d.length at h1
 have e:(fstI (qDeal c h) b.d).toNat = i:=by
  show (b.first c h).toNat = i
  omega
 have hi:i < b.d.length:=by omega
 refine ⟨hi,?_⟩
 have h3:b.d.find? (qDeal c h) = some b.d[i]:=by
  rw [h2];simp only [e]
 refine ⟨List.find?_some h3,?_⟩
 unfold Brd.deal dealL
 rw [h3]
set_option maxRecDepth 10000 in
theorem k68 (c:Cf) (hc:c.Ok) (b:Brd) (hb:b.Ok) (h:Int):PureC Tryz.prog 68 [c.v,bdV b,.int .i64 h] (fun r=>r = dealV (b.deal c h)):=by
 have hbl:=hb.1.1
 have hbd:=hb.1.2
 have c1:=k121 c hc b hb h
 have hg:=hc.1
 clear hb
 refine pureC_of_wp (.l [.x,.x]) mixed ok68 rfl ?_
 unfold c68
 dsimp only [argE,Cf.v,cfgV,bdV]
 by_cases hf:b.first c h < 0
 ·rw [deal_first hf]
  refine W.run ?_
  rfl
 obtain ⟨i,hi⟩:∃ i:Nat,b.first c h = i:=⟨(b.first c h).toNat,by omega⟩
 obtain ⟨hil,hq,hd⟩:=deal_at hi
 rw [hi] at c1
 rw [hd]
 have hl:=(hbd b.d[i] (List.getElem_mem hil)).1
 clear hd hq hi hf hbd hc
 refine W.run ?_
 refine W.lp (fun j:Nat=>[(3,.ptr 0 0 0),(9,slI b.d[i].nums),(10,.int .i64 (j:Int))]) (fun _=>HB c b) (fun j=>j≤b.d[i].nums.length∧∀ x∈b.d[i].nums.take j,hasB c.R c.P x = true) (fun j=>b.d[i].nums.length - j) 0 rfl (HS.refl _) ⟨by omega,by simp⟩ ?_
 generalize b.d[i].nums = A at hl ⊢
 rintro j nx ⟨h1,h2⟩ hnx
 by_cases hj:j < A.length
 ·have c2:=k122 hg A[j]
  cases hh:hasB c.R c.P A[j]
  ·rw [hh] at c2
   have:A.all (hasB c.R c.P) = false:=by
    rw [Bool.eq_false_iff,ne_eq,List.all_eq_true]
    intro h3
    rw [h3 _ (List.getElem_mem hj)] at hh;cases hh
   rw [this]
   clear h2
   refine W.run ?_
   rfl
  ·rw [hh] at c2
   have h3:∀ x∈A.take (j+1),hasB c.R c.P x = true:=fun x hx=>by
    rw [← List.take_append_getElem hj,List.mem_append,List.mem_singleton] at hx
    exact hx.elim (h2 x) (fun e=>e ▸ hh)
   clear h2
   refine W.run ?_
   exact W.kl (j+1) rfl (HS.refl _) (by omega) ⟨by omega,h3⟩ (by omega)
 ·have hj2 : j = A.length := by omega
  subst hj2
  rw [List.take_length] at h2
  rw [List.all_eq_true.2 h2]
  clear h2
  refine W.run ?_
  rfl
set_option maxRecDepth 10000 in
theorem k70 (c:Cf) (hc:c.Ok) (b:Brd) (hb:b.Ok) (h k:Int):PureC Tryz.prog 70 [c.v,bdV b,.int .i64 h,.int .i64 k] (fun r=>r = .bool (b.compl c h k)):=by
 have hbl:=hb.2.1.1
 have hbd:=hb.2.1.2
 have c1:=k68 c hc b hb k
 clear hb
 refine pureC_of_wp .x mixed ok70 rfl ?_
 unfold c70 Brd.compl
 dsimp only [argE,Cf.v,cfgV,bdV]
 cases hd:b.deal c k with
 | none =>
  rw [hd] at c1
  dsimp only [dealV] at c1
  refine W.run ?_
  rfl
 | some A =>
  rw [hd] at c1
  dsimp only [dealV] at c1
  rw [Option.isSome_some,Bool.true_and]
  refine W.run ?_
  clear c1
  refine W.lp (fun i:Nat=>[(2,.int .i64 h),(3,.int .i64 k),(4,.ptr 0 0 0),(5,.ptr 8 0 0),(11,.int .i64 (i:Int))]) (fun _=>HB c b) (fun i=>i≤b.c.length∧∀ x∈b.c.take i,qCompl c h k x = false) (fun i=>b.c.length - i) 0 rfl (HS.refl _) ⟨by omega,by simp⟩ ?_
  rintro i nx ⟨h1,h2⟩ hnx
  by_cases hi:i < b.c.length
  ·have c2 := k123 c hc b.c[i] (by have := (hbd b.c[i] (List.getElem_mem hi)).1; omega) 2
   have hcn:cntR c b.c[i] 2 = cntB c.H b.c[i] 2 0 true:=by rw [cntR,if_neg (by omega),if_pos rfl]
   rw [hcn] at c2
   have hgo:qCompl c h k b.c[i] = false→i+1≤b.c.length∧∀ x∈b.c.take (i+1),qCompl c h k x = false:=fun hq=>⟨by omega,fun x hx=>(mem_take_succ hi hx).elim (h2 x) (fun e=>e ▸ hq)⟩
   have hst:qCompl c h k b.c[i] = true→b.c.any (qCompl c h k) = true:=fun hq=>List.any_eq_true.2 ⟨_,List.getElem_mem hi,hq⟩
   clear h2 hc hbd hcn hd
   cases hcnt:cntB c.H b.c[i] 2 0 true
   ·rw [hcnt] at c2
    have hg:=hgo (by rw [qCompl,hcnt];rfl)
    clear hgo hst
    refine W.run ?_
    exact W.kl (i+1) rfl (HS.skip (HS.refl _) (by simp only [Hp.put];repeat (rw [if_neg (by omega)])) _) (by omega) hg (by omega)
   rw [hcnt] at c2
   by_cases hhall:b.c[i].hall = h
   ·by_cases hoth:b.c[i].other = k
    ·have hg := hst (by rw [qCompl, hcnt, decide_eq_true hhall, decide_eq_true hoth]; rfl)
     clear hgo hst
     rw [hg]
     refine W.run ?_
     rfl
    ·have hg := hgo (by rw [qCompl, decide_eq_false hoth, Bool.and_false])
     clear hgo hst
     refine W.run ?_
     exact W.kl (i+1) rfl (HS.skip (HS.refl _) (by simp only [Hp.put];repeat (rw [if_neg (by omega)])) _) (by omega) hg (by omega)
   ·have hg := hgo (by rw [qCompl, decide_eq_false hhall, Bool.and_false, Bool.false_and])
    clear hgo hst
    refine W.run ?_
    exact W.kl (i+1) rfl (HS.skip (HS.refl _) (by simp only [Hp.put];repeat (rw [if_neg (by omega)])) _) (by omega) hg (by omega)
  ·have hi2 : i = b.c.length := by omega
   subst hi2
   rw [List.take_length] at h2
   have:b.c.any (qCompl c h k) = false:=by
    rw [List.any_eq_false];intro x hx;rw [h2 x hx];simp
   rw [this]
   clear h2
   refine W.run ?_
   rfl
set_option maxRecDepth 10000 in
theorem k71 (c:Cf) (hc:c.Ok) (b:Brd) (hb:b.Ok) (h k:Int):PureC Tryz.prog 71 [c.v,bdV b,.int .i64 h,.int .i64 k] (fun r=>r = .int .i64 (b.ans c h k)):=by
 have hbl:=hb.2.2.1.1
 have hbd:=hb.2.2.1.2
 clear hb
 refine pureC_of_wp .x mixed ok71 rfl ?_
 unfold c71 Brd.ans
 dsimp only [argE,Cf.v,cfgV,bdV]
 refine W.run ?_
 refine W.lp (fun i:Nat=>[(2,.int .i64 h),(3,.int .i64 k),(4,.ptr 0 0 0),(5,.ptr 8 0 0),(9,.int .i64 (i:Int))]) (fun _=>HB c b) (fun i=>i≤b.a.length∧∀ x∈b.a.take i,qAns c h k x = false) (fun i=>b.a.length - i) 0 rfl (HS.refl _) ⟨by omega,by simp⟩ ?_
 rintro i nx ⟨h1,h2⟩ hnx
 by_cases hi:i < b.a.length
 ·have c2 := k123 c hc b.a[i] (by have := (hbd b.a[i] (List.getElem_mem hi)).1; omega) 3
  have hcn:cntR c b.a[i] 3 = cntB c.H b.a[i] 3 1 true:=by rw [cntR,if_neg (by omega),if_neg (by omega)]
  rw [hcn] at c2
  have hgo:qAns c h k b.a[i] = false→i+1≤b.a.length∧∀ x∈b.a.take (i+1),qAns c h k x = false:=fun hq=>⟨by omega,fun x hx=>(mem_take_succ hi hx).elim (h2 x) (fun e=>e ▸ hq)⟩
  have hst:qAns c h k b.a[i] = true→fstI (qAns c h k) b.a = i:=fun hq=>fstI_hit hi h2 hq
  clear h2 hc hbd hcn
  cases hcnt:cntB c.H b.a[i] 3 1 true
  ·rw [hcnt] at c2
   have hg:=hgo (by rw [qAns,hcnt];rfl)
   clear hgo hst
   refine W.run ?_
   exact W.kl (i+1) rfl (HS.skip (HS.refl _) (by simp only [Hp.put];repeat (rw [if_neg (by omega)])) _) (by omega) hg (by omega)
  rw [hcnt] at c2
  by_cases hhall:b.a[i].hall = h
  ·by_cases hoth:b.a[i].other = k
   ·have hg := hst (by rw [qAns, hcnt, decide_eq_true hhall, decide_eq_true hoth]; rfl)
    clear hgo hst
    rw [hg]
    refine W.run ?_
    rfl
   ·have hg := hgo (by rw [qAns, decide_eq_false hoth, Bool.and_false])
    clear hgo hst
    refine W.run ?_
    exact W.kl (i+1) rfl (HS.skip (HS.refl _) (by simp only [Hp.put];repeat (rw [if_neg (by omega)])) _) (by omega) hg (by omega)
  ·have hg := hgo (by rw [qAns, decide_eq_false hhall, Bool.and_false, Bool.false_and])
   clear hgo hst
   refine W.run ?_
   exact W.kl (i+1) rfl (HS.skip (HS.refl _) (by simp only [Hp.put];repeat (rw [if_neg (by omega)])) _) (by omega) hg (by omega)
 ·have hi2 : i = b.a.length := by omega
  subst hi2
  rw [List.take_length] at h2
  rw [fstI_no h2]
  clear h2
  refine W.run ?_
  rfl
set_option maxRecDepth 10000 in
theorem k72 (c:Cf) (hc:c.Ok) (b:Brd) (hb:b.Ok) (i:Nat) (hi:i < b.a.length) (hn:b.a[i].nums.length = 1):PureC Tryz.prog 72 [c.v,bdV b,.int .i64 (i:Int)] (fun r=>r = .bool (fitsM c b b.a[i].hall b.a[i].other (b.a[i].nums.headD 0))):=by
 have hbl:=hb.2.2.1.1
 have c1:=k68 c hc b hb b.a[i].hall
 have hdo:=fun A (e:b.deal c b.a[i].hall = some A)=>deal_ok hb e
 have hg:=hc.1
 refine pureC_of_wp .x mixed ok72 rfl ?_
 unfold c72 fitsM
 dsimp only [argE,Cf.v,cfgV,bdV]
 rw [headD_get (by omega)]
 cases hd:b.deal c b.a[i].hall with
 | none =>
  rw [hd] at c1
  dsimp only [dealV] at c1
  clear hdo
  refine W.run ?_
  rfl
 | some A =>
  rw [hd] at c1
  dsimp only [dealV] at c1
  have hA:=hdo A hd
  have c2:=k69 hg A A.length rfl (by omega) hA.2.1 b.a[i].other b.a[i].nums[0]
  have hAl:=hA.2.2.2
  clear hdo hA hb hc
  refine W.run ?_
  rfl
theorem ans_at {c:Cf} {b:Brd} {h k:Int} {i:Nat} (hf:b.ans c h k = i):∃ hi:i < b.a.length,qAns c h k b.a[i] = true∧ansL c b h k = some b.a[i]:=by
 obtain ⟨h1,h2⟩:=fstI_get (q:=qAns c h k) (l:=b.a) (show 0≤b.ans c h k by omega)
 change (b.ans c h k).toNat < b.a.length at h1
 have e:(fstI (qAns c h k) b.a).toNat = i:=by
  show (b.ans c h k).toNat = i
  omega
 have hi:i < b.a.length:=by omega
 refine ⟨hi,?_⟩
 have h3:b.a.find? (qAns c h k) = some b.a[i]:=by
  rw [h2];simp only [e]
 exact ⟨List.find?_some h3,h3⟩
theorem ans_none {c:Cf} {b:Brd} {h k:Int} (hf:b.ans c h k < 0):ansL c b h k = none:=(fstI_find _ _).1 hf
theorem right_ans {c:Cf} {b:Brd} {h k:Int} {i:Nat} (hi:i < b.a.length) (hq:qAns c h k b.a[i] = true) (hl:ansL c b h k = some b.a[i]):fitsM c b b.a[i].hall b.a[i].other (b.a[i].nums.headD 0) = ansB c b h k:=by
 simp only [qAns,Bool.and_eq_true,decide_eq_true_eq] at hq
 unfold ansB
 rw [hl,hq.1.2,hq.2]
set_option maxRecDepth 10000 in
theorem k67 (c:Cf) (hc:c.Ok) (b:Brd) (hb:b.Ok) (h:Int):PureC Tryz.prog 67 [c.v,bdV b,.int .i64 h] (fun r=>r = .bool (isInM c b h)):=by
 have hr:=hc.rng
 have c1:=k68 c hc b hb h
 have c2:=fun j=>k70 c hc b hb j h
 have c3:=fun j=>k71 c hc b hb h j
 have c4:=fun i hi hn=>k72 c hc b hb i hi hn
 have hal:=hb.2.2.1.1
 clear hc hb
 refine pureC_of_wp .x mixed ok67 rfl ?_
 unfold c67 isInM
 dsimp only [argE,Cf.v,cfgV,bdV]
 cases hd:b.deal c h with
 | none =>
  rw [hd] at c1
  dsimp only [dealV] at c1
  clear c2 c3 c4
  refine W.run ?_
  rfl
 | some A =>
  rw [hd] at c1
  dsimp only [dealV] at c1
  rw [Option.isSome_some,Bool.true_and]
  refine W.run ?_
  clear c1 hd
  refine W.lp (fun j:Nat=>[(2,.int .i64 h),(3,.ptr 0 0 0),(4,.ptr 8 0 0),(9,.int .i64 ((j:Int)+1))]) (fun _=>HB c b) (fun j=>j≤c.H.toNat∧∀ k,k < j→(!b.compl c ((k:Int)+1) h || ansB c b h ((k:Int)+1)) = true) (fun j=>c.H.toNat - j) 0 rfl (HS.refl _) ⟨by omega,by omega⟩ ?_
  rintro j nx ⟨h1,h2⟩ hnx
  by_cases hj:j < c.H.toNat
  ·have c5:=c2 ((j:Int)+1)
   have c6:=c3 ((j:Int)+1)
   have hgo : (!b.compl c ((j : Int) + 1) h || ansB c b h ((j : Int) + 1)) = true → j + 1 ≤ c.H.toNat ∧ ∀ k, k < j + 1 → (!b.compl c ((k : Int) + 1) h || ansB c b h ((k : Int) + 1)) = true := fun hq => ⟨by omega, fun k hk => by
    by_cases e:k = j
    ·subst e;exact hq
    ·exact h2 k (by omega)⟩
   have hst:(!b.compl c ((j:Int)+1) h || ansB c b h ((j:Int)+1)) = false→((rngH c.H.toNat).all fun j=>!b.compl c j h || ansB c b h j) = false:=fun hq=>by
    rw [Bool.eq_false_iff,ne_eq,rngH_all]
    intro h3
    have:=h3 j hj
    rw [hq] at this;cases this
   clear h2 c2 c3
   cases hcm:b.compl c ((j:Int)+1) h
   ·rw [hcm] at c5
    have hg:=hgo (by rw [hcm];rfl)
    clear hgo hst c4 c6
    refine W.run ?_
    exact W.kl (j+1) rfl (HS.refl _) (by omega) hg (by omega)
   ·rw [hcm] at c5
    by_cases hn:b.ans c h ((j:Int)+1) < 0
    ·have hg := hst (by rw [hcm, ansB, ans_none hn]; rfl)
     rw [hg]
     clear hgo hst c4
     refine W.run ?_
     rfl
    ·obtain ⟨i, hi⟩ : ∃ i : Nat, b.ans c h ((j : Int) + 1) = i := ⟨(b.ans c h ((j : Int) + 1)).toNat, by omega⟩
     obtain ⟨hil,hq,hl⟩:=ans_at hi
     have c7:=c4 i hil (ans_len hq)
     rw [right_ans hil hq hl] at c7
     rw [hi] at c6
     clear c4 hq hl
     cases hab:ansB c b h ((j:Int)+1)
     ·have hg := hst (by rw [hcm, hab]; rfl)
      rw [hg]
      rw [hab] at c7
      clear hgo hst
      refine W.run ?_
      rfl
     ·rw [hab] at c7
      have hg:=hgo (by rw [hcm,hab];rfl)
      clear hgo hst
      refine W.run ?_
      exact W.kl (j+1) rfl (HS.refl _) (by omega) hg (by omega)
  ·have hj2 : j = c.H.toNat := by omega
   subst hj2
   rw [rngH_all.2 h2]
   clear h2 c2 c3 c4
   refine W.run ?_
   rfl
theorem fits_at {most:Int} {b:Brd}:b.fits most = true↔∀ k,k < 4→okL most (b.at k) = true:=by
 simp only [Brd.fits,Bool.and_eq_true]
 constructor
 ·rintro ⟨⟨⟨h0,h1⟩,h2⟩,h3⟩ k hk
  match k with
  | 0=>exact h0
  | 1=>exact h1
  | 2=>exact h2
  | 3=>exact h3
  | k+4=>omega
 ·intro h
  exact ⟨⟨⟨h 0 (by omega),h 1 (by omega)⟩,h 2 (by omega)⟩,h 3 (by omega)⟩
theorem okL_long {most:Int} {l:List Ln} (h:most < l.length):okL most l = false:=by
 unfold okL;rw [decide_eq_false (by omega)];rfl
theorem okL_any {most:Int} {l:List Ln} {x:Ln} (hx:x∈l) (h:64 < x.nums.length):okL most l = false:=by
 unfold okL
 have:(l.any fun x=>decide (64 < x.nums.length)) = true:=List.any_eq_true.2 ⟨x,hx,decide_eq_true h⟩
 rw [this];simp
theorem okL_all {most:Int} {l:List Ln} (h1:(l.length:Int)≤most) (h:∀ x∈l,¬ 64 < x.nums.length):okL most l = true:=by
 unfold okL
 rw [decide_eq_true h1,Bool.true_and,Bool.not_eq_true',List.any_eq_false]
 intro x hx;rw [decide_eq_true_eq];exact h x hx
set_option maxRecDepth 10000 in
theorem k17 (b:Brd) (hb:b.Ok) (most:Int):PureC Tryz.prog 17 [bdV b,.int .i64 most] (fun r=>r = .int .i64 (if b.fits most then 0 else 2)):=by
 have hat:=at_ok hb
 obtain ⟨E,hE⟩:∃ E:Int,E = if b.fits most then 0 else 2:=⟨_,rfl⟩
 have h2:∀ k,k < 4→okL most (b.at k) = false→E = 2:=fun k hk hn=>by
  rw [hE,if_neg]
  intro hf
  rw [fits_at.1 hf k hk] at hn;cases hn
 have h0:(∀ k,k < 4→okL most (b.at k) = true)→E = 0:=fun h=>by rw [hE,if_pos (fits_at.2 h)]
 rw [← hE]
 clear hE hb
 refine pureC_of_wp .x mixed ok17 rfl ?_
 unfold c17
 dsimp only [argE,bdV]
 refine W.run ?_
 refine W.lp (fun i:Nat=>[(1,.int .i64 most),(5,.ptr 88 0 0),(6,.int .i64 (i:Int))]) (fun _=>Hp.put (fun _=>none) 88 { cells:=[linV b.d,linV b.c,linV b.a,linV b.r],sz:=4 }) (fun i=>i≤4∧∀ k,k < i→okL most (b.at k) = true) (fun i=>4 - i) 0 rfl (HS.p (HS.emp _)) ⟨by omega,by omega⟩ ?_
 rintro i nx ⟨h1,h3⟩ hnx
 by_cases hi:i < 4
 ·have hl:=hat i
  have h4:=h2 i hi
  have h5 : okL most (b.at i) = true → i + 1 ≤ 4 ∧ ∀ k, k < i + 1 → okL most (b.at k) = true := fun hq => ⟨by omega, fun k hk => by
   by_cases e:k = i
   ·subst e;exact hq
   ·exact h3 k (by omega)⟩
  clear h3 h2 h0 hat
  have hat2:=hl.1
  by_cases hlen:most < (b.at i).length
  ·rw [h4 (okL_long hlen)]
   clear h4 h5
   refine W.run ?_
   rw [lists_at]
   refine W.run ?_
   rfl
  refine W.run ?_
  rw [lists_at]
  refine W.run ?_
  refine W.lp (fun j:Nat=>[(1,.int .i64 most),(5,.ptr 88 0 0),(6,.int .i64 (i:Int)),(7,.int .i64 (j:Int))]) (fun _=>Hp.put (fun _=>none) 88 { cells:=[linV b.d,linV b.c,linV b.a,linV b.r],sz:=4 }) (fun j=>j≤(b.at i).length∧∀ x∈(b.at i).take j,¬ 64 < x.nums.length) (fun j=>(b.at i).length - j) 0 rfl (HS.refl _) ⟨by omega,by simp⟩ ?_
  rintro j nx1 ⟨g1,g2⟩ hnx1
  by_cases hj:j < (b.at i).length
  ·have hx:=(hl.2 _ (List.getElem_mem hj)).1
   by_cases hlg:64 < (b.at i)[j].nums.length
   ·rw [h4 (okL_any (List.getElem_mem hj) hlg)]
    clear h4 h5 g2 hl
    refine W.run ?_
    rw [lists_at]
    refine W.run ?_
    rw [lists_at]
    refine W.run ?_
    rfl
   ·have g3:∀ x∈(b.at i).take (j+1),¬ 64 < x.nums.length:=fun x hx=>(mem_take_succ hj hx).elim (g2 x) (fun e=>e ▸ hlg)
    clear h4 h5 g2 hl
    refine W.run ?_
    rw [lists_at]
    refine W.run ?_
    rw [lists_at]
    refine W.run ?_
    exact W.kl (j+1) rfl (HS.refl _) (by omega) ⟨by omega,g3⟩ (by omega)
  ·have hj2 : j = (b.at i).length := by omega
   rw [hj2,List.take_length] at g2
   have g3:=h5 (okL_all (by omega) g2)
   clear h4 h5 g2 hl
   refine W.run ?_
   rw [lists_at]
   refine W.run ?_
   exact W.kl (i+1) rfl (HS.refl _) (by omega) g3 (by omega)
 ·have hi2 : i = 4 := by omega
  subst hi2
  rw [h0 h3]
  clear h3 h2 h0 hat
  refine W.run ?_
  rfl
theorem lost_any {lost:List (Int × Int)} {a b:Int}:lost.any (lstQ a b) = true↔∃ p∈lost,p.1 = a∧p.2 = b:=by
 simp only [List.any_eq_true,lstQ,Bool.and_eq_true,decide_eq_true_eq]
 exact ⟨fun ⟨p,h,e1,e2⟩=>⟨p,h,e1.symm,e2.symm⟩,fun ⟨p,h,e1,e2⟩=>⟨p,h,e1.symm,e2.symm⟩⟩
@[go_sem] theorem losC_0:∀ {l:List (Int × Int)} {i:Nat} (h:i < l.length),(losC l)[i * 2]? = some (V.int .i64 l[i].1)
 | p::l,0,_=>rfl
 | p::l,i+1,h=>by
  have:=losC_0 (l:=l) (i:=i) (by simpa using h)
  rw [show (i+1) * 2 = i * 2+2 by omega]
  simpa [losC] using this
@[go_sem] theorem losC_1:∀ {l:List (Int × Int)} {i:Nat} (h:i < l.length),(losC l)[i * 2+1]? = some (V.int .i64 l[i].2)
 | p::l,0,_=>rfl
 | p::l,i+1,h=>by
  have:=losC_1 (l:=l) (i:=i) (by simpa using h)
  rw [show (i+1) * 2+1 = i * 2+1+2 by omega]
  simpa [losC] using this
set_option maxRecDepth 10000 in
theorem k60 (L:List (Int × Int)) (hL:L.length < 2 ^ 40) (a b:Int):PureC Tryz.prog 60 [losV L,.int .i64 a,.int .i64 b] (fun r=>r = .bool (L.any (lstQ a b))):=by
 refine pureC_of_wp .x mixed ok60 rfl ?_
 unfold c60
 dsimp only [argE]
 refine W.run ?_
 refine W.lp (fun i:Nat=>[(0,losV L),(1,.int .i64 a),(2,.int .i64 b),(7,.int .i64 (i:Int))]) (fun _ _=>none) (fun i=>i≤L.length∧∀ p∈L.take i,¬ (p.1 = a∧p.2 = b)) (fun i=>L.length - i) 0 rfl (HS.refl _) ⟨by omega,by simp⟩ ?_
 rintro i nx ⟨h1,h2⟩ hnx
 by_cases hi:i < L.length
 ·have hgo : ¬ (L[i].1 = a ∧ L[i].2 = b) → i + 1 ≤ L.length ∧ ∀ p ∈ L.take (i + 1), ¬ (p.1 = a ∧ p.2 = b) := fun hq => ⟨by omega, fun x hx => by
   rw [← List.take_append_getElem hi,List.mem_append,List.mem_singleton] at hx
   exact hx.elim (h2 x) (fun e=>e ▸ hq)⟩
  by_cases e1:L[i].1 = a
  ·by_cases e2:L[i].2 = b
   ·rw [lost_any.2 ⟨_,List.getElem_mem hi,e1,e2⟩]
    clear hgo h2
    refine W.run ?_
    rfl
   ·have hg:=hgo (fun h=>e2 h.2)
    clear hgo h2
    refine W.run ?_
    exact W.kl (i+1) rfl (HS.refl _) (by omega) hg (by omega)
  ·have hg:=hgo (fun h=>e1 h.1)
   clear hgo h2
   refine W.run ?_
   exact W.kl (i+1) rfl (HS.refl _) (by omega) hg (by omega)
 ·have hi2 : i = L.length := by omega
  subst hi2
  rw [List.take_length] at h2
  have:L.any (lstQ a b) = false:=by
   rw [Bool.eq_false_iff,ne_eq,lost_any]
   rintro ⟨p,hp,e⟩
   exact h2 p hp e
  rw [this]
  clear h2
  refine W.run ?_
  rfl
def HpV (B:Hp) (os:List (Nat × Ob)) (lo n:Nat):Hp:=os.foldl (fun H p=>H.put p.1 p.2) B
def BV (os:List (Nat × Ob)) (lo n:Nat):Prop:=(os.map Prod.fst).Nodup∧∀ p∈os,lo < p.1∧p.1 < n
theorem HpV_snoc {B:Hp} {os:List (Nat × Ob)} {lo n n':Nat} {p:Nat × Ob}:HpV B (os++[p]) lo n' = (HpV B os lo n).put p.1 p.2:=by
 unfold HpV;rw [List.foldl_append];rfl
theorem HpV_at0 {i:Nat}:∀ (os:List (Nat × Ob)) (B:Hp),(∀ p∈os,p.1≠i)→os.foldl (fun H p=>H.put p.1 p.2) B i = B i
 | [],B,_=>rfl
 | p::os,B,h=>by
  rw [List.foldl_cons,HpV_at0 os _ fun q hq=>h q (by simp [hq]),put_ne (Ne.symm (h p (by simp)))]
theorem HpV_put0 {i:Nat} {ob:Ob}:∀ (os:List (Nat × Ob)) (B:Hp),(∀ p∈os,p.1≠i)→(os.foldl (fun H p=>H.put p.1 p.2) B).put i ob = os.foldl (fun H p=>H.put p.1 p.2) (B.put i ob)
 | [],B,_=>rfl
 | p::os,B,h=>by
  rw [List.foldl_cons,List.foldl_cons,HpV_put0 os _ fun q hq=>h q (by simp [hq]),put_comm (h p (by simp))]
theorem BV.nil {lo n:Nat}:BV [] lo n:=⟨List.nodup_nil,fun p hp=>by cases hp⟩
section
variable {B:Hp} {os:List (Nat × Ob)} {lo n i:Nat} {ob:Ob}
@[go_sem] theorem HpV_at (hb:BV os lo n) (hi:i≤lo∨n≤i):HpV B os lo n i = B i :=
 HpV_at0 os B fun p hp e=>by have:=hb.2 p hp;omega
@[go_sem] theorem HpV_put (hb:BV os lo n) (hi:i≤lo∨n≤i):(HpV B os lo n).put i ob = HpV (B.put i ob) os lo n :=
 HpV_put0 os B fun p hp e=>by have:=hb.2 p hp;omega
theorem HpV_HS {B':Hp} {n':Nat} (h:HS B B'):HS (HpV B os lo n') (HpV B' os lo n):=by
 unfold HpV
 induction os generalizing B B' with
 | nil=>exact h
 | cons p os ih =>
  rw [List.foldl_cons,List.foldl_cons]
  exact ih fun j x e=>by
   simp only [Hp.put] at e ⊢
   split
   ·rename_i hc;rw [if_pos hc] at e;exact e
   ·rename_i hc;rw [if_neg hc] at e;exact h j x e
theorem HpV_obj (hb:BV os lo n) {p:Nat × Ob} (hp:p∈os):HpV B os lo n p.1 = some p.2:=by
 have hn:=hb.1
 unfold HpV
 clear hb
 induction os generalizing B with
 | nil=>cases hp
 | cons q os ih =>
  have hn':=List.nodup_cons.1 hn
  rw [List.foldl_cons]
  rcases List.mem_cons.1 hp with rfl | hp
  ·rw [HpV_at0 os _ fun r hr e=>hn'.1 (List.mem_map.2 ⟨r,hr,e⟩),put_same]
  ·exact ih hp hn'.2
end
theorem BV.mono {os:List (Nat × Ob)} {lo n n':Nat} (h:BV os lo n) (hn:n≤n'):BV os lo n':=⟨h.1,fun p hp=>by have:=h.2 p hp;omega⟩
theorem BV.snoc {os:List (Nat × Ob)} {lo n n':Nat} {p:Nat × Ob} (h:BV os lo n) (hp:n≤p.1∧p.1 < n') (hlo:lo < n):BV (os++[p]) lo n':=by
 refine ⟨?_,fun q hq=>?_⟩
 ·rw [List.map_append]
  refine List.nodup_append.2 ⟨h.1,by simp,fun a ha b hb=>?_⟩
  obtain ⟨q,hq,rfl⟩:=List.mem_map.1 ha
  have:=h.2 q hq
  simp only [List.map_cons,List.map_nil,List.mem_singleton] at hb
  omega
 ·rcases List.mem_append.1 hq with hq | hq
  ·have:=h.2 q hq;omega
  ·rw [List.mem_singleton.1 hq];omega
def RdL (H:Hp) (p:Ln × V):Prop:=(p.1.kind = 2∧p.2 = .nils)∨(p.1.kind≠2∧∃ id ver z,p.2 = .ref id ver 0 p.1.nums.length∧H id = some { cells:=p.1.nums.map (V.int .i64),sz:=1,ver:=ver,fz:=z })
theorem RdL.mark {H:Hp} {p:Ln × V} {id a:Nat} (h:RdL H p):RdL (H.mark id a) p:=by
 rcases h with h | ⟨h1,id2,ver,z,h2,h3⟩
 ·exact .inl h
 ·refine .inr ⟨h1,id2,ver,?_⟩
  by_cases e:id2 = id
  ·subst e
   exact ⟨max z a,h2,by unfold Hp.mark;rw [h3];simp [Hp.put]⟩
  ·exact ⟨z,h2,by
    unfold Hp.mark
    cases H id with
    | none=>exact h3
    | some ob=>simp only;rw [put_ne e];exact h3⟩
theorem mapS_ints3 {k:Nat} {x:Ln} {l:List V} {H:Hp}:mapS (frz (k+1)) (V.int .i64 x.hall::.int .i64 x.kind::.int .i64 x.other::l) H = (mapS (frz (k+1)) l H).map fun r=>(V.int .i64 x.hall::.int .i64 x.kind::.int .i64 x.other::r.1,r.2):=by
 simp only [mapS]
 have e:∀ n,frz (k+1) (V.int .i64 n) H = some (.int .i64 n,H):=fun n=>rfl
 simp only [e,Option.bind_some]
 cases mapS (frz (k+1)) l H <;> rfl
theorem mapS_lnsC {k:Nat}:∀ (X:List (Ln × V)) (H:Hp),(∀ p∈X,RdL H p)→∃ H',mapS (frz (k+1)) (lnsC X) H = some (linN (X.map Prod.fst),H')∧∀ i,(∀ p∈X,∀ id ver len,p.2 = .ref id ver 0 len→id≠i)→H' i = H i
 | [],H,_=>⟨H,rfl,fun _ _=>rfl⟩
 | (x,v)::X,H,h=>by
  have h0:=h (x,v) (by simp)
  rcases h0 with ⟨h1,h2⟩ | ⟨h1,id,ver,z,h2,h3⟩
  ·dsimp only at h1 h2
   subst h2
   obtain ⟨H',hH',ho⟩:=mapS_lnsC (k:=k) X H fun q hq=>h q (by simp [hq])
   refine ⟨H',?_,fun i hi=>ho i fun q hq=>hi q (by simp [hq])⟩
   show mapS (frz (k+1)) (V.int .i64 x.hall::.int .i64 x.kind::.int .i64 x.other::.nils::lnsC X) H = _
   rw [mapS_ints3,mapS]
   have e:frz (k+1) V.nils H = some (.nils,H):=rfl
   rw [e]
   simp only [Option.bind_some,hH',Option.map_some,List.map_cons,linN,lnsC,lnC,nvL,if_pos h1]
   rfl
  ·dsimp only at h1 h2 h3
   subst h2
   obtain ⟨H',hH',ho⟩:=mapS_lnsC (k:=k) X (H.mark id (0+x.nums.length * 1)) fun q hq=>(h q (by simp [hq])).mark
   have hmk:∀ i,i≠id→(H.mark id (0+x.nums.length * 1)) i = H i:=fun i hi=>by unfold Hp.mark;rw [h3];simp only;rw [put_ne hi]
   refine ⟨H',?_,fun i hi=>by rw [ho i fun q hq=>hi q (by simp [hq]),hmk i (Ne.symm (hi (x,.ref id ver 0 x.nums.length) (by simp) id ver _ rfl))]⟩
   show mapS (frz (k+1)) (V.int .i64 x.hall::.int .i64 x.kind::.int .i64 x.other::.ref id ver 0 x.nums.length::lnsC X) H = _
   rw [mapS_ints3,mapS]
   have e:frz (k+1) (.ref id ver 0 x.nums.length) H = some (slI x.nums,H.mark id (0+x.nums.length * 1)):=by
    have hq:=frzRef_some (n:=k) (o:=id) (ver:=ver) (off:=0) (len:=x.nums.length) (H:=H) (ob:={ cells:=x.nums.map (V.int .i64),sz:=1,ver:=ver,fz:=z }) ⟨rfl,by simp,rfl⟩
    rw [frz_ref,h3,hq]
    simp only [List.drop_zero,Nat.mul_one,Nat.zero_add]
    rw [List.take_of_length_le (by simp),mapS_int1]
    rfl
   rw [e]
   simp only [Option.bind_some,hH',Option.map_some,List.map_cons,linN,lnsC,lnC,nvL,if_neg h1]
   rfl
def HpY (c:Cf) (b:Brd) (X:List (Ln × V)) (os:List (Nat × Ob)) (n:Nat):Hp:=HpV ((HB c b).put 24 { cells:=lnsC X,sz:=4,ver:=X.length,nl:=if X.length = 0 then 1 else 0 }) os 24 n
def InvY (X:List (Ln × V)) (os:List (Nat × Ob)) (n:Nat):Prop:=BV os 24 n∧24 < n∧∀ p∈X,(p.1.kind = 2∧p.1.nums = []∧p.2 = .nils)∨(p.1.kind≠2∧∃ id ver,p.2 = .ref id ver 0 p.1.nums.length∧(id,({ cells:=p.1.nums.map (V.int .i64),sz:=1,ver:=ver }:Ob))∈os)
theorem InvY.nil {n:Nat} (h:24 < n):InvY [] [] n:=⟨BV.nil,h,fun p hp=>by cases hp⟩
theorem InvY.mono {X:List (Ln × V)} {os:List (Nat × Ob)} {n n':Nat} (h:InvY X os n) (hn:n≤n'):InvY X os n':=⟨h.1.mono hn,by have:=h.2.1;omega,h.2.2⟩
theorem InvY.cpl {X:List (Ln × V)} {os:List (Nat × Ob)} {n n':Nat} {x:Ln} (h:InvY X os n) (hn:n≤n') (hk:x.kind = 2) (hx:x.nums = []):InvY (X++[(x,.nils)]) os n' :=
 ⟨h.1.mono hn,by have:=h.2.1;omega,fun p hp=>(List.mem_append.1 hp).elim (h.2.2 p) fun hp=>by rw [List.mem_singleton.1 hp];exact .inl ⟨hk,hx,rfl⟩⟩
theorem InvY.num {X:List (Ln × V)} {os:List (Nat × Ob)} {n n' id ver:Nat} {x:Ln} (h:InvY X os n) (hn:n≤id∧id < n') (hk:x.kind≠2):InvY (X++[(x,.ref id ver 0 x.nums.length)]) (os++[(id,{ cells:=x.nums.map (V.int .i64),sz:=1,ver:=ver })]) n':=by
 refine ⟨h.1.snoc hn h.2.1,by have:=h.2.1;omega,fun p hp=>?_⟩
 rcases List.mem_append.1 hp with hp | hp
 ·rcases h.2.2 p hp with h1 | ⟨h1,id2,ver2,h2,h3⟩
  ·exact .inl h1
  ·exact .inr ⟨h1,id2,ver2,h2,List.mem_append_left _ h3⟩
 ·rw [List.mem_singleton.1 hp]
  exact .inr ⟨hk,id,ver,rfl,by simp⟩
theorem InvY.fin {c:Cf} {b:Brd} {X:List (Ln × V)} {os:List (Nat × Ob)} {n:Nat} (h:InvY X os n):∃ H',Go.Dp.fin 12 (.s 4) (.ref 24 X.length 0 X.length) (HpY c b X os n) = some (.own (linN (X.map Prod.fst)) (X.map Prod.fst).length 4,H'):=by
 have e24:HpY c b X os n 24 = some { cells:=lnsC X,sz:=4,ver:=X.length,nl:=if X.length = 0 then 1 else 0 }:=by
  unfold HpY;rw [HpV_at h.1 (by omega),put_same]
 have hRd:∀ p∈X,RdL (HpY c b X os n) p:=fun p hp=>by
  rcases h.2.2 p hp with ⟨h1,h2,h3⟩ | ⟨h1,id,ver,h2,h3⟩
  ·exact .inl ⟨h1,h3⟩
  ·exact .inr ⟨h1,id,ver,0,h2,HpV_obj h.1 h3⟩
 obtain ⟨H',hH',ho⟩:=mapS_lnsC (k:=10) X _ hRd
 have h24:H' 24 = some { cells:=lnsC X,sz:=4,ver:=X.length,nl:=if X.length = 0 then 1 else 0 }:=by
  rw [ho 24 fun p hp id ver len e=>?_,e24]
  rcases h.2.2 p hp with ⟨h1,h2,h3⟩ | ⟨h1,id2,ver2,h2,h3⟩
  ·rw [h3] at e;cases e
  ·rw [h2] at e;cases e
   have:=h.1.2 _ h3;dsimp only at this;omega
 refine ⟨H'.del 24,?_⟩
 rw [fin_sref,e24,finRefO_some (ob:={ cells:=lnsC X,sz:=4,ver:=X.length,nl:=if X.length = 0 then 1 else 0 }) ⟨rfl,rfl,rfl,rfl,by dsimp only;rw [lnsC_len];omega,rfl⟩,List.take_of_length_le (by dsimp only;rw [lnsC_len];omega),hH']
 simp only [Option.bind_some,finRef,h24,if_true]
 rw [List.length_map]
end Go.Dp
