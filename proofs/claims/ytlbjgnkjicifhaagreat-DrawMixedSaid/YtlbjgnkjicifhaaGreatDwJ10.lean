/- The reference's Guilty: all guilt. -/
import Derived.Test.YtlbjgnkjicifhaaGreatDwJ9
import Derived.Test.YtlbjgnkjicifhaaGreatDwQ1
namespace Go.Dp
open Go.RowKit Go.Proofs
attribute [local irreducible] wp wpOps wpOp1 CallW CallT kSeq kBlk kLoop kReg retP retR kAsg kRound kRf kCut kItr kItr2
set_option linter.unusedVariables false
set_option linter.unusedSimpArgs false
theorem flat_filter {α β:Type} (p:α→Bool) (f:α→List β):∀ l:List α,(l.filter p).flatMap f = l.flatMap fun x=>if p x = true then f x else []
 | []=>rfl
 | a::l=>by
  rw [List.filter_cons]
  cases h:p a
  ·simp [flat_filter p f l,h]
  ·simp [flat_filter p f l,h]
theorem idxG_congr {f g:Nat→Ln→List G3}:∀ (n:Nat) (l:List Ln),(∀ i (h:i < l.length),f (n+i) l[i] = g (n+i) l[i])→idxG f n l = idxG g n l
 | n,[],_=>rfl
 | n,x::l,h=>by
  have h0:=h 0 (by simp)
  simp only [Nat.add_zero,List.getElem_cons_zero] at h0
  have ih:idxG f (n+1) l = idxG g (n+1) l:=idxG_congr (n+1) l fun i hi=>by
   have:=h (i+1) (by simpa using hi)
   simp only [List.getElem_cons_succ] at this
   rw [show n+1+i = n+(i+1) by omega];exact this
  simp only [idxG,h0,ih]
theorem idxG_nil {f:Nat→Ln→List G3} (h:∀ i x,f i x = []):∀ (n:Nat) (l:List Ln),idxG f n l = []
 | n,[]=>rfl
 | n,x::l=>by simp only [idxG,h,idxG_nil h (n+1) l];rfl
theorem compl_none {c:Cf} {b:Brd} {h k:Int} (hd:(b.deal c h).isSome = false):b.compl c k h = false:=by unfold Brd.compl;rw [hd];rfl
theorem up3 (c:Cf) (b:Brd):upH (fun h=>upH (g3k c b h) c.H.toNat) c.H.toNat = (dltH c b).flatMap (g3 c b):=by
 unfold dltH hallsL
 rw [flat_filter]
 unfold upH
 congr 1
 funext h
 cases hd:(b.deal c h).isSome
 ·rw [if_neg (by simp)]
  rw [List.flatMap_eq_nil_iff]
  intro k _
  rw [g3k,compl_none hd];simp
 ·rw [if_pos rfl,g3]
  unfold hallsL
  rw [flat_filter]
  congr 1
  funext k
  unfold g3k
  cases b.compl c k h <;> simp
theorem q4_eq {c:Cf} {b:Brd} {h:Int} {i:Nat} (hi:i < b.a.length):q4r c b h i b.a[i] = q4 c b h i b.a[i]:=by
 unfold q4r q4
 by_cases hh:b.a[i].hall = h
 ·by_cases ha:b.ans c h b.a[i].other = i
  ·obtain ⟨_,hq,_⟩:=ans_at' ha
   simp only [qAns,Bool.and_eq_true,decide_eq_true_eq] at hq
   have hcnt:=hq.1.1
   have ho:isHallB c.H b.a[i].other = true:=by
    simp only [cntB,Bool.and_eq_true,Bool.not_true,Bool.false_or] at hcnt
    exact hcnt.2.1
   rw [hcnt,ho,hh,ha]
   simp
  ·rw [decide_eq_false ha];simp
 ·rw [decide_eq_false hh];simp
theorem up4 (c:Cf) (b:Brd):upH (fun h=>idxG (f4 c b h) 0 b.a) c.H.toNat = (dltH c b).flatMap (g4 c b):=by
 unfold dltH hallsL
 rw [flat_filter]
 unfold upH
 congr 1
 funext h
 cases hd:(b.deal c h).isSome
 ·rw [if_neg (by simp)]
  refine idxG_nil (fun i x=>?_) 0 b.a
  rw [f4,q4r,compl_none hd];simp
 ·rw [if_pos rfl,g4]
  refine idxG_congr 0 b.a fun i hi=>?_
  rw [Nat.zero_add,f4,q4_eq hi]
theorem upH_all (c:Cf) (f:Int→List G3):upH f c.H.toNat = (allH c).flatMap f:=by rw [allH_eq];rfl
theorem k85 (c:Cf) (hc:c.Ok) (b:Brd) (hb:b.Ok) (hal:b.a.length≤400) (hrl:b.r.length≤400):PureC Tryz.prog 85 [c.v,bdV b] (fun r=>r = .sl (gC (guiltM c b)) (guiltM c b).length):=by
 have hr:=hc.rng
 have e1:=upH_all c (g1 c b)
 have e2:=upH_all c (g2 c b)
 have e3:=up3 c b
 have e4:=up4 c b
 have e5:upH (fun h=>idxG (f5 c b h) 0 b.r) c.H.toNat = (allH c).flatMap (g5 c b):=upH_all c _
 have hE:guiltM c b = upH (g1 c b) c.H.toNat++upH (g2 c b) c.H.toNat++upH (fun h=>upH (g3k c b h) c.H.toNat) c.H.toNat++upH (fun h=>idxG (f4 c b h) 0 b.a) c.H.toNat++upH (fun h=>idxG (f5 c b h) 0 b.r) c.H.toNat:=by
  rw [e1,e2,e3,e4,e5];rfl
 have l1:=upH_len (f:=g1 c b) (m:=1) (fun k=>by unfold g1;split <;> simp) c.H.toNat
 have l2:=upH_len (f:=g2 c b) (m:=1) (fun k=>by unfold g2;split <;> simp) c.H.toNat
 have l3:=upH_len (f:=fun h=>upH (g3k c b h) c.H.toNat) (m:=16) (fun h=>by have:=upH_len (f:=g3k c b h) (m:=1) (fun k=>by unfold g3k;split <;> simp) c.H.toNat;omega) c.H.toNat
 have l4:=upH_len (f:=fun h=>idxG (f4 c b h) 0 b.a) (m:=400) (fun h=>by have:=idxG_len (f:=f4 c b h) (fun i x=>by unfold f4;split <;> simp) 0 b.a;omega) c.H.toNat
 have hga:=gC_atoms (guiltM c b)
 have hgl:=gC_len (guiltM c b)
 refine pureC_of_wp .x mixed ok85 rfl ?_
 unfold c85
 dsimp only [argE,Cf.v,cfgV,bdV]
 refine W.assoc (W.cut (fun _:Unit=>[(2,.ptr 0 0 0),(3,.ptr 8 0 0),(5,gR [])]) (fun _=>(HB c b).put 24 (gO [])) (fun _=>True) 25 ?_ ?_)
 ·rintro _ n _ hn
  refine k85_1 c hc b hb _ n (by omega) fun m hm=>?_
  refine k85_2 c hc b hb _ _ (by omega) m (by omega) fun m hm=>?_
  refine k85_3 c hc b hb _ _ (by rw [List.length_append];omega) m (by omega) fun m hm=>?_
  refine k85_4 c hc b hb hal _ _ (by rw [List.length_append,List.length_append];omega) m (by omega) fun m hm=>?_
  refine k85_5 c hc b hb hrl _ _ (by rw [List.length_append,List.length_append,List.length_append];omega) m (by omega) fun m hm=>?_
  rw [← hE]
  clear hE e1 e2 e3 e4 e5 l1 l2 l3 l4
  generalize guiltM c b = G at hga hgl ⊢
  unfold c85
  dsimp only [rtC]
  unfold gR gO
  refine W.run ?_
  rfl
 ·intro Gk hG
  change ∀ (x:Unit) n,True→25≤n→Gk ⟨[(2,.ptr 0 0 0),(3,.ptr 8 0 0),(5,.ref 24 0 0 0)],(HB c b).put 24 { cells:=[],sz:=3,nl:=1 },n⟩ at hG
  refine W.run ?_
  exact W.kc hG () trivial (by omega) (HS.refl _)
end Go.Dp
