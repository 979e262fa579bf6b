import Derived.Test.YtlbjgnkjicifhaaGreatDwC24
namespace Go.Dp
open Go.RowKit Go.Proofs
attribute [local irreducible] wp wpOps wpOp1 CallW CallT kSeq kBlk kLoop kReg retP retR kAsg kRound kRf kCut kItr kItr2
set_option linter.unusedVariables false
set_option linter.unusedSimpArgs false
theorem secs_poly {P:Int} {A:List Int} (h:secsB P A = true) (hl:1≤A.length∧A.length≤16):polyE P A = 0:=by
 refine polyE_of hl fun a ha=>?_
 rw [secsB,Bool.not_eq_true',List.any_eq_false] at h
 have:=h a ha
 simp only [decide_eq_true_eq,not_or] at this
 omega
def postE (c:Cf) (hall:Int) (poly got:List Int) (ph:Int):Int :=
 if ¬ (isHallB c.H hall = true∧0≤ph∧ph≤3∧secsB c.P poly = true) then 1 else if (poly.length:Int)≠c.B+1∨(got.length:Int)≠c.H then 7 else 0
set_option maxRecDepth 10000 in
theorem k26 (c:Cf) (hc:c.Ok) (b:Brd) (hb:b.Ok) (hall:Int) (poly got:List Int) (hpl:poly.length < 2 ^ 20) (hgl:got.length < 2 ^ 20) (ph:Int):PureC Tryz.prog 26 [c.v,.int .i64 hall,slI poly,slI got,bdV b,.int .i64 ph]
  (fun r=>r = if b.fits 400 = false then .tup [.nils,.int .i64 2] else if postE c hall poly got ph≠0 then .tup [.nils,.int .i64 (postE c hall poly got ph)] else .tup [.sl (linN (postM c b hall poly got ph.toNat)) (postM c b hall poly got ph.toNat).length,.int .i64 0]):=by
 have hr:=hc.rng
 have c1:=k51b hc 400 (by omega) b hb
 have c2:=k58 c hc b hb
 have c3:=k65 c.R c.P c.G c.H c.B c.K hall
 have c4:=k54 (R:=c.R) (P:=c.P) (G:=c.G) (H:=c.H) (B:=c.B) (K:=c.K) poly (by omega)
 have c5:=k57 poly (by omega)
 refine pureC_of_wp (.l [.x,.x]) mixed ok26 rfl ?_
 unfold c26
 dsimp only [argE,Cf.v,cfgV]
 cases hf:b.fits 400
 ·rw [hf] at c1
  clear hc
  rw [if_pos rfl]
  refine W.run ?_
  rfl
 ·rw [hf] at c1
  rw [if_neg (by simp)]
  by_cases hp:0≤ph∧ph≤3
  ·cases hh:isHallB c.H hall
   ·rw [hh] at c3
    have hE:postE c hall poly got ph = 1:=by unfold postE;rw [if_pos (by simp [hh])]
    rw [hE,if_pos (by omega)]
    refine W.run ?_
    rfl
   ·rw [hh] at c3
    cases hs:secsB c.P poly
    ·rw [hs] at c4
     have hE:postE c hall poly got ph = 1:=by unfold postE;rw [if_pos (by simp [hs])]
     rw [hE,if_pos (by omega)]
     refine W.run ?_
     rfl
    ·rw [hs] at c4
     have hn:¬ ¬ (isHallB c.H hall = true∧0≤ph∧ph≤3∧secsB c.P poly = true):=by simp [hh,hs];omega
     have hh2:1≤hall∧hall≤c.H:=by simpa [isHallB] using hh
     by_cases hl:(poly.length:Int) = c.B+1∧(got.length:Int) = c.H
     ·have hE : postE c hall poly got ph = 0 := by unfold postE; rw [if_neg hn, if_neg (by omega)]
      rw [hE,if_neg (by omega)]
      have c6:=k59 c hc b hb hall hh2 poly got (secs_poly hs (by omega)) hl.2 ph.toNat (by omega)
      rw [show ((ph.toNat:Nat):Int) = ph by omega] at c6
      clear hc
      generalize postM c b hall poly got ph.toNat = L at c6
      refine W.run ?_
      rfl
     ·have hE : postE c hall poly got ph = 7 := by unfold postE; rw [if_neg hn, if_pos (by omega)]
      rw [hE,if_pos (by omega)]
      clear hn
      by_cases hl1:(poly.length:Int) = c.B+1
      ·refine W.run ?_
       rfl
      ·refine W.run ?_
       rfl
  ·have hE : postE c hall poly got ph = 1 := by unfold postE; rw [if_pos (fun h => hp ⟨h.2.1, h.2.2.1⟩)]
   rw [hE,if_pos (by omega)]
   clear hE
   cases hh:isHallB c.H hall
   ·rw [hh] at c3
    refine W.run ?_
    rfl
   ·rw [hh] at c3
    by_cases h0:0≤ph
    ·refine W.run ?_
     rfl
    ·refine W.run ?_
     rfl
abbrev G3:=Int × Int × Int
section
variable {B:Hp} {oo id ver i:Nat} {G:List G3} {ob:Ob}
end
def nid (id top:Nat):Nat:=if id = 0 then top else id
def g1 (c:Cf) (b:Brd) (h:Int):List G3:=if 0≤twiceM c b h then [(h,1,twiceM c b h)] else []
def g2 (c:Cf) (b:Brd) (h:Int):List G3:=if 0≤b.first c h∧(b.deal c h).isSome = false then [(h,2,b.first c h)] else []
def g3 (c:Cf) (b:Brd) (h:Int):List G3:=(hallsL c fun k=>b.compl c k h).flatMap fun k=>if b.ans c h k < 0 then [(h,3,-1)] else []
def idxG (f:Nat→Ln→List G3):Nat→List Ln→List G3
 | _,[]=>[]
 | n,x::l=>f n x++idxG f (n+1) l
def q4 (c:Cf) (b:Brd) (h:Int) (i:Nat) (x:Ln):Bool:=decide (x.hall = h) && isHallB c.H x.other && decide (b.ans c h x.other = i) && b.compl c x.other h && !fitsM c b h x.other (x.nums.headD 0)
def g4 (c:Cf) (b:Brd) (h:Int):List G3:=idxG (fun i x=>if q4 c b h i x then [(h,4,(i:Int))] else []) 0 b.a
def q5 (c:Cf) (b:Brd) (h:Int) (x:Ln):Bool:=decide (x.hall = h) && ((revC c b x && !revR c b x) || (opnC c b x && !opnR c b x))
def g5 (c:Cf) (b:Brd) (h:Int):List G3:=idxG (fun i x=>if q5 c b h x then [(h,5,(i:Int))] else []) 0 b.r
def InvG (oo:Nat) (G:List G3) (id n:Nat):Prop:=(id = 0∨(oo < id∧id < n))∧(id = 0→G = [])∧(id≠0→G.length≠0)
theorem InvG.mono {oo:Nat} {G:List G3} {id n n':Nat} (h:InvG oo G id n) (hn:n≤n'):InvG oo G id n':=⟨by have:=h.1;omega,h.2⟩
theorem InvG.add {oo top:Nat} {G:List G3} {id n:Nat} {x:G3} (h:InvG oo G id top) (hn:top+64≤n) (ho:oo < top):InvG oo (G++[x]) (nid id (top+48)) n:=by
 unfold nid
 have:=h.1
 split
 ·exact ⟨.inr (by omega),fun e=>by omega,fun _=>by simp⟩
 ·exact ⟨by omega,fun e=>by omega,fun _=>by simp⟩
def rtC:C→C
 | .seq _ b=>b
 | c=>c
end Go.Dp
