import Derived.Test.YtlbjgnkjicifhaaGreatDwJ5
import Derived.Test.YtlbjgnkjicifhaaGreatDwQ0
namespace Go.Dp
open Go.RowKit Go.Proofs
attribute [local irreducible] wp wpOps wpOp1 CallW CallT kSeq kBlk kLoop kReg retP retR kAsg kRound kRf kCut kItr kItr2
set_option linter.unusedVariables false
set_option linter.unusedSimpArgs false
def q4r (c:Cf) (b:Brd) (h:Int) (i:Nat) (x:Ln):Bool:=cntB c.H x 3 1 true && decide (x.hall = h) && b.compl c x.other h && decide (b.ans c h x.other = i) && !fitsM c b x.hall x.other (x.nums.headD 0)
def f4 (c:Cf) (b:Brd) (h:Int) (i:Nat) (x:Ln):List G3:=if q4r c b h i x then [(h,4,(i:Int))] else []
def f5 (c:Cf) (b:Brd) (h:Int) (i:Nat) (x:Ln):List G3:=if q5 c b h x then [(h,5,(i:Int))] else []
end Go.Dp
