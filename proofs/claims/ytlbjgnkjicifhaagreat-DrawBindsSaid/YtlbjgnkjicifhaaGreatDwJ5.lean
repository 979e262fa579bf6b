import Derived.Test.YtlbjgnkjicifhaaGreatDwJ4
namespace Go.Dp
open Go.RowKit Go.Proofs
attribute [local irreducible] wp wpOps wpOp1 CallW CallT kSeq kBlk kLoop kReg retP retR kAsg kRound kRf kCut kItr kItr2
set_option linter.unusedVariables false
set_option linter.unusedSimpArgs false
theorem isIn_deal {c:Cf} {b:Brd} {h:Int} (e:isInM c b h = true):∃ A,b.deal c h = some A:=by
 unfold isInM at e
 rw [Bool.and_eq_true] at e
 exact Option.isSome_iff_exists.1 e.1
end Go.Dp
