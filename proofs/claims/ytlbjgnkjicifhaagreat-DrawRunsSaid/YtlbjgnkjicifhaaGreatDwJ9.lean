/- The reference's Guilty: false reveals; all guilt. -/
import Derived.Test.YtlbjgnkjicifhaaGreatDwJ8
namespace Go.Dp
open Go.RowKit Go.Proofs
attribute [local irreducible] wp wpOps wpOp1 CallW CallT kSeq kBlk kLoop kReg retP retR kAsg kRound kRf kCut kItr kItr2
set_option linter.unusedVariables false
set_option linter.unusedSimpArgs false
end Go.Dp
