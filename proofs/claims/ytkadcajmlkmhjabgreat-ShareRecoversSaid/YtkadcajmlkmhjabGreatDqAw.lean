import Derived.Test.YtkadcajmlkmhjabGreatDqTPc
namespace Go.Dp
open Go.RowKit Go.Proofs
theorem k18 : PureC Tryz.prog 18 [] (fun r => r = .bool true) := pureC_of_run tab_ok 400 (by kernel_rfl)
end Go.Dp
