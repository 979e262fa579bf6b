import Derived.Test.YtkadcajmlkmhjaaGreatDpTPb
namespace Go.Dp
open Go.RowKit Go.Proofs
theorem k25 : PureC Tryz.prog 25 [] (fun r => r = .bool true) := pureC_of_run tab_ok 400 (by kernel_rfl)
end Go.Dp
