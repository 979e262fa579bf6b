/- Cuts whose parameter tells of the next object's number, too. -/
import Derived.Test.YtgbjppfikncpcaaGreatDpWk
namespace Go.Dp
open Go.RowKit
set_option linter.unusedVariables false
section
variable {P:Program} {Y:Ys} {K:Ex→St→Prop} {st:St} {fr:Env} {H:Hp} {nx:Nat}
end
end Go.Dp
