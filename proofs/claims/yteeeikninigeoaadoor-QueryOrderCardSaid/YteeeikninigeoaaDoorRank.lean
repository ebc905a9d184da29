import Derived.Test.YteeeikninigeoaaDoorMPo
import Derived.Test.YteeeikninigeoaaDoorBits
import Derived.Test.YteeeikninigeoaaDoorPop
/- Package bits: ranks. -/
namespace Go.Proofs.YteeeikninigeoaaDoor
set_option linter.unusedVariables false
open Go.RowKit

end Go.Proofs.YteeeikninigeoaaDoor

