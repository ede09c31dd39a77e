/- Contracts: drawn entries of a table. -/
import Derived.Test.YtdfnclnjnmdboaaDoorDraw6
import Derived.Test.YtdfnclnjnmdboaaDoorRTab
import Derived.Test.YtdfnclnjnmdboaaDoorApp2
import Derived.Test.YtdfnclnjnmdboaaDoorSapp
namespace Go.Proofs.YtdfnclnjnmdboaaDoor
set_option linter.unusedVariables false
open Go.RowKit

end Go.Proofs.YtdfnclnjnmdboaaDoor
