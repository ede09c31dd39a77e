/- Lemmas and contracts for ParsePlanX (Ent): plain words on memory, contracts of the functions that the law reaches. No condition but what each states. -/
import Derived.Test.YtdfnclnjnmdboaaDoorMParsePlanXDraw
import Derived.Test.YtdfnclnjnmdboaaDoorRTab
import Derived.Test.YtdfnclnjnmdboaaDoorApp2
import Derived.Test.YtdfnclnjnmdboaaDoorSapp
namespace Go.Proofs.YtdfnclnjnmdboaaDoor
set_option linter.unusedVariables false
open Go.RowKit

end Go.Proofs.YtdfnclnjnmdboaaDoor
