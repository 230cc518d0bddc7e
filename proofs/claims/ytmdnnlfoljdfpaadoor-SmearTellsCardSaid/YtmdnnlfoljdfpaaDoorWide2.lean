/- Package wide's functions, more: Neg, Cmp, Shr, Int. -/
import Derived.Test.YtmdnnlfoljdfpaaDoorWide
import Derived.Test.YtmdnnlfoljdfpaaDoorDiv64
namespace Go.Proofs.YtmdnnlfoljdfpaaDoor
open Go.RowKit

end Go.Proofs.YtmdnnlfoljdfpaaDoor
