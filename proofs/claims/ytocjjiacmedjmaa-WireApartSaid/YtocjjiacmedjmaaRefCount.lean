/- Walks of the reference's counting: Split, inclusions, growths, ranges, places, shape. -/
import Derived.Test.YtocjjiacmedjmaaCounts
import Derived.Deep.QuietTactic
import Derived.BigQuiet
set_option maxRecDepth 100000
namespace Go.Proofs.Ytocjjiacmedjmaa
open Go Go.RowKit

end Go.Proofs.Ytocjjiacmedjmaa
