/- Walks of the reference's reader (Place). -/
import Derived.Test.YtocjjiacmedjmaaRd
set_option maxRecDepth 100000
namespace Go.Proofs.Ytocjjiacmedjmaa
open Go Go.RowKit

end Go.Proofs.Ytocjjiacmedjmaa
