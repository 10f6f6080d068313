/- Walk of the reference's UnLeaves. -/
import Derived.Test.YtocjjiacmedjmaaUnLeaves
set_option maxRecDepth 100000
namespace Go.Proofs.Ytocjjiacmedjmaa
open Go Go.RowKit

end Go.Proofs.Ytocjjiacmedjmaa
