/- The kit's contract of strings.Builder's WriteByte at this program. -/
import Derived.Test.YtpdjiflbidjcbaaShelf
namespace Go.Proofs
open Go.Shelf
end Go.Proofs
