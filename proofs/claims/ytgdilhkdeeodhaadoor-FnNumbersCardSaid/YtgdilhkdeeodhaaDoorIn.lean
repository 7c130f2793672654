/- l01In: is x between two bounds. No conditions. -/
import Derived.Test.YtgdilhkdeeodhaaDoorKit
namespace Go.Proofs.YtgdilhkdeeodhaaDoor
open Go.RowKit
end Go.Proofs.YtgdilhkdeeodhaaDoor
