/- Walks of the law's own helper: few. -/
import Derived.Test.YtmkkbomkonociaaDoorSlices
namespace Go.Proofs.YtmkkbomkonociaaDoor
open Go.RowKit

/-- how many bytes are of interest -/
def FEW : Nat := 0
end Go.Proofs.YtmkkbomkonociaaDoor
