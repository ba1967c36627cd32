/- Walks of the library's functions on slices of bytes: Equal, Clone. -/
import Derived.Test.YtmkkbomkonociaaDoorProg
import Derived.Test.YtmkkbomkonociaaDoorKit
import Derived.WalkKit
import Derived.Outline
import Derived.WalkSpells
import Derived.WalkLawsBesides
import Derived.BigQuiet
import Derived.Lib.SliceRun
import Derived.Maps.RangeWalk
namespace Go.Proofs.YtmkkbomkonociaaDoor
open Go.RowKit

theorem ret_bool {a b : Bool} (h : a = b) : Ending.returned (.bool a) = .returned (.bool b) := by rw [h]

theorem u8_info : (Tryd.prog.info? 5).map (fun i => (i.zero, i.size, i.bytes)) = some (some (.int .u8 0), 1, 1) := by kernel_rfl

end Go.Proofs.YtmkkbomkonociaaDoor
