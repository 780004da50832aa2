/- What a byte's row of the types' table holds. -/
import Derived.Test.YtgjabbffpfhmjaaDoorErr
import Derived.Test.YtgjabbffpfhmjaaDoorWWords
import Derived.Lib.Strings
import Derived.Lib.Slices
import Derived.Lib.Walk
namespace Go.Proofs.YtgjabbffpfhmjaaDoor
open Go.RowKit

theorem infoByte : (Tryd.prog.info? 5).map (fun i => (i.zero, i.size, i.bytes)) = some (some (.int .u8 0), 1, 1) := by kernel_rfl
end Go.Proofs.YtgjabbffpfhmjaaDoor
