/- M15: Printed by nestsgen.py (own tool): a closed run of ElabNests. Printed by nestsgen.py (own tool): a closed run of ElabNests. Printed by nestsgen.py (own tool): a closed run of ElabNests. -/
import Derived.Test.YtimjkkcondljeaaGreatDoorM6
namespace Go.Proofs.YtimjkkcondljeaaGreatDoor
open Go I
set_option maxRecDepth 100000

theorem v11 : run3 11 = some (.bool true) := by kernel_rfl

end Go.Proofs.YtimjkkcondljeaaGreatDoor

namespace Go.Proofs.YtimjkkcondljeaaGreatDoor
open Go I
set_option maxRecDepth 100000

theorem v4 : run3 4 = some (.bool true) := by kernel_rfl

end Go.Proofs.YtimjkkcondljeaaGreatDoor

namespace Go.Proofs.YtimjkkcondljeaaGreatDoor
open Go I
set_option maxRecDepth 100000

theorem v5 : run3 5 = some (.bool true) := by kernel_rfl

end Go.Proofs.YtimjkkcondljeaaGreatDoor
