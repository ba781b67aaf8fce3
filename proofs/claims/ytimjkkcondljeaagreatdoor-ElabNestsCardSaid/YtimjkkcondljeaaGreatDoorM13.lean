/- M13: Printed by nestsgen.py (own tool): a closed run of ElabNests. Printed by nestsgen.py (own tool): a closed run of ElabNests. Printed by nestsgen.py (own tool): a closed run of ElabNests. -/
import Derived.Test.YtimjkkcondljeaaGreatDoorM6
namespace Go.Proofs.YtimjkkcondljeaaGreatDoor
open Go I
set_option maxRecDepth 100000

theorem v13 : run3 13 = some (.bool true) := by kernel_rfl

end Go.Proofs.YtimjkkcondljeaaGreatDoor

namespace Go.Proofs.YtimjkkcondljeaaGreatDoor
open Go I
set_option maxRecDepth 100000

theorem v0 : run3 0 = some (.bool true) := by kernel_rfl

end Go.Proofs.YtimjkkcondljeaaGreatDoor

namespace Go.Proofs.YtimjkkcondljeaaGreatDoor
open Go I
set_option maxRecDepth 100000

theorem v1 : run3 1 = some (.bool true) := by kernel_rfl

end Go.Proofs.YtimjkkcondljeaaGreatDoor
