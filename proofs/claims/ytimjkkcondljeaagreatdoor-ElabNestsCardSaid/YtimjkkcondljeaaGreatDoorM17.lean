/- M17: Printed by nestsgen.py (own tool): a closed run of ElabNests. Printed by nestsgen.py (own tool): a closed run of ElabNests. Printed by nestsgen.py (own tool): a closed run of ElabNests. -/
import Derived.Test.YtimjkkcondljeaaGreatDoorM6
namespace Go.Proofs.YtimjkkcondljeaaGreatDoor
open Go I
set_option maxRecDepth 100000

theorem v9 : run3 9 = some (.bool true) := by kernel_rfl

end Go.Proofs.YtimjkkcondljeaaGreatDoor

namespace Go.Proofs.YtimjkkcondljeaaGreatDoor
open Go I
set_option maxRecDepth 100000

theorem v7 : run3 7 = some (.bool true) := by kernel_rfl

end Go.Proofs.YtimjkkcondljeaaGreatDoor

namespace Go.Proofs.YtimjkkcondljeaaGreatDoor
open Go I
set_option maxRecDepth 100000

theorem v8 : run3 8 = some (.bool true) := by kernel_rfl

end Go.Proofs.YtimjkkcondljeaaGreatDoor
