/- M16: Printed by nestsgen.py (own tool): a closed run of ElabNests. Printed by nestsgen.py (own tool): a closed run of ElabNests. -/
import Derived.Test.YtimjkkcondljeaaGreatDoorM6
namespace Go.Proofs.YtimjkkcondljeaaGreatDoor
open Go I
set_option maxRecDepth 100000

theorem v10 : run3 10 = some (.bool true) := by kernel_rfl

end Go.Proofs.YtimjkkcondljeaaGreatDoor

namespace Go.Proofs.YtimjkkcondljeaaGreatDoor
open Go I
set_option maxRecDepth 100000

theorem v6 : run3 6 = some (.bool true) := by kernel_rfl

end Go.Proofs.YtimjkkcondljeaaGreatDoor
