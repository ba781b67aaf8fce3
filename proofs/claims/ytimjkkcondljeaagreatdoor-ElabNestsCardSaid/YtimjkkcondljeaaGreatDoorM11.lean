/- M11: Printed by nestsgen.py (own tool): a closed run of ElabNests. -/
import Derived.Test.YtimjkkcondljeaaGreatDoorM6
namespace Go.Proofs.YtimjkkcondljeaaGreatDoor
open Go I
set_option maxRecDepth 100000

theorem v15 : run3 15 = some (.bool true) := by kernel_rfl

end Go.Proofs.YtimjkkcondljeaaGreatDoor
