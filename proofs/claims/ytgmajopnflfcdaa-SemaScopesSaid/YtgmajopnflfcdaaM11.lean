/- M11: Printed by scopesgen.py (own tool): a closed run of SemaScopes. -/
import Derived.Test.YtgmajopnflfcdaaM6
namespace Go.Proofs.Ytgmajopnflfcdaa
open Go I
set_option maxRecDepth 100000

theorem v15 : run5 15 = some (.bool true) := by kernel_rfl

end Go.Proofs.Ytgmajopnflfcdaa
