/- M15: Printed by scopesgen.py (own tool): a closed run of SemaScopes. Printed by scopesgen.py (own tool): a closed run of SemaScopes. Printed by scopesgen.py (own tool): a closed run of SemaScopes. -/
import Derived.Test.YtgmajopnflfcdaaM6
namespace Go.Proofs.Ytgmajopnflfcdaa
open Go I
set_option maxRecDepth 100000

theorem v11 : run5 11 = some (.bool true) := by kernel_rfl

end Go.Proofs.Ytgmajopnflfcdaa

namespace Go.Proofs.Ytgmajopnflfcdaa
open Go I
set_option maxRecDepth 100000

theorem v4 : run5 4 = some (.bool true) := by kernel_rfl

end Go.Proofs.Ytgmajopnflfcdaa

namespace Go.Proofs.Ytgmajopnflfcdaa
open Go I
set_option maxRecDepth 100000

theorem v5 : run5 5 = some (.bool true) := by kernel_rfl

end Go.Proofs.Ytgmajopnflfcdaa
