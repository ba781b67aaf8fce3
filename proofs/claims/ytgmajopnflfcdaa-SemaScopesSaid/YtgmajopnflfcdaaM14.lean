/- M14: Printed by scopesgen.py (own tool): a closed run of SemaScopes. Printed by scopesgen.py (own tool): a closed run of SemaScopes. Printed by scopesgen.py (own tool): a closed run of SemaScopes. -/
import Derived.Test.YtgmajopnflfcdaaM6
namespace Go.Proofs.Ytgmajopnflfcdaa
open Go I
set_option maxRecDepth 100000

theorem v12 : run5 12 = some (.bool true) := by kernel_rfl

end Go.Proofs.Ytgmajopnflfcdaa

namespace Go.Proofs.Ytgmajopnflfcdaa
open Go I
set_option maxRecDepth 100000

theorem v2 : run5 2 = some (.bool true) := by kernel_rfl

end Go.Proofs.Ytgmajopnflfcdaa

namespace Go.Proofs.Ytgmajopnflfcdaa
open Go I
set_option maxRecDepth 100000

theorem v3 : run5 3 = some (.bool true) := by kernel_rfl

end Go.Proofs.Ytgmajopnflfcdaa
