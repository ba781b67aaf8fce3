/- M13: Printed by scopesgen.py (own tool): a closed run of SemaScopes. Printed by scopesgen.py (own tool): a closed run of SemaScopes. Printed by scopesgen.py (own tool): a closed run of SemaScopes. -/
import Derived.Test.YtgmajopnflfcdaaM6
namespace Go.Proofs.Ytgmajopnflfcdaa
open Go I
set_option maxRecDepth 100000

theorem v13 : run5 13 = some (.bool true) := by kernel_rfl

end Go.Proofs.Ytgmajopnflfcdaa

namespace Go.Proofs.Ytgmajopnflfcdaa
open Go I
set_option maxRecDepth 100000

theorem v0 : run5 0 = some (.bool true) := by kernel_rfl

end Go.Proofs.Ytgmajopnflfcdaa

namespace Go.Proofs.Ytgmajopnflfcdaa
open Go I
set_option maxRecDepth 100000

theorem v1 : run5 1 = some (.bool true) := by kernel_rfl

end Go.Proofs.Ytgmajopnflfcdaa
