/- M17: Printed by scopesgen.py (own tool): a closed run of SemaScopes. Printed by scopesgen.py (own tool): a closed run of SemaScopes. Printed by scopesgen.py (own tool): a closed run of SemaScopes. -/
import Derived.Test.YtgmajopnflfcdaaM6
namespace Go.Proofs.Ytgmajopnflfcdaa
open Go I
set_option maxRecDepth 100000

theorem v9 : run5 9 = some (.bool true) := by kernel_rfl

end Go.Proofs.Ytgmajopnflfcdaa

namespace Go.Proofs.Ytgmajopnflfcdaa
open Go I
set_option maxRecDepth 100000

theorem v7 : run5 7 = some (.bool true) := by kernel_rfl

end Go.Proofs.Ytgmajopnflfcdaa

namespace Go.Proofs.Ytgmajopnflfcdaa
open Go I
set_option maxRecDepth 100000

theorem v8 : run5 8 = some (.bool true) := by kernel_rfl

end Go.Proofs.Ytgmajopnflfcdaa
