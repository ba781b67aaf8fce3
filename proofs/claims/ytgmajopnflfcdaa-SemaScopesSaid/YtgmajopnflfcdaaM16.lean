/- M16: Printed by scopesgen.py (own tool): a closed run of SemaScopes. Printed by scopesgen.py (own tool): a closed run of SemaScopes. -/
import Derived.Test.YtgmajopnflfcdaaM6
namespace Go.Proofs.Ytgmajopnflfcdaa
open Go I
set_option maxRecDepth 100000

theorem v10 : run5 10 = some (.bool true) := by kernel_rfl

end Go.Proofs.Ytgmajopnflfcdaa

namespace Go.Proofs.Ytgmajopnflfcdaa
open Go I
set_option maxRecDepth 100000

theorem v6 : run5 6 = some (.bool true) := by kernel_rfl

end Go.Proofs.Ytgmajopnflfcdaa
