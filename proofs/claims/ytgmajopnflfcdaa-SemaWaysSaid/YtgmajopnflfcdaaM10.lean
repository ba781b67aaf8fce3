/- M10: Printed by waysgen.py (own tool): closed runs of SemaWays. Printed by waysgen.py (own tool): closed runs of SemaWays. -/
import Derived.Test.YtgmajopnflfcdaaM6
namespace Go.Proofs.Ytgmajopnflfcdaa
open Go I
set_option maxRecDepth 100000

theorem w2_0 : run6 2 0 = some (.bool true) := by kernel_rfl
theorem w4_0 : run6 4 0 = some (.bool true) := by kernel_rfl
theorem w5_1 : run6 5 1 = some (.bool true) := by kernel_rfl
theorem w7_2 : run6 7 2 = some (.bool true) := by kernel_rfl
theorem w7_6 : run6 7 6 = some (.bool true) := by kernel_rfl
theorem w9_1 : run6 9 1 = some (.bool true) := by kernel_rfl
theorem w9_8 : run6 9 8 = some (.bool true) := by kernel_rfl
theorem w10_4 : run6 10 4 = some (.bool true) := by kernel_rfl
theorem w11_0 : run6 11 0 = some (.bool true) := by kernel_rfl
theorem w11_6 : run6 11 6 = some (.bool true) := by kernel_rfl
theorem w12_2 : run6 12 2 = some (.bool true) := by kernel_rfl
theorem w12_5 : run6 12 5 = some (.bool true) := by kernel_rfl
theorem w13_8 : run6 13 8 = some (.bool true) := by kernel_rfl
theorem w14_6 : run6 14 6 = some (.bool true) := by kernel_rfl
theorem w14_14 : run6 14 14 = some (.bool true) := by kernel_rfl

end Go.Proofs.Ytgmajopnflfcdaa

namespace Go.Proofs.Ytgmajopnflfcdaa
open Go I
set_option maxRecDepth 100000

theorem w2_1 : run6 2 1 = some (.bool true) := by kernel_rfl
theorem w4_1 : run6 4 1 = some (.bool true) := by kernel_rfl
theorem w5_2 : run6 5 2 = some (.bool true) := by kernel_rfl
theorem w7_3 : run6 7 3 = some (.bool true) := by kernel_rfl
theorem w7_7 : run6 7 7 = some (.bool true) := by kernel_rfl
theorem w9_2 : run6 9 2 = some (.bool true) := by kernel_rfl
theorem w9_9 : run6 9 9 = some (.bool true) := by kernel_rfl
theorem w10_5 : run6 10 5 = some (.bool true) := by kernel_rfl
theorem w11_1 : run6 11 1 = some (.bool true) := by kernel_rfl
theorem w11_7 : run6 11 7 = some (.bool true) := by kernel_rfl
theorem w12_6 : run6 12 6 = some (.bool true) := by kernel_rfl
theorem w13_0 : run6 13 0 = some (.bool true) := by kernel_rfl
theorem w13_1 : run6 13 1 = some (.bool true) := by kernel_rfl
theorem w13_9 : run6 13 9 = some (.bool true) := by kernel_rfl
theorem w14_7 : run6 14 7 = some (.bool true) := by kernel_rfl

end Go.Proofs.Ytgmajopnflfcdaa
