/- M9: Printed by waysgen.py (own tool): closed runs of SemaWays. Printed by waysgen.py (own tool): closed runs of SemaWays. -/
import Derived.Test.YtgmajopnflfcdaaM6
namespace Go.Proofs.Ytgmajopnflfcdaa
open Go I
set_option maxRecDepth 100000

theorem w3_1 : run6 3 1 = some (.bool true) := by kernel_rfl
theorem w3_3 : run6 3 3 = some (.bool true) := by kernel_rfl
theorem w6_0 : run6 6 0 = some (.bool true) := by kernel_rfl
theorem w6_6 : run6 6 6 = some (.bool true) := by kernel_rfl
theorem w8_0 : run6 8 0 = some (.bool true) := by kernel_rfl
theorem w8_5 : run6 8 5 = some (.bool true) := by kernel_rfl
theorem w9_3 : run6 9 3 = some (.bool true) := by kernel_rfl
theorem w10_6 : run6 10 6 = some (.bool true) := by kernel_rfl
theorem w11_8 : run6 11 8 = some (.bool true) := by kernel_rfl
theorem w12_0 : run6 12 0 = some (.bool true) := by kernel_rfl
theorem w12_3 : run6 12 3 = some (.bool true) := by kernel_rfl
theorem w12_11 : run6 12 11 = some (.bool true) := by kernel_rfl
theorem w13_6 : run6 13 6 = some (.bool true) := by kernel_rfl
theorem w14_4 : run6 14 4 = some (.bool true) := by kernel_rfl
theorem w14_12 : run6 14 12 = some (.bool true) := by kernel_rfl

end Go.Proofs.Ytgmajopnflfcdaa

namespace Go.Proofs.Ytgmajopnflfcdaa
open Go I
set_option maxRecDepth 100000

theorem w5_0 : run6 5 0 = some (.bool true) := by kernel_rfl
theorem w5_5 : run6 5 5 = some (.bool true) := by kernel_rfl
theorem w6_1 : run6 6 1 = some (.bool true) := by kernel_rfl
theorem w8_1 : run6 8 1 = some (.bool true) := by kernel_rfl
theorem w8_6 : run6 8 6 = some (.bool true) := by kernel_rfl
theorem w9_4 : run6 9 4 = some (.bool true) := by kernel_rfl
theorem w10_7 : run6 10 7 = some (.bool true) := by kernel_rfl
theorem w11_9 : run6 11 9 = some (.bool true) := by kernel_rfl
theorem w12_1 : run6 12 1 = some (.bool true) := by kernel_rfl
theorem w12_4 : run6 12 4 = some (.bool true) := by kernel_rfl
theorem w12_12 : run6 12 12 = some (.bool true) := by kernel_rfl
theorem w13_7 : run6 13 7 = some (.bool true) := by kernel_rfl
theorem w14_5 : run6 14 5 = some (.bool true) := by kernel_rfl
theorem w14_13 : run6 14 13 = some (.bool true) := by kernel_rfl

end Go.Proofs.Ytgmajopnflfcdaa
