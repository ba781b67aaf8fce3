/- M8: Printed by waysgen.py (own tool): closed runs of SemaWays. Printed by waysgen.py (own tool): closed runs of SemaWays. -/
import Derived.Test.YtgmajopnflfcdaaM6
namespace Go.Proofs.Ytgmajopnflfcdaa
open Go I
set_option maxRecDepth 100000

theorem w1_1 : run6 1 1 = some (.bool true) := by kernel_rfl
theorem w4_4 : run6 4 4 = some (.bool true) := by kernel_rfl
theorem w6_4 : run6 6 4 = some (.bool true) := by kernel_rfl
theorem w7_0 : run6 7 0 = some (.bool true) := by kernel_rfl
theorem w7_4 : run6 7 4 = some (.bool true) := by kernel_rfl
theorem w8_4 : run6 8 4 = some (.bool true) := by kernel_rfl
theorem w10_0 : run6 10 0 = some (.bool true) := by kernel_rfl
theorem w10_2 : run6 10 2 = some (.bool true) := by kernel_rfl
theorem w10_10 : run6 10 10 = some (.bool true) := by kernel_rfl
theorem w11_4 : run6 11 4 = some (.bool true) := by kernel_rfl
theorem w12_9 : run6 12 9 = some (.bool true) := by kernel_rfl
theorem w13_4 : run6 13 4 = some (.bool true) := by kernel_rfl
theorem w13_12 : run6 13 12 = some (.bool true) := by kernel_rfl
theorem w14_2 : run6 14 2 = some (.bool true) := by kernel_rfl
theorem w14_10 : run6 14 10 = some (.bool true) := by kernel_rfl

end Go.Proofs.Ytgmajopnflfcdaa

namespace Go.Proofs.Ytgmajopnflfcdaa
open Go I
set_option maxRecDepth 100000

theorem w3_0 : run6 3 0 = some (.bool true) := by kernel_rfl
theorem w3_2 : run6 3 2 = some (.bool true) := by kernel_rfl
theorem w6_5 : run6 6 5 = some (.bool true) := by kernel_rfl
theorem w7_1 : run6 7 1 = some (.bool true) := by kernel_rfl
theorem w7_5 : run6 7 5 = some (.bool true) := by kernel_rfl
theorem w9_0 : run6 9 0 = some (.bool true) := by kernel_rfl
theorem w9_7 : run6 9 7 = some (.bool true) := by kernel_rfl
theorem w10_1 : run6 10 1 = some (.bool true) := by kernel_rfl
theorem w10_3 : run6 10 3 = some (.bool true) := by kernel_rfl
theorem w11_5 : run6 11 5 = some (.bool true) := by kernel_rfl
theorem w12_10 : run6 12 10 = some (.bool true) := by kernel_rfl
theorem w13_5 : run6 13 5 = some (.bool true) := by kernel_rfl
theorem w13_13 : run6 13 13 = some (.bool true) := by kernel_rfl
theorem w14_3 : run6 14 3 = some (.bool true) := by kernel_rfl
theorem w14_11 : run6 14 11 = some (.bool true) := by kernel_rfl

end Go.Proofs.Ytgmajopnflfcdaa
