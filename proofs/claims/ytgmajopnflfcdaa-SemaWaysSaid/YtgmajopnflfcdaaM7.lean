/- M7: Printed by waysgen.py (own tool): closed runs of SemaWays. Printed by waysgen.py (own tool): closed runs of SemaWays. -/
import Derived.Test.YtgmajopnflfcdaaM6
namespace Go.Proofs.Ytgmajopnflfcdaa
open Go I
set_option maxRecDepth 100000

theorem w2_2 : run6 2 2 = some (.bool true) := by kernel_rfl
theorem w4_2 : run6 4 2 = some (.bool true) := by kernel_rfl
theorem w5_3 : run6 5 3 = some (.bool true) := by kernel_rfl
theorem w6_2 : run6 6 2 = some (.bool true) := by kernel_rfl
theorem w8_2 : run6 8 2 = some (.bool true) := by kernel_rfl
theorem w8_7 : run6 8 7 = some (.bool true) := by kernel_rfl
theorem w9_5 : run6 9 5 = some (.bool true) := by kernel_rfl
theorem w10_8 : run6 10 8 = some (.bool true) := by kernel_rfl
theorem w11_2 : run6 11 2 = some (.bool true) := by kernel_rfl
theorem w11_10 : run6 11 10 = some (.bool true) := by kernel_rfl
theorem w12_7 : run6 12 7 = some (.bool true) := by kernel_rfl
theorem w13_2 : run6 13 2 = some (.bool true) := by kernel_rfl
theorem w13_10 : run6 13 10 = some (.bool true) := by kernel_rfl
theorem w14_0 : run6 14 0 = some (.bool true) := by kernel_rfl
theorem w14_8 : run6 14 8 = some (.bool true) := by kernel_rfl

end Go.Proofs.Ytgmajopnflfcdaa

namespace Go.Proofs.Ytgmajopnflfcdaa
open Go I
set_option maxRecDepth 100000

theorem w1_0 : run6 1 0 = some (.bool true) := by kernel_rfl
theorem w4_3 : run6 4 3 = some (.bool true) := by kernel_rfl
theorem w5_4 : run6 5 4 = some (.bool true) := by kernel_rfl
theorem w6_3 : run6 6 3 = some (.bool true) := by kernel_rfl
theorem w8_3 : run6 8 3 = some (.bool true) := by kernel_rfl
theorem w8_8 : run6 8 8 = some (.bool true) := by kernel_rfl
theorem w9_6 : run6 9 6 = some (.bool true) := by kernel_rfl
theorem w10_9 : run6 10 9 = some (.bool true) := by kernel_rfl
theorem w11_3 : run6 11 3 = some (.bool true) := by kernel_rfl
theorem w11_11 : run6 11 11 = some (.bool true) := by kernel_rfl
theorem w12_8 : run6 12 8 = some (.bool true) := by kernel_rfl
theorem w13_3 : run6 13 3 = some (.bool true) := by kernel_rfl
theorem w13_11 : run6 13 11 = some (.bool true) := by kernel_rfl
theorem w14_1 : run6 14 1 = some (.bool true) := by kernel_rfl
theorem w14_9 : run6 14 9 = some (.bool true) := by kernel_rfl

end Go.Proofs.Ytgmajopnflfcdaa
