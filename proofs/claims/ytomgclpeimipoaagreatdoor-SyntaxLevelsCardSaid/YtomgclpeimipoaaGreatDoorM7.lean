/- M7: Printed by levelsgen.py (own tool): closed runs of SyntaxLevels. -/
import Derived.Test.YtomgclpeimipoaaGreatDoorM6
namespace Go.Proofs.YtomgclpeimipoaaGreatDoor
open Go I
set_option maxRecDepth 100000

theorem r5_0_0 : run5 0 0 = some (.bool true) := by kernel_rfl
theorem r5_0_1 : run5 0 1 = some (.bool true) := by kernel_rfl
theorem r5_0_2 : run5 0 2 = some (.bool true) := by kernel_rfl
theorem r5_0_3 : run5 0 3 = some (.bool true) := by kernel_rfl
theorem r5_0_4 : run5 0 4 = some (.bool true) := by kernel_rfl
theorem r5_0_5 : run5 0 5 = some (.bool true) := by kernel_rfl
theorem r5_0_6 : run5 0 6 = some (.bool true) := by kernel_rfl
theorem r5_0_7 : run5 0 7 = some (.bool true) := by kernel_rfl
theorem r5_0_8 : run5 0 8 = some (.bool true) := by kernel_rfl
theorem r5_0_9 : run5 0 9 = some (.bool true) := by kernel_rfl
theorem r5_0_10 : run5 0 10 = some (.bool true) := by kernel_rfl
theorem r5_0_11 : run5 0 11 = some (.bool true) := by kernel_rfl
theorem r5_0_12 : run5 0 12 = some (.bool true) := by kernel_rfl
theorem r5_0_13 : run5 0 13 = some (.bool true) := by kernel_rfl
theorem r5_0_14 : run5 0 14 = some (.bool true) := by kernel_rfl
theorem ra0 : ∀ q : Nat, q < 15 → run5 0 (q : Nat) = some (.bool true)
  | 0, _ => r5_0_0
  | 1, _ => r5_0_1
  | 2, _ => r5_0_2
  | 3, _ => r5_0_3
  | 4, _ => r5_0_4
  | 5, _ => r5_0_5
  | 6, _ => r5_0_6
  | 7, _ => r5_0_7
  | 8, _ => r5_0_8
  | 9, _ => r5_0_9
  | 10, _ => r5_0_10
  | 11, _ => r5_0_11
  | 12, _ => r5_0_12
  | 13, _ => r5_0_13
  | 14, _ => r5_0_14
  | q + 15, h => absurd h (by omega)
theorem r5_5_0 : run5 5 0 = some (.bool true) := by kernel_rfl
theorem r5_5_1 : run5 5 1 = some (.bool true) := by kernel_rfl
theorem r5_5_2 : run5 5 2 = some (.bool true) := by kernel_rfl
theorem r5_5_3 : run5 5 3 = some (.bool true) := by kernel_rfl
theorem r5_5_4 : run5 5 4 = some (.bool true) := by kernel_rfl
theorem r5_5_5 : run5 5 5 = some (.bool true) := by kernel_rfl
theorem r5_5_6 : run5 5 6 = some (.bool true) := by kernel_rfl
theorem r5_5_7 : run5 5 7 = some (.bool true) := by kernel_rfl
theorem r5_5_8 : run5 5 8 = some (.bool true) := by kernel_rfl
theorem r5_5_9 : run5 5 9 = some (.bool true) := by kernel_rfl
theorem r5_5_10 : run5 5 10 = some (.bool true) := by kernel_rfl
theorem r5_5_11 : run5 5 11 = some (.bool true) := by kernel_rfl
theorem r5_5_12 : run5 5 12 = some (.bool true) := by kernel_rfl
theorem r5_5_13 : run5 5 13 = some (.bool true) := by kernel_rfl
theorem r5_5_14 : run5 5 14 = some (.bool true) := by kernel_rfl
theorem ra5 : ∀ q : Nat, q < 15 → run5 5 (q : Nat) = some (.bool true)
  | 0, _ => r5_5_0
  | 1, _ => r5_5_1
  | 2, _ => r5_5_2
  | 3, _ => r5_5_3
  | 4, _ => r5_5_4
  | 5, _ => r5_5_5
  | 6, _ => r5_5_6
  | 7, _ => r5_5_7
  | 8, _ => r5_5_8
  | 9, _ => r5_5_9
  | 10, _ => r5_5_10
  | 11, _ => r5_5_11
  | 12, _ => r5_5_12
  | 13, _ => r5_5_13
  | 14, _ => r5_5_14
  | q + 15, h => absurd h (by omega)
theorem r5_10_0 : run5 10 0 = some (.bool true) := by kernel_rfl
theorem r5_10_1 : run5 10 1 = some (.bool true) := by kernel_rfl
theorem r5_10_2 : run5 10 2 = some (.bool true) := by kernel_rfl
theorem r5_10_3 : run5 10 3 = some (.bool true) := by kernel_rfl
theorem r5_10_4 : run5 10 4 = some (.bool true) := by kernel_rfl
theorem r5_10_5 : run5 10 5 = some (.bool true) := by kernel_rfl
theorem r5_10_6 : run5 10 6 = some (.bool true) := by kernel_rfl
theorem r5_10_7 : run5 10 7 = some (.bool true) := by kernel_rfl
theorem r5_10_8 : run5 10 8 = some (.bool true) := by kernel_rfl
theorem r5_10_9 : run5 10 9 = some (.bool true) := by kernel_rfl
theorem r5_10_10 : run5 10 10 = some (.bool true) := by kernel_rfl
theorem r5_10_11 : run5 10 11 = some (.bool true) := by kernel_rfl
theorem r5_10_12 : run5 10 12 = some (.bool true) := by kernel_rfl
theorem r5_10_13 : run5 10 13 = some (.bool true) := by kernel_rfl
theorem r5_10_14 : run5 10 14 = some (.bool true) := by kernel_rfl
theorem ra10 : ∀ q : Nat, q < 15 → run5 10 (q : Nat) = some (.bool true)
  | 0, _ => r5_10_0
  | 1, _ => r5_10_1
  | 2, _ => r5_10_2
  | 3, _ => r5_10_3
  | 4, _ => r5_10_4
  | 5, _ => r5_10_5
  | 6, _ => r5_10_6
  | 7, _ => r5_10_7
  | 8, _ => r5_10_8
  | 9, _ => r5_10_9
  | 10, _ => r5_10_10
  | 11, _ => r5_10_11
  | 12, _ => r5_10_12
  | 13, _ => r5_10_13
  | 14, _ => r5_10_14
  | q + 15, h => absurd h (by omega)

end Go.Proofs.YtomgclpeimipoaaGreatDoor
