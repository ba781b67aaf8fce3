/- M9: Printed by levelsgen.py (own tool): closed runs of SyntaxLevels. -/
import Derived.Test.YtomgclpeimipoaaGreatDoorM6
namespace Go.Proofs.YtomgclpeimipoaaGreatDoor
open Go I
set_option maxRecDepth 100000

theorem r5_2_0 : run5 2 0 = some (.bool true) := by kernel_rfl
theorem r5_2_1 : run5 2 1 = some (.bool true) := by kernel_rfl
theorem r5_2_2 : run5 2 2 = some (.bool true) := by kernel_rfl
theorem r5_2_3 : run5 2 3 = some (.bool true) := by kernel_rfl
theorem r5_2_4 : run5 2 4 = some (.bool true) := by kernel_rfl
theorem r5_2_5 : run5 2 5 = some (.bool true) := by kernel_rfl
theorem r5_2_6 : run5 2 6 = some (.bool true) := by kernel_rfl
theorem r5_2_7 : run5 2 7 = some (.bool true) := by kernel_rfl
theorem r5_2_8 : run5 2 8 = some (.bool true) := by kernel_rfl
theorem r5_2_9 : run5 2 9 = some (.bool true) := by kernel_rfl
theorem r5_2_10 : run5 2 10 = some (.bool true) := by kernel_rfl
theorem r5_2_11 : run5 2 11 = some (.bool true) := by kernel_rfl
theorem r5_2_12 : run5 2 12 = some (.bool true) := by kernel_rfl
theorem r5_2_13 : run5 2 13 = some (.bool true) := by kernel_rfl
theorem r5_2_14 : run5 2 14 = some (.bool true) := by kernel_rfl
theorem ra2 : ∀ q : Nat, q < 15 → run5 2 (q : Nat) = some (.bool true)
  | 0, _ => r5_2_0
  | 1, _ => r5_2_1
  | 2, _ => r5_2_2
  | 3, _ => r5_2_3
  | 4, _ => r5_2_4
  | 5, _ => r5_2_5
  | 6, _ => r5_2_6
  | 7, _ => r5_2_7
  | 8, _ => r5_2_8
  | 9, _ => r5_2_9
  | 10, _ => r5_2_10
  | 11, _ => r5_2_11
  | 12, _ => r5_2_12
  | 13, _ => r5_2_13
  | 14, _ => r5_2_14
  | q + 15, h => absurd h (by omega)
theorem r5_7_0 : run5 7 0 = some (.bool true) := by kernel_rfl
theorem r5_7_1 : run5 7 1 = some (.bool true) := by kernel_rfl
theorem r5_7_2 : run5 7 2 = some (.bool true) := by kernel_rfl
theorem r5_7_3 : run5 7 3 = some (.bool true) := by kernel_rfl
theorem r5_7_4 : run5 7 4 = some (.bool true) := by kernel_rfl
theorem r5_7_5 : run5 7 5 = some (.bool true) := by kernel_rfl
theorem r5_7_6 : run5 7 6 = some (.bool true) := by kernel_rfl
theorem r5_7_7 : run5 7 7 = some (.bool true) := by kernel_rfl
theorem r5_7_8 : run5 7 8 = some (.bool true) := by kernel_rfl
theorem r5_7_9 : run5 7 9 = some (.bool true) := by kernel_rfl
theorem r5_7_10 : run5 7 10 = some (.bool true) := by kernel_rfl
theorem r5_7_11 : run5 7 11 = some (.bool true) := by kernel_rfl
theorem r5_7_12 : run5 7 12 = some (.bool true) := by kernel_rfl
theorem r5_7_13 : run5 7 13 = some (.bool true) := by kernel_rfl
theorem r5_7_14 : run5 7 14 = some (.bool true) := by kernel_rfl
theorem ra7 : ∀ q : Nat, q < 15 → run5 7 (q : Nat) = some (.bool true)
  | 0, _ => r5_7_0
  | 1, _ => r5_7_1
  | 2, _ => r5_7_2
  | 3, _ => r5_7_3
  | 4, _ => r5_7_4
  | 5, _ => r5_7_5
  | 6, _ => r5_7_6
  | 7, _ => r5_7_7
  | 8, _ => r5_7_8
  | 9, _ => r5_7_9
  | 10, _ => r5_7_10
  | 11, _ => r5_7_11
  | 12, _ => r5_7_12
  | 13, _ => r5_7_13
  | 14, _ => r5_7_14
  | q + 15, h => absurd h (by omega)
theorem r5_12_0 : run5 12 0 = some (.bool true) := by kernel_rfl
theorem r5_12_1 : run5 12 1 = some (.bool true) := by kernel_rfl
theorem r5_12_2 : run5 12 2 = some (.bool true) := by kernel_rfl
theorem r5_12_3 : run5 12 3 = some (.bool true) := by kernel_rfl
theorem r5_12_4 : run5 12 4 = some (.bool true) := by kernel_rfl
theorem r5_12_5 : run5 12 5 = some (.bool true) := by kernel_rfl
theorem r5_12_6 : run5 12 6 = some (.bool true) := by kernel_rfl
theorem r5_12_7 : run5 12 7 = some (.bool true) := by kernel_rfl
theorem r5_12_8 : run5 12 8 = some (.bool true) := by kernel_rfl
theorem r5_12_9 : run5 12 9 = some (.bool true) := by kernel_rfl
theorem r5_12_10 : run5 12 10 = some (.bool true) := by kernel_rfl
theorem r5_12_11 : run5 12 11 = some (.bool true) := by kernel_rfl
theorem r5_12_12 : run5 12 12 = some (.bool true) := by kernel_rfl
theorem r5_12_13 : run5 12 13 = some (.bool true) := by kernel_rfl
theorem r5_12_14 : run5 12 14 = some (.bool true) := by kernel_rfl
theorem ra12 : ∀ q : Nat, q < 15 → run5 12 (q : Nat) = some (.bool true)
  | 0, _ => r5_12_0
  | 1, _ => r5_12_1
  | 2, _ => r5_12_2
  | 3, _ => r5_12_3
  | 4, _ => r5_12_4
  | 5, _ => r5_12_5
  | 6, _ => r5_12_6
  | 7, _ => r5_12_7
  | 8, _ => r5_12_8
  | 9, _ => r5_12_9
  | 10, _ => r5_12_10
  | 11, _ => r5_12_11
  | 12, _ => r5_12_12
  | 13, _ => r5_12_13
  | 14, _ => r5_12_14
  | q + 15, h => absurd h (by omega)

end Go.Proofs.YtomgclpeimipoaaGreatDoor
