/- M10: Printed by levelsgen.py (own tool): closed runs of SyntaxLevels. -/
import Derived.Test.YtomgclpeimipoaaGreatDoorM6
namespace Go.Proofs.YtomgclpeimipoaaGreatDoor
open Go I
set_option maxRecDepth 100000

theorem r5_3_0 : run5 3 0 = some (.bool true) := by kernel_rfl
theorem r5_3_1 : run5 3 1 = some (.bool true) := by kernel_rfl
theorem r5_3_2 : run5 3 2 = some (.bool true) := by kernel_rfl
theorem r5_3_3 : run5 3 3 = some (.bool true) := by kernel_rfl
theorem r5_3_4 : run5 3 4 = some (.bool true) := by kernel_rfl
theorem r5_3_5 : run5 3 5 = some (.bool true) := by kernel_rfl
theorem r5_3_6 : run5 3 6 = some (.bool true) := by kernel_rfl
theorem r5_3_7 : run5 3 7 = some (.bool true) := by kernel_rfl
theorem r5_3_8 : run5 3 8 = some (.bool true) := by kernel_rfl
theorem r5_3_9 : run5 3 9 = some (.bool true) := by kernel_rfl
theorem r5_3_10 : run5 3 10 = some (.bool true) := by kernel_rfl
theorem r5_3_11 : run5 3 11 = some (.bool true) := by kernel_rfl
theorem r5_3_12 : run5 3 12 = some (.bool true) := by kernel_rfl
theorem r5_3_13 : run5 3 13 = some (.bool true) := by kernel_rfl
theorem r5_3_14 : run5 3 14 = some (.bool true) := by kernel_rfl
theorem ra3 : ∀ q : Nat, q < 15 → run5 3 (q : Nat) = some (.bool true)
  | 0, _ => r5_3_0
  | 1, _ => r5_3_1
  | 2, _ => r5_3_2
  | 3, _ => r5_3_3
  | 4, _ => r5_3_4
  | 5, _ => r5_3_5
  | 6, _ => r5_3_6
  | 7, _ => r5_3_7
  | 8, _ => r5_3_8
  | 9, _ => r5_3_9
  | 10, _ => r5_3_10
  | 11, _ => r5_3_11
  | 12, _ => r5_3_12
  | 13, _ => r5_3_13
  | 14, _ => r5_3_14
  | q + 15, h => absurd h (by omega)
theorem r5_8_0 : run5 8 0 = some (.bool true) := by kernel_rfl
theorem r5_8_1 : run5 8 1 = some (.bool true) := by kernel_rfl
theorem r5_8_2 : run5 8 2 = some (.bool true) := by kernel_rfl
theorem r5_8_3 : run5 8 3 = some (.bool true) := by kernel_rfl
theorem r5_8_4 : run5 8 4 = some (.bool true) := by kernel_rfl
theorem r5_8_5 : run5 8 5 = some (.bool true) := by kernel_rfl
theorem r5_8_6 : run5 8 6 = some (.bool true) := by kernel_rfl
theorem r5_8_7 : run5 8 7 = some (.bool true) := by kernel_rfl
theorem r5_8_8 : run5 8 8 = some (.bool true) := by kernel_rfl
theorem r5_8_9 : run5 8 9 = some (.bool true) := by kernel_rfl
theorem r5_8_10 : run5 8 10 = some (.bool true) := by kernel_rfl
theorem r5_8_11 : run5 8 11 = some (.bool true) := by kernel_rfl
theorem r5_8_12 : run5 8 12 = some (.bool true) := by kernel_rfl
theorem r5_8_13 : run5 8 13 = some (.bool true) := by kernel_rfl
theorem r5_8_14 : run5 8 14 = some (.bool true) := by kernel_rfl
theorem ra8 : ∀ q : Nat, q < 15 → run5 8 (q : Nat) = some (.bool true)
  | 0, _ => r5_8_0
  | 1, _ => r5_8_1
  | 2, _ => r5_8_2
  | 3, _ => r5_8_3
  | 4, _ => r5_8_4
  | 5, _ => r5_8_5
  | 6, _ => r5_8_6
  | 7, _ => r5_8_7
  | 8, _ => r5_8_8
  | 9, _ => r5_8_9
  | 10, _ => r5_8_10
  | 11, _ => r5_8_11
  | 12, _ => r5_8_12
  | 13, _ => r5_8_13
  | 14, _ => r5_8_14
  | q + 15, h => absurd h (by omega)
theorem r5_13_0 : run5 13 0 = some (.bool true) := by kernel_rfl
theorem r5_13_1 : run5 13 1 = some (.bool true) := by kernel_rfl
theorem r5_13_2 : run5 13 2 = some (.bool true) := by kernel_rfl
theorem r5_13_3 : run5 13 3 = some (.bool true) := by kernel_rfl
theorem r5_13_4 : run5 13 4 = some (.bool true) := by kernel_rfl
theorem r5_13_5 : run5 13 5 = some (.bool true) := by kernel_rfl
theorem r5_13_6 : run5 13 6 = some (.bool true) := by kernel_rfl
theorem r5_13_7 : run5 13 7 = some (.bool true) := by kernel_rfl
theorem r5_13_8 : run5 13 8 = some (.bool true) := by kernel_rfl
theorem r5_13_9 : run5 13 9 = some (.bool true) := by kernel_rfl
theorem r5_13_10 : run5 13 10 = some (.bool true) := by kernel_rfl
theorem r5_13_11 : run5 13 11 = some (.bool true) := by kernel_rfl
theorem r5_13_12 : run5 13 12 = some (.bool true) := by kernel_rfl
theorem r5_13_13 : run5 13 13 = some (.bool true) := by kernel_rfl
theorem r5_13_14 : run5 13 14 = some (.bool true) := by kernel_rfl
theorem ra13 : ∀ q : Nat, q < 15 → run5 13 (q : Nat) = some (.bool true)
  | 0, _ => r5_13_0
  | 1, _ => r5_13_1
  | 2, _ => r5_13_2
  | 3, _ => r5_13_3
  | 4, _ => r5_13_4
  | 5, _ => r5_13_5
  | 6, _ => r5_13_6
  | 7, _ => r5_13_7
  | 8, _ => r5_13_8
  | 9, _ => r5_13_9
  | 10, _ => r5_13_10
  | 11, _ => r5_13_11
  | 12, _ => r5_13_12
  | 13, _ => r5_13_13
  | 14, _ => r5_13_14
  | q + 15, h => absurd h (by omega)

end Go.Proofs.YtomgclpeimipoaaGreatDoor
