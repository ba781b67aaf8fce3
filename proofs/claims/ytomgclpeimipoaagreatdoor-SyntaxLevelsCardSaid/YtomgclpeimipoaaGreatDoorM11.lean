/- M11: Printed by levelsgen.py (own tool): closed runs of SyntaxLevels. -/
import Derived.Test.YtomgclpeimipoaaGreatDoorM6
namespace Go.Proofs.YtomgclpeimipoaaGreatDoor
open Go I
set_option maxRecDepth 100000

theorem r5_4_0 : run5 4 0 = some (.bool true) := by kernel_rfl
theorem r5_4_1 : run5 4 1 = some (.bool true) := by kernel_rfl
theorem r5_4_2 : run5 4 2 = some (.bool true) := by kernel_rfl
theorem r5_4_3 : run5 4 3 = some (.bool true) := by kernel_rfl
theorem r5_4_4 : run5 4 4 = some (.bool true) := by kernel_rfl
theorem r5_4_5 : run5 4 5 = some (.bool true) := by kernel_rfl
theorem r5_4_6 : run5 4 6 = some (.bool true) := by kernel_rfl
theorem r5_4_7 : run5 4 7 = some (.bool true) := by kernel_rfl
theorem r5_4_8 : run5 4 8 = some (.bool true) := by kernel_rfl
theorem r5_4_9 : run5 4 9 = some (.bool true) := by kernel_rfl
theorem r5_4_10 : run5 4 10 = some (.bool true) := by kernel_rfl
theorem r5_4_11 : run5 4 11 = some (.bool true) := by kernel_rfl
theorem r5_4_12 : run5 4 12 = some (.bool true) := by kernel_rfl
theorem r5_4_13 : run5 4 13 = some (.bool true) := by kernel_rfl
theorem r5_4_14 : run5 4 14 = some (.bool true) := by kernel_rfl
theorem ra4 : ∀ q : Nat, q < 15 → run5 4 (q : Nat) = some (.bool true)
  | 0, _ => r5_4_0
  | 1, _ => r5_4_1
  | 2, _ => r5_4_2
  | 3, _ => r5_4_3
  | 4, _ => r5_4_4
  | 5, _ => r5_4_5
  | 6, _ => r5_4_6
  | 7, _ => r5_4_7
  | 8, _ => r5_4_8
  | 9, _ => r5_4_9
  | 10, _ => r5_4_10
  | 11, _ => r5_4_11
  | 12, _ => r5_4_12
  | 13, _ => r5_4_13
  | 14, _ => r5_4_14
  | q + 15, h => absurd h (by omega)
theorem r5_9_0 : run5 9 0 = some (.bool true) := by kernel_rfl
theorem r5_9_1 : run5 9 1 = some (.bool true) := by kernel_rfl
theorem r5_9_2 : run5 9 2 = some (.bool true) := by kernel_rfl
theorem r5_9_3 : run5 9 3 = some (.bool true) := by kernel_rfl
theorem r5_9_4 : run5 9 4 = some (.bool true) := by kernel_rfl
theorem r5_9_5 : run5 9 5 = some (.bool true) := by kernel_rfl
theorem r5_9_6 : run5 9 6 = some (.bool true) := by kernel_rfl
theorem r5_9_7 : run5 9 7 = some (.bool true) := by kernel_rfl
theorem r5_9_8 : run5 9 8 = some (.bool true) := by kernel_rfl
theorem r5_9_9 : run5 9 9 = some (.bool true) := by kernel_rfl
theorem r5_9_10 : run5 9 10 = some (.bool true) := by kernel_rfl
theorem r5_9_11 : run5 9 11 = some (.bool true) := by kernel_rfl
theorem r5_9_12 : run5 9 12 = some (.bool true) := by kernel_rfl
theorem r5_9_13 : run5 9 13 = some (.bool true) := by kernel_rfl
theorem r5_9_14 : run5 9 14 = some (.bool true) := by kernel_rfl
theorem ra9 : ∀ q : Nat, q < 15 → run5 9 (q : Nat) = some (.bool true)
  | 0, _ => r5_9_0
  | 1, _ => r5_9_1
  | 2, _ => r5_9_2
  | 3, _ => r5_9_3
  | 4, _ => r5_9_4
  | 5, _ => r5_9_5
  | 6, _ => r5_9_6
  | 7, _ => r5_9_7
  | 8, _ => r5_9_8
  | 9, _ => r5_9_9
  | 10, _ => r5_9_10
  | 11, _ => r5_9_11
  | 12, _ => r5_9_12
  | 13, _ => r5_9_13
  | 14, _ => r5_9_14
  | q + 15, h => absurd h (by omega)
theorem r5_14_0 : run5 14 0 = some (.bool true) := by kernel_rfl
theorem r5_14_1 : run5 14 1 = some (.bool true) := by kernel_rfl
theorem r5_14_2 : run5 14 2 = some (.bool true) := by kernel_rfl
theorem r5_14_3 : run5 14 3 = some (.bool true) := by kernel_rfl
theorem r5_14_4 : run5 14 4 = some (.bool true) := by kernel_rfl
theorem r5_14_5 : run5 14 5 = some (.bool true) := by kernel_rfl
theorem r5_14_6 : run5 14 6 = some (.bool true) := by kernel_rfl
theorem r5_14_7 : run5 14 7 = some (.bool true) := by kernel_rfl
theorem r5_14_8 : run5 14 8 = some (.bool true) := by kernel_rfl
theorem r5_14_9 : run5 14 9 = some (.bool true) := by kernel_rfl
theorem r5_14_10 : run5 14 10 = some (.bool true) := by kernel_rfl
theorem r5_14_11 : run5 14 11 = some (.bool true) := by kernel_rfl
theorem r5_14_12 : run5 14 12 = some (.bool true) := by kernel_rfl
theorem r5_14_13 : run5 14 13 = some (.bool true) := by kernel_rfl
theorem r5_14_14 : run5 14 14 = some (.bool true) := by kernel_rfl
theorem ra14 : ∀ q : Nat, q < 15 → run5 14 (q : Nat) = some (.bool true)
  | 0, _ => r5_14_0
  | 1, _ => r5_14_1
  | 2, _ => r5_14_2
  | 3, _ => r5_14_3
  | 4, _ => r5_14_4
  | 5, _ => r5_14_5
  | 6, _ => r5_14_6
  | 7, _ => r5_14_7
  | 8, _ => r5_14_8
  | 9, _ => r5_14_9
  | 10, _ => r5_14_10
  | 11, _ => r5_14_11
  | 12, _ => r5_14_12
  | 13, _ => r5_14_13
  | 14, _ => r5_14_14
  | q + 15, h => absurd h (by omega)

end Go.Proofs.YtomgclpeimipoaaGreatDoor
