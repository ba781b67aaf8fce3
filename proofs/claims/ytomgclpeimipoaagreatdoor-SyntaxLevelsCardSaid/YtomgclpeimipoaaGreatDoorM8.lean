/- M8: Printed by levelsgen.py (own tool): closed runs of SyntaxLevels. -/
import Derived.Test.YtomgclpeimipoaaGreatDoorM6
namespace Go.Proofs.YtomgclpeimipoaaGreatDoor
open Go I
set_option maxRecDepth 100000

theorem r5_1_0 : run5 1 0 = some (.bool true) := by kernel_rfl
theorem r5_1_1 : run5 1 1 = some (.bool true) := by kernel_rfl
theorem r5_1_2 : run5 1 2 = some (.bool true) := by kernel_rfl
theorem r5_1_3 : run5 1 3 = some (.bool true) := by kernel_rfl
theorem r5_1_4 : run5 1 4 = some (.bool true) := by kernel_rfl
theorem r5_1_5 : run5 1 5 = some (.bool true) := by kernel_rfl
theorem r5_1_6 : run5 1 6 = some (.bool true) := by kernel_rfl
theorem r5_1_7 : run5 1 7 = some (.bool true) := by kernel_rfl
theorem r5_1_8 : run5 1 8 = some (.bool true) := by kernel_rfl
theorem r5_1_9 : run5 1 9 = some (.bool true) := by kernel_rfl
theorem r5_1_10 : run5 1 10 = some (.bool true) := by kernel_rfl
theorem r5_1_11 : run5 1 11 = some (.bool true) := by kernel_rfl
theorem r5_1_12 : run5 1 12 = some (.bool true) := by kernel_rfl
theorem r5_1_13 : run5 1 13 = some (.bool true) := by kernel_rfl
theorem r5_1_14 : run5 1 14 = some (.bool true) := by kernel_rfl
theorem ra1 : ∀ q : Nat, q < 15 → run5 1 (q : Nat) = some (.bool true)
  | 0, _ => r5_1_0
  | 1, _ => r5_1_1
  | 2, _ => r5_1_2
  | 3, _ => r5_1_3
  | 4, _ => r5_1_4
  | 5, _ => r5_1_5
  | 6, _ => r5_1_6
  | 7, _ => r5_1_7
  | 8, _ => r5_1_8
  | 9, _ => r5_1_9
  | 10, _ => r5_1_10
  | 11, _ => r5_1_11
  | 12, _ => r5_1_12
  | 13, _ => r5_1_13
  | 14, _ => r5_1_14
  | q + 15, h => absurd h (by omega)
theorem r5_6_0 : run5 6 0 = some (.bool true) := by kernel_rfl
theorem r5_6_1 : run5 6 1 = some (.bool true) := by kernel_rfl
theorem r5_6_2 : run5 6 2 = some (.bool true) := by kernel_rfl
theorem r5_6_3 : run5 6 3 = some (.bool true) := by kernel_rfl
theorem r5_6_4 : run5 6 4 = some (.bool true) := by kernel_rfl
theorem r5_6_5 : run5 6 5 = some (.bool true) := by kernel_rfl
theorem r5_6_6 : run5 6 6 = some (.bool true) := by kernel_rfl
theorem r5_6_7 : run5 6 7 = some (.bool true) := by kernel_rfl
theorem r5_6_8 : run5 6 8 = some (.bool true) := by kernel_rfl
theorem r5_6_9 : run5 6 9 = some (.bool true) := by kernel_rfl
theorem r5_6_10 : run5 6 10 = some (.bool true) := by kernel_rfl
theorem r5_6_11 : run5 6 11 = some (.bool true) := by kernel_rfl
theorem r5_6_12 : run5 6 12 = some (.bool true) := by kernel_rfl
theorem r5_6_13 : run5 6 13 = some (.bool true) := by kernel_rfl
theorem r5_6_14 : run5 6 14 = some (.bool true) := by kernel_rfl
theorem ra6 : ∀ q : Nat, q < 15 → run5 6 (q : Nat) = some (.bool true)
  | 0, _ => r5_6_0
  | 1, _ => r5_6_1
  | 2, _ => r5_6_2
  | 3, _ => r5_6_3
  | 4, _ => r5_6_4
  | 5, _ => r5_6_5
  | 6, _ => r5_6_6
  | 7, _ => r5_6_7
  | 8, _ => r5_6_8
  | 9, _ => r5_6_9
  | 10, _ => r5_6_10
  | 11, _ => r5_6_11
  | 12, _ => r5_6_12
  | 13, _ => r5_6_13
  | 14, _ => r5_6_14
  | q + 15, h => absurd h (by omega)
theorem r5_11_0 : run5 11 0 = some (.bool true) := by kernel_rfl
theorem r5_11_1 : run5 11 1 = some (.bool true) := by kernel_rfl
theorem r5_11_2 : run5 11 2 = some (.bool true) := by kernel_rfl
theorem r5_11_3 : run5 11 3 = some (.bool true) := by kernel_rfl
theorem r5_11_4 : run5 11 4 = some (.bool true) := by kernel_rfl
theorem r5_11_5 : run5 11 5 = some (.bool true) := by kernel_rfl
theorem r5_11_6 : run5 11 6 = some (.bool true) := by kernel_rfl
theorem r5_11_7 : run5 11 7 = some (.bool true) := by kernel_rfl
theorem r5_11_8 : run5 11 8 = some (.bool true) := by kernel_rfl
theorem r5_11_9 : run5 11 9 = some (.bool true) := by kernel_rfl
theorem r5_11_10 : run5 11 10 = some (.bool true) := by kernel_rfl
theorem r5_11_11 : run5 11 11 = some (.bool true) := by kernel_rfl
theorem r5_11_12 : run5 11 12 = some (.bool true) := by kernel_rfl
theorem r5_11_13 : run5 11 13 = some (.bool true) := by kernel_rfl
theorem r5_11_14 : run5 11 14 = some (.bool true) := by kernel_rfl
theorem ra11 : ∀ q : Nat, q < 15 → run5 11 (q : Nat) = some (.bool true)
  | 0, _ => r5_11_0
  | 1, _ => r5_11_1
  | 2, _ => r5_11_2
  | 3, _ => r5_11_3
  | 4, _ => r5_11_4
  | 5, _ => r5_11_5
  | 6, _ => r5_11_6
  | 7, _ => r5_11_7
  | 8, _ => r5_11_8
  | 9, _ => r5_11_9
  | 10, _ => r5_11_10
  | 11, _ => r5_11_11
  | 12, _ => r5_11_12
  | 13, _ => r5_11_13
  | 14, _ => r5_11_14
  | q + 15, h => absurd h (by omega)

end Go.Proofs.YtomgclpeimipoaaGreatDoor
