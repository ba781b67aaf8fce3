/- M8: Printed by runsgen.py (own tool): closed runs of PrinterBrackets. -/
import Derived.Test.YtelhoddamlkfhaaGreatDoorM6
namespace Go.Proofs.YtelhoddamlkfhaaGreatDoor
open Go I
set_option maxRecDepth 100000

theorem rf_1_0 : runB 1 0 false = some (.bool true) := by kernel_rfl
theorem rt_1_0 : runB 1 0 true = some (.bool true) := by kernel_rfl
theorem rf_1_1 : runB 1 1 false = some (.bool true) := by kernel_rfl
theorem rt_1_1 : runB 1 1 true = some (.bool true) := by kernel_rfl
theorem rf_1_2 : runB 1 2 false = some (.bool true) := by kernel_rfl
theorem rt_1_2 : runB 1 2 true = some (.bool true) := by kernel_rfl
theorem rf_1_3 : runB 1 3 false = some (.bool true) := by kernel_rfl
theorem rt_1_3 : runB 1 3 true = some (.bool true) := by kernel_rfl
theorem rf_1_4 : runB 1 4 false = some (.bool true) := by kernel_rfl
theorem rt_1_4 : runB 1 4 true = some (.bool true) := by kernel_rfl
theorem rf_1_5 : runB 1 5 false = some (.bool true) := by kernel_rfl
theorem rt_1_5 : runB 1 5 true = some (.bool true) := by kernel_rfl
theorem rf_1_6 : runB 1 6 false = some (.bool true) := by kernel_rfl
theorem rt_1_6 : runB 1 6 true = some (.bool true) := by kernel_rfl
theorem rf_1_7 : runB 1 7 false = some (.bool true) := by kernel_rfl
theorem rt_1_7 : runB 1 7 true = some (.bool true) := by kernel_rfl
theorem rf_1_8 : runB 1 8 false = some (.bool true) := by kernel_rfl
theorem rt_1_8 : runB 1 8 true = some (.bool true) := by kernel_rfl
theorem rf_1_9 : runB 1 9 false = some (.bool true) := by kernel_rfl
theorem rt_1_9 : runB 1 9 true = some (.bool true) := by kernel_rfl
theorem rf_1_10 : runB 1 10 false = some (.bool true) := by kernel_rfl
theorem rt_1_10 : runB 1 10 true = some (.bool true) := by kernel_rfl
theorem rf_1_11 : runB 1 11 false = some (.bool true) := by kernel_rfl
theorem rt_1_11 : runB 1 11 true = some (.bool true) := by kernel_rfl
theorem rf_1_12 : runB 1 12 false = some (.bool true) := by kernel_rfl
theorem rt_1_12 : runB 1 12 true = some (.bool true) := by kernel_rfl
theorem rf_1_13 : runB 1 13 false = some (.bool true) := by kernel_rfl
theorem rt_1_13 : runB 1 13 true = some (.bool true) := by kernel_rfl
theorem rf_1_14 : runB 1 14 false = some (.bool true) := by kernel_rfl
theorem rt_1_14 : runB 1 14 true = some (.bool true) := by kernel_rfl
theorem ra1 : ∀ q : Nat, q < 15 → ∀ s, runB 1 (q : Nat) s = some (.bool true)
  | 0, _, true => rt_1_0
  | 0, _, false => rf_1_0
  | 1, _, true => rt_1_1
  | 1, _, false => rf_1_1
  | 2, _, true => rt_1_2
  | 2, _, false => rf_1_2
  | 3, _, true => rt_1_3
  | 3, _, false => rf_1_3
  | 4, _, true => rt_1_4
  | 4, _, false => rf_1_4
  | 5, _, true => rt_1_5
  | 5, _, false => rf_1_5
  | 6, _, true => rt_1_6
  | 6, _, false => rf_1_6
  | 7, _, true => rt_1_7
  | 7, _, false => rf_1_7
  | 8, _, true => rt_1_8
  | 8, _, false => rf_1_8
  | 9, _, true => rt_1_9
  | 9, _, false => rf_1_9
  | 10, _, true => rt_1_10
  | 10, _, false => rf_1_10
  | 11, _, true => rt_1_11
  | 11, _, false => rf_1_11
  | 12, _, true => rt_1_12
  | 12, _, false => rf_1_12
  | 13, _, true => rt_1_13
  | 13, _, false => rf_1_13
  | 14, _, true => rt_1_14
  | 14, _, false => rf_1_14
  | q + 15, h, _ => absurd h (by omega)
theorem rf_9_0 : runB 9 0 false = some (.bool true) := by kernel_rfl
theorem rt_9_0 : runB 9 0 true = some (.bool true) := by kernel_rfl
theorem rf_9_1 : runB 9 1 false = some (.bool true) := by kernel_rfl
theorem rt_9_1 : runB 9 1 true = some (.bool true) := by kernel_rfl
theorem rf_9_2 : runB 9 2 false = some (.bool true) := by kernel_rfl
theorem rt_9_2 : runB 9 2 true = some (.bool true) := by kernel_rfl
theorem rf_9_3 : runB 9 3 false = some (.bool true) := by kernel_rfl
theorem rt_9_3 : runB 9 3 true = some (.bool true) := by kernel_rfl
theorem rf_9_4 : runB 9 4 false = some (.bool true) := by kernel_rfl
theorem rt_9_4 : runB 9 4 true = some (.bool true) := by kernel_rfl
theorem rf_9_5 : runB 9 5 false = some (.bool true) := by kernel_rfl
theorem rt_9_5 : runB 9 5 true = some (.bool true) := by kernel_rfl
theorem rf_9_6 : runB 9 6 false = some (.bool true) := by kernel_rfl
theorem rt_9_6 : runB 9 6 true = some (.bool true) := by kernel_rfl
theorem rf_9_7 : runB 9 7 false = some (.bool true) := by kernel_rfl
theorem rt_9_7 : runB 9 7 true = some (.bool true) := by kernel_rfl
theorem rf_9_8 : runB 9 8 false = some (.bool true) := by kernel_rfl
theorem rt_9_8 : runB 9 8 true = some (.bool true) := by kernel_rfl
theorem rf_9_9 : runB 9 9 false = some (.bool true) := by kernel_rfl
theorem rt_9_9 : runB 9 9 true = some (.bool true) := by kernel_rfl
theorem rf_9_10 : runB 9 10 false = some (.bool true) := by kernel_rfl
theorem rt_9_10 : runB 9 10 true = some (.bool true) := by kernel_rfl
theorem rf_9_11 : runB 9 11 false = some (.bool true) := by kernel_rfl
theorem rt_9_11 : runB 9 11 true = some (.bool true) := by kernel_rfl
theorem rf_9_12 : runB 9 12 false = some (.bool true) := by kernel_rfl
theorem rt_9_12 : runB 9 12 true = some (.bool true) := by kernel_rfl
theorem rf_9_13 : runB 9 13 false = some (.bool true) := by kernel_rfl
theorem rt_9_13 : runB 9 13 true = some (.bool true) := by kernel_rfl
theorem rf_9_14 : runB 9 14 false = some (.bool true) := by kernel_rfl
theorem rt_9_14 : runB 9 14 true = some (.bool true) := by kernel_rfl
theorem ra9 : ∀ q : Nat, q < 15 → ∀ s, runB 9 (q : Nat) s = some (.bool true)
  | 0, _, true => rt_9_0
  | 0, _, false => rf_9_0
  | 1, _, true => rt_9_1
  | 1, _, false => rf_9_1
  | 2, _, true => rt_9_2
  | 2, _, false => rf_9_2
  | 3, _, true => rt_9_3
  | 3, _, false => rf_9_3
  | 4, _, true => rt_9_4
  | 4, _, false => rf_9_4
  | 5, _, true => rt_9_5
  | 5, _, false => rf_9_5
  | 6, _, true => rt_9_6
  | 6, _, false => rf_9_6
  | 7, _, true => rt_9_7
  | 7, _, false => rf_9_7
  | 8, _, true => rt_9_8
  | 8, _, false => rf_9_8
  | 9, _, true => rt_9_9
  | 9, _, false => rf_9_9
  | 10, _, true => rt_9_10
  | 10, _, false => rf_9_10
  | 11, _, true => rt_9_11
  | 11, _, false => rf_9_11
  | 12, _, true => rt_9_12
  | 12, _, false => rf_9_12
  | 13, _, true => rt_9_13
  | 13, _, false => rf_9_13
  | 14, _, true => rt_9_14
  | 14, _, false => rf_9_14
  | q + 15, h, _ => absurd h (by omega)

end Go.Proofs.YtelhoddamlkfhaaGreatDoor
