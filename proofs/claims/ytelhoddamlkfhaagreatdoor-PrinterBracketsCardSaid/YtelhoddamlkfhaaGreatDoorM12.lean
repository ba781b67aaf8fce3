/- M12: Printed by runsgen.py (own tool): closed runs of PrinterBrackets. -/
import Derived.Test.YtelhoddamlkfhaaGreatDoorM6
namespace Go.Proofs.YtelhoddamlkfhaaGreatDoor
open Go I
set_option maxRecDepth 100000

theorem rf_5_0 : runB 5 0 false = some (.bool true) := by kernel_rfl
theorem rt_5_0 : runB 5 0 true = some (.bool true) := by kernel_rfl
theorem rf_5_1 : runB 5 1 false = some (.bool true) := by kernel_rfl
theorem rt_5_1 : runB 5 1 true = some (.bool true) := by kernel_rfl
theorem rf_5_2 : runB 5 2 false = some (.bool true) := by kernel_rfl
theorem rt_5_2 : runB 5 2 true = some (.bool true) := by kernel_rfl
theorem rf_5_3 : runB 5 3 false = some (.bool true) := by kernel_rfl
theorem rt_5_3 : runB 5 3 true = some (.bool true) := by kernel_rfl
theorem rf_5_4 : runB 5 4 false = some (.bool true) := by kernel_rfl
theorem rt_5_4 : runB 5 4 true = some (.bool true) := by kernel_rfl
theorem rf_5_5 : runB 5 5 false = some (.bool true) := by kernel_rfl
theorem rt_5_5 : runB 5 5 true = some (.bool true) := by kernel_rfl
theorem rf_5_6 : runB 5 6 false = some (.bool true) := by kernel_rfl
theorem rt_5_6 : runB 5 6 true = some (.bool true) := by kernel_rfl
theorem rf_5_7 : runB 5 7 false = some (.bool true) := by kernel_rfl
theorem rt_5_7 : runB 5 7 true = some (.bool true) := by kernel_rfl
theorem rf_5_8 : runB 5 8 false = some (.bool true) := by kernel_rfl
theorem rt_5_8 : runB 5 8 true = some (.bool true) := by kernel_rfl
theorem rf_5_9 : runB 5 9 false = some (.bool true) := by kernel_rfl
theorem rt_5_9 : runB 5 9 true = some (.bool true) := by kernel_rfl
theorem rf_5_10 : runB 5 10 false = some (.bool true) := by kernel_rfl
theorem rt_5_10 : runB 5 10 true = some (.bool true) := by kernel_rfl
theorem rf_5_11 : runB 5 11 false = some (.bool true) := by kernel_rfl
theorem rt_5_11 : runB 5 11 true = some (.bool true) := by kernel_rfl
theorem rf_5_12 : runB 5 12 false = some (.bool true) := by kernel_rfl
theorem rt_5_12 : runB 5 12 true = some (.bool true) := by kernel_rfl
theorem rf_5_13 : runB 5 13 false = some (.bool true) := by kernel_rfl
theorem rt_5_13 : runB 5 13 true = some (.bool true) := by kernel_rfl
theorem rf_5_14 : runB 5 14 false = some (.bool true) := by kernel_rfl
theorem rt_5_14 : runB 5 14 true = some (.bool true) := by kernel_rfl
theorem ra5 : ∀ q : Nat, q < 15 → ∀ s, runB 5 (q : Nat) s = some (.bool true)
  | 0, _, true => rt_5_0
  | 0, _, false => rf_5_0
  | 1, _, true => rt_5_1
  | 1, _, false => rf_5_1
  | 2, _, true => rt_5_2
  | 2, _, false => rf_5_2
  | 3, _, true => rt_5_3
  | 3, _, false => rf_5_3
  | 4, _, true => rt_5_4
  | 4, _, false => rf_5_4
  | 5, _, true => rt_5_5
  | 5, _, false => rf_5_5
  | 6, _, true => rt_5_6
  | 6, _, false => rf_5_6
  | 7, _, true => rt_5_7
  | 7, _, false => rf_5_7
  | 8, _, true => rt_5_8
  | 8, _, false => rf_5_8
  | 9, _, true => rt_5_9
  | 9, _, false => rf_5_9
  | 10, _, true => rt_5_10
  | 10, _, false => rf_5_10
  | 11, _, true => rt_5_11
  | 11, _, false => rf_5_11
  | 12, _, true => rt_5_12
  | 12, _, false => rf_5_12
  | 13, _, true => rt_5_13
  | 13, _, false => rf_5_13
  | 14, _, true => rt_5_14
  | 14, _, false => rf_5_14
  | q + 15, h, _ => absurd h (by omega)
theorem rf_13_0 : runB 13 0 false = some (.bool true) := by kernel_rfl
theorem rt_13_0 : runB 13 0 true = some (.bool true) := by kernel_rfl
theorem rf_13_1 : runB 13 1 false = some (.bool true) := by kernel_rfl
theorem rt_13_1 : runB 13 1 true = some (.bool true) := by kernel_rfl
theorem rf_13_2 : runB 13 2 false = some (.bool true) := by kernel_rfl
theorem rt_13_2 : runB 13 2 true = some (.bool true) := by kernel_rfl
theorem rf_13_3 : runB 13 3 false = some (.bool true) := by kernel_rfl
theorem rt_13_3 : runB 13 3 true = some (.bool true) := by kernel_rfl
theorem rf_13_4 : runB 13 4 false = some (.bool true) := by kernel_rfl
theorem rt_13_4 : runB 13 4 true = some (.bool true) := by kernel_rfl
theorem rf_13_5 : runB 13 5 false = some (.bool true) := by kernel_rfl
theorem rt_13_5 : runB 13 5 true = some (.bool true) := by kernel_rfl
theorem rf_13_6 : runB 13 6 false = some (.bool true) := by kernel_rfl
theorem rt_13_6 : runB 13 6 true = some (.bool true) := by kernel_rfl
theorem rf_13_7 : runB 13 7 false = some (.bool true) := by kernel_rfl
theorem rt_13_7 : runB 13 7 true = some (.bool true) := by kernel_rfl
theorem rf_13_8 : runB 13 8 false = some (.bool true) := by kernel_rfl
theorem rt_13_8 : runB 13 8 true = some (.bool true) := by kernel_rfl
theorem rf_13_9 : runB 13 9 false = some (.bool true) := by kernel_rfl
theorem rt_13_9 : runB 13 9 true = some (.bool true) := by kernel_rfl
theorem rf_13_10 : runB 13 10 false = some (.bool true) := by kernel_rfl
theorem rt_13_10 : runB 13 10 true = some (.bool true) := by kernel_rfl
theorem rf_13_11 : runB 13 11 false = some (.bool true) := by kernel_rfl
theorem rt_13_11 : runB 13 11 true = some (.bool true) := by kernel_rfl
theorem rf_13_12 : runB 13 12 false = some (.bool true) := by kernel_rfl
theorem rt_13_12 : runB 13 12 true = some (.bool true) := by kernel_rfl
theorem rf_13_13 : runB 13 13 false = some (.bool true) := by kernel_rfl
theorem rt_13_13 : runB 13 13 true = some (.bool true) := by kernel_rfl
theorem rf_13_14 : runB 13 14 false = some (.bool true) := by kernel_rfl
theorem rt_13_14 : runB 13 14 true = some (.bool true) := by kernel_rfl
theorem ra13 : ∀ q : Nat, q < 15 → ∀ s, runB 13 (q : Nat) s = some (.bool true)
  | 0, _, true => rt_13_0
  | 0, _, false => rf_13_0
  | 1, _, true => rt_13_1
  | 1, _, false => rf_13_1
  | 2, _, true => rt_13_2
  | 2, _, false => rf_13_2
  | 3, _, true => rt_13_3
  | 3, _, false => rf_13_3
  | 4, _, true => rt_13_4
  | 4, _, false => rf_13_4
  | 5, _, true => rt_13_5
  | 5, _, false => rf_13_5
  | 6, _, true => rt_13_6
  | 6, _, false => rf_13_6
  | 7, _, true => rt_13_7
  | 7, _, false => rf_13_7
  | 8, _, true => rt_13_8
  | 8, _, false => rf_13_8
  | 9, _, true => rt_13_9
  | 9, _, false => rf_13_9
  | 10, _, true => rt_13_10
  | 10, _, false => rf_13_10
  | 11, _, true => rt_13_11
  | 11, _, false => rf_13_11
  | 12, _, true => rt_13_12
  | 12, _, false => rf_13_12
  | 13, _, true => rt_13_13
  | 13, _, false => rf_13_13
  | 14, _, true => rt_13_14
  | 14, _, false => rf_13_14
  | q + 15, h, _ => absurd h (by omega)

end Go.Proofs.YtelhoddamlkfhaaGreatDoor
