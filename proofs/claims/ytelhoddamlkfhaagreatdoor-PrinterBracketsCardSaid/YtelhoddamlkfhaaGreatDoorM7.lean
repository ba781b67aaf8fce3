/- M7: Printed by runsgen.py (own tool): closed runs of PrinterBrackets. -/
import Derived.Test.YtelhoddamlkfhaaGreatDoorM6
namespace Go.Proofs.YtelhoddamlkfhaaGreatDoor
open Go I
set_option maxRecDepth 100000

theorem rf_0_0 : runB 0 0 false = some (.bool true) := by kernel_rfl
theorem rt_0_0 : runB 0 0 true = some (.bool true) := by kernel_rfl
theorem rf_0_1 : runB 0 1 false = some (.bool true) := by kernel_rfl
theorem rt_0_1 : runB 0 1 true = some (.bool true) := by kernel_rfl
theorem rf_0_2 : runB 0 2 false = some (.bool true) := by kernel_rfl
theorem rt_0_2 : runB 0 2 true = some (.bool true) := by kernel_rfl
theorem rf_0_3 : runB 0 3 false = some (.bool true) := by kernel_rfl
theorem rt_0_3 : runB 0 3 true = some (.bool true) := by kernel_rfl
theorem rf_0_4 : runB 0 4 false = some (.bool true) := by kernel_rfl
theorem rt_0_4 : runB 0 4 true = some (.bool true) := by kernel_rfl
theorem rf_0_5 : runB 0 5 false = some (.bool true) := by kernel_rfl
theorem rt_0_5 : runB 0 5 true = some (.bool true) := by kernel_rfl
theorem rf_0_6 : runB 0 6 false = some (.bool true) := by kernel_rfl
theorem rt_0_6 : runB 0 6 true = some (.bool true) := by kernel_rfl
theorem rf_0_7 : runB 0 7 false = some (.bool true) := by kernel_rfl
theorem rt_0_7 : runB 0 7 true = some (.bool true) := by kernel_rfl
theorem rf_0_8 : runB 0 8 false = some (.bool true) := by kernel_rfl
theorem rt_0_8 : runB 0 8 true = some (.bool true) := by kernel_rfl
theorem rf_0_9 : runB 0 9 false = some (.bool true) := by kernel_rfl
theorem rt_0_9 : runB 0 9 true = some (.bool true) := by kernel_rfl
theorem rf_0_10 : runB 0 10 false = some (.bool true) := by kernel_rfl
theorem rt_0_10 : runB 0 10 true = some (.bool true) := by kernel_rfl
theorem rf_0_11 : runB 0 11 false = some (.bool true) := by kernel_rfl
theorem rt_0_11 : runB 0 11 true = some (.bool true) := by kernel_rfl
theorem rf_0_12 : runB 0 12 false = some (.bool true) := by kernel_rfl
theorem rt_0_12 : runB 0 12 true = some (.bool true) := by kernel_rfl
theorem rf_0_13 : runB 0 13 false = some (.bool true) := by kernel_rfl
theorem rt_0_13 : runB 0 13 true = some (.bool true) := by kernel_rfl
theorem rf_0_14 : runB 0 14 false = some (.bool true) := by kernel_rfl
theorem rt_0_14 : runB 0 14 true = some (.bool true) := by kernel_rfl
theorem ra0 : ∀ q : Nat, q < 15 → ∀ s, runB 0 (q : Nat) s = some (.bool true)
  | 0, _, true => rt_0_0
  | 0, _, false => rf_0_0
  | 1, _, true => rt_0_1
  | 1, _, false => rf_0_1
  | 2, _, true => rt_0_2
  | 2, _, false => rf_0_2
  | 3, _, true => rt_0_3
  | 3, _, false => rf_0_3
  | 4, _, true => rt_0_4
  | 4, _, false => rf_0_4
  | 5, _, true => rt_0_5
  | 5, _, false => rf_0_5
  | 6, _, true => rt_0_6
  | 6, _, false => rf_0_6
  | 7, _, true => rt_0_7
  | 7, _, false => rf_0_7
  | 8, _, true => rt_0_8
  | 8, _, false => rf_0_8
  | 9, _, true => rt_0_9
  | 9, _, false => rf_0_9
  | 10, _, true => rt_0_10
  | 10, _, false => rf_0_10
  | 11, _, true => rt_0_11
  | 11, _, false => rf_0_11
  | 12, _, true => rt_0_12
  | 12, _, false => rf_0_12
  | 13, _, true => rt_0_13
  | 13, _, false => rf_0_13
  | 14, _, true => rt_0_14
  | 14, _, false => rf_0_14
  | q + 15, h, _ => absurd h (by omega)
theorem rf_8_0 : runB 8 0 false = some (.bool true) := by kernel_rfl
theorem rt_8_0 : runB 8 0 true = some (.bool true) := by kernel_rfl
theorem rf_8_1 : runB 8 1 false = some (.bool true) := by kernel_rfl
theorem rt_8_1 : runB 8 1 true = some (.bool true) := by kernel_rfl
theorem rf_8_2 : runB 8 2 false = some (.bool true) := by kernel_rfl
theorem rt_8_2 : runB 8 2 true = some (.bool true) := by kernel_rfl
theorem rf_8_3 : runB 8 3 false = some (.bool true) := by kernel_rfl
theorem rt_8_3 : runB 8 3 true = some (.bool true) := by kernel_rfl
theorem rf_8_4 : runB 8 4 false = some (.bool true) := by kernel_rfl
theorem rt_8_4 : runB 8 4 true = some (.bool true) := by kernel_rfl
theorem rf_8_5 : runB 8 5 false = some (.bool true) := by kernel_rfl
theorem rt_8_5 : runB 8 5 true = some (.bool true) := by kernel_rfl
theorem rf_8_6 : runB 8 6 false = some (.bool true) := by kernel_rfl
theorem rt_8_6 : runB 8 6 true = some (.bool true) := by kernel_rfl
theorem rf_8_7 : runB 8 7 false = some (.bool true) := by kernel_rfl
theorem rt_8_7 : runB 8 7 true = some (.bool true) := by kernel_rfl
theorem rf_8_8 : runB 8 8 false = some (.bool true) := by kernel_rfl
theorem rt_8_8 : runB 8 8 true = some (.bool true) := by kernel_rfl
theorem rf_8_9 : runB 8 9 false = some (.bool true) := by kernel_rfl
theorem rt_8_9 : runB 8 9 true = some (.bool true) := by kernel_rfl
theorem rf_8_10 : runB 8 10 false = some (.bool true) := by kernel_rfl
theorem rt_8_10 : runB 8 10 true = some (.bool true) := by kernel_rfl
theorem rf_8_11 : runB 8 11 false = some (.bool true) := by kernel_rfl
theorem rt_8_11 : runB 8 11 true = some (.bool true) := by kernel_rfl
theorem rf_8_12 : runB 8 12 false = some (.bool true) := by kernel_rfl
theorem rt_8_12 : runB 8 12 true = some (.bool true) := by kernel_rfl
theorem rf_8_13 : runB 8 13 false = some (.bool true) := by kernel_rfl
theorem rt_8_13 : runB 8 13 true = some (.bool true) := by kernel_rfl
theorem rf_8_14 : runB 8 14 false = some (.bool true) := by kernel_rfl
theorem rt_8_14 : runB 8 14 true = some (.bool true) := by kernel_rfl
theorem ra8 : ∀ q : Nat, q < 15 → ∀ s, runB 8 (q : Nat) s = some (.bool true)
  | 0, _, true => rt_8_0
  | 0, _, false => rf_8_0
  | 1, _, true => rt_8_1
  | 1, _, false => rf_8_1
  | 2, _, true => rt_8_2
  | 2, _, false => rf_8_2
  | 3, _, true => rt_8_3
  | 3, _, false => rf_8_3
  | 4, _, true => rt_8_4
  | 4, _, false => rf_8_4
  | 5, _, true => rt_8_5
  | 5, _, false => rf_8_5
  | 6, _, true => rt_8_6
  | 6, _, false => rf_8_6
  | 7, _, true => rt_8_7
  | 7, _, false => rf_8_7
  | 8, _, true => rt_8_8
  | 8, _, false => rf_8_8
  | 9, _, true => rt_8_9
  | 9, _, false => rf_8_9
  | 10, _, true => rt_8_10
  | 10, _, false => rf_8_10
  | 11, _, true => rt_8_11
  | 11, _, false => rf_8_11
  | 12, _, true => rt_8_12
  | 12, _, false => rf_8_12
  | 13, _, true => rt_8_13
  | 13, _, false => rf_8_13
  | 14, _, true => rt_8_14
  | 14, _, false => rf_8_14
  | q + 15, h, _ => absurd h (by omega)

end Go.Proofs.YtelhoddamlkfhaaGreatDoor
