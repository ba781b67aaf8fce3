/- M14: Printed by runsgen.py (own tool): closed runs of PrinterBrackets. -/
import Derived.Test.YtelhoddamlkfhaaGreatDoorM6
namespace Go.Proofs.YtelhoddamlkfhaaGreatDoor
open Go I
set_option maxRecDepth 100000

theorem rf_7_0 : runB 7 0 false = some (.bool true) := by kernel_rfl
theorem rt_7_0 : runB 7 0 true = some (.bool true) := by kernel_rfl
theorem rf_7_1 : runB 7 1 false = some (.bool true) := by kernel_rfl
theorem rt_7_1 : runB 7 1 true = some (.bool true) := by kernel_rfl
theorem rf_7_2 : runB 7 2 false = some (.bool true) := by kernel_rfl
theorem rt_7_2 : runB 7 2 true = some (.bool true) := by kernel_rfl
theorem rf_7_3 : runB 7 3 false = some (.bool true) := by kernel_rfl
theorem rt_7_3 : runB 7 3 true = some (.bool true) := by kernel_rfl
theorem rf_7_4 : runB 7 4 false = some (.bool true) := by kernel_rfl
theorem rt_7_4 : runB 7 4 true = some (.bool true) := by kernel_rfl
theorem rf_7_5 : runB 7 5 false = some (.bool true) := by kernel_rfl
theorem rt_7_5 : runB 7 5 true = some (.bool true) := by kernel_rfl
theorem rf_7_6 : runB 7 6 false = some (.bool true) := by kernel_rfl
theorem rt_7_6 : runB 7 6 true = some (.bool true) := by kernel_rfl
theorem rf_7_7 : runB 7 7 false = some (.bool true) := by kernel_rfl
theorem rt_7_7 : runB 7 7 true = some (.bool true) := by kernel_rfl
theorem rf_7_8 : runB 7 8 false = some (.bool true) := by kernel_rfl
theorem rt_7_8 : runB 7 8 true = some (.bool true) := by kernel_rfl
theorem rf_7_9 : runB 7 9 false = some (.bool true) := by kernel_rfl
theorem rt_7_9 : runB 7 9 true = some (.bool true) := by kernel_rfl
theorem rf_7_10 : runB 7 10 false = some (.bool true) := by kernel_rfl
theorem rt_7_10 : runB 7 10 true = some (.bool true) := by kernel_rfl
theorem rf_7_11 : runB 7 11 false = some (.bool true) := by kernel_rfl
theorem rt_7_11 : runB 7 11 true = some (.bool true) := by kernel_rfl
theorem rf_7_12 : runB 7 12 false = some (.bool true) := by kernel_rfl
theorem rt_7_12 : runB 7 12 true = some (.bool true) := by kernel_rfl
theorem rf_7_13 : runB 7 13 false = some (.bool true) := by kernel_rfl
theorem rt_7_13 : runB 7 13 true = some (.bool true) := by kernel_rfl
theorem rf_7_14 : runB 7 14 false = some (.bool true) := by kernel_rfl
theorem rt_7_14 : runB 7 14 true = some (.bool true) := by kernel_rfl
theorem ra7 : ∀ q : Nat, q < 15 → ∀ s, runB 7 (q : Nat) s = some (.bool true)
  | 0, _, true => rt_7_0
  | 0, _, false => rf_7_0
  | 1, _, true => rt_7_1
  | 1, _, false => rf_7_1
  | 2, _, true => rt_7_2
  | 2, _, false => rf_7_2
  | 3, _, true => rt_7_3
  | 3, _, false => rf_7_3
  | 4, _, true => rt_7_4
  | 4, _, false => rf_7_4
  | 5, _, true => rt_7_5
  | 5, _, false => rf_7_5
  | 6, _, true => rt_7_6
  | 6, _, false => rf_7_6
  | 7, _, true => rt_7_7
  | 7, _, false => rf_7_7
  | 8, _, true => rt_7_8
  | 8, _, false => rf_7_8
  | 9, _, true => rt_7_9
  | 9, _, false => rf_7_9
  | 10, _, true => rt_7_10
  | 10, _, false => rf_7_10
  | 11, _, true => rt_7_11
  | 11, _, false => rf_7_11
  | 12, _, true => rt_7_12
  | 12, _, false => rf_7_12
  | 13, _, true => rt_7_13
  | 13, _, false => rf_7_13
  | 14, _, true => rt_7_14
  | 14, _, false => rf_7_14
  | q + 15, h, _ => absurd h (by omega)

end Go.Proofs.YtelhoddamlkfhaaGreatDoor
