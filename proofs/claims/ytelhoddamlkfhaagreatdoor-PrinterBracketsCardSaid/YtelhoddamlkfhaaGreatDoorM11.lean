/- M11: Printed by runsgen.py (own tool): closed runs of PrinterBrackets. -/
import Derived.Test.YtelhoddamlkfhaaGreatDoorM6
namespace Go.Proofs.YtelhoddamlkfhaaGreatDoor
open Go I
set_option maxRecDepth 100000

theorem rf_4_0 : runB 4 0 false = some (.bool true) := by kernel_rfl
theorem rt_4_0 : runB 4 0 true = some (.bool true) := by kernel_rfl
theorem rf_4_1 : runB 4 1 false = some (.bool true) := by kernel_rfl
theorem rt_4_1 : runB 4 1 true = some (.bool true) := by kernel_rfl
theorem rf_4_2 : runB 4 2 false = some (.bool true) := by kernel_rfl
theorem rt_4_2 : runB 4 2 true = some (.bool true) := by kernel_rfl
theorem rf_4_3 : runB 4 3 false = some (.bool true) := by kernel_rfl
theorem rt_4_3 : runB 4 3 true = some (.bool true) := by kernel_rfl
theorem rf_4_4 : runB 4 4 false = some (.bool true) := by kernel_rfl
theorem rt_4_4 : runB 4 4 true = some (.bool true) := by kernel_rfl
theorem rf_4_5 : runB 4 5 false = some (.bool true) := by kernel_rfl
theorem rt_4_5 : runB 4 5 true = some (.bool true) := by kernel_rfl
theorem rf_4_6 : runB 4 6 false = some (.bool true) := by kernel_rfl
theorem rt_4_6 : runB 4 6 true = some (.bool true) := by kernel_rfl
theorem rf_4_7 : runB 4 7 false = some (.bool true) := by kernel_rfl
theorem rt_4_7 : runB 4 7 true = some (.bool true) := by kernel_rfl
theorem rf_4_8 : runB 4 8 false = some (.bool true) := by kernel_rfl
theorem rt_4_8 : runB 4 8 true = some (.bool true) := by kernel_rfl
theorem rf_4_9 : runB 4 9 false = some (.bool true) := by kernel_rfl
theorem rt_4_9 : runB 4 9 true = some (.bool true) := by kernel_rfl
theorem rf_4_10 : runB 4 10 false = some (.bool true) := by kernel_rfl
theorem rt_4_10 : runB 4 10 true = some (.bool true) := by kernel_rfl
theorem rf_4_11 : runB 4 11 false = some (.bool true) := by kernel_rfl
theorem rt_4_11 : runB 4 11 true = some (.bool true) := by kernel_rfl
theorem rf_4_12 : runB 4 12 false = some (.bool true) := by kernel_rfl
theorem rt_4_12 : runB 4 12 true = some (.bool true) := by kernel_rfl
theorem rf_4_13 : runB 4 13 false = some (.bool true) := by kernel_rfl
theorem rt_4_13 : runB 4 13 true = some (.bool true) := by kernel_rfl
theorem rf_4_14 : runB 4 14 false = some (.bool true) := by kernel_rfl
theorem rt_4_14 : runB 4 14 true = some (.bool true) := by kernel_rfl
theorem ra4 : ∀ q : Nat, q < 15 → ∀ s, runB 4 (q : Nat) s = some (.bool true)
  | 0, _, true => rt_4_0
  | 0, _, false => rf_4_0
  | 1, _, true => rt_4_1
  | 1, _, false => rf_4_1
  | 2, _, true => rt_4_2
  | 2, _, false => rf_4_2
  | 3, _, true => rt_4_3
  | 3, _, false => rf_4_3
  | 4, _, true => rt_4_4
  | 4, _, false => rf_4_4
  | 5, _, true => rt_4_5
  | 5, _, false => rf_4_5
  | 6, _, true => rt_4_6
  | 6, _, false => rf_4_6
  | 7, _, true => rt_4_7
  | 7, _, false => rf_4_7
  | 8, _, true => rt_4_8
  | 8, _, false => rf_4_8
  | 9, _, true => rt_4_9
  | 9, _, false => rf_4_9
  | 10, _, true => rt_4_10
  | 10, _, false => rf_4_10
  | 11, _, true => rt_4_11
  | 11, _, false => rf_4_11
  | 12, _, true => rt_4_12
  | 12, _, false => rf_4_12
  | 13, _, true => rt_4_13
  | 13, _, false => rf_4_13
  | 14, _, true => rt_4_14
  | 14, _, false => rf_4_14
  | q + 15, h, _ => absurd h (by omega)
theorem rf_12_0 : runB 12 0 false = some (.bool true) := by kernel_rfl
theorem rt_12_0 : runB 12 0 true = some (.bool true) := by kernel_rfl
theorem rf_12_1 : runB 12 1 false = some (.bool true) := by kernel_rfl
theorem rt_12_1 : runB 12 1 true = some (.bool true) := by kernel_rfl
theorem rf_12_2 : runB 12 2 false = some (.bool true) := by kernel_rfl
theorem rt_12_2 : runB 12 2 true = some (.bool true) := by kernel_rfl
theorem rf_12_3 : runB 12 3 false = some (.bool true) := by kernel_rfl
theorem rt_12_3 : runB 12 3 true = some (.bool true) := by kernel_rfl
theorem rf_12_4 : runB 12 4 false = some (.bool true) := by kernel_rfl
theorem rt_12_4 : runB 12 4 true = some (.bool true) := by kernel_rfl
theorem rf_12_5 : runB 12 5 false = some (.bool true) := by kernel_rfl
theorem rt_12_5 : runB 12 5 true = some (.bool true) := by kernel_rfl
theorem rf_12_6 : runB 12 6 false = some (.bool true) := by kernel_rfl
theorem rt_12_6 : runB 12 6 true = some (.bool true) := by kernel_rfl
theorem rf_12_7 : runB 12 7 false = some (.bool true) := by kernel_rfl
theorem rt_12_7 : runB 12 7 true = some (.bool true) := by kernel_rfl
theorem rf_12_8 : runB 12 8 false = some (.bool true) := by kernel_rfl
theorem rt_12_8 : runB 12 8 true = some (.bool true) := by kernel_rfl
theorem rf_12_9 : runB 12 9 false = some (.bool true) := by kernel_rfl
theorem rt_12_9 : runB 12 9 true = some (.bool true) := by kernel_rfl
theorem rf_12_10 : runB 12 10 false = some (.bool true) := by kernel_rfl
theorem rt_12_10 : runB 12 10 true = some (.bool true) := by kernel_rfl
theorem rf_12_11 : runB 12 11 false = some (.bool true) := by kernel_rfl
theorem rt_12_11 : runB 12 11 true = some (.bool true) := by kernel_rfl
theorem rf_12_12 : runB 12 12 false = some (.bool true) := by kernel_rfl
theorem rt_12_12 : runB 12 12 true = some (.bool true) := by kernel_rfl
theorem rf_12_13 : runB 12 13 false = some (.bool true) := by kernel_rfl
theorem rt_12_13 : runB 12 13 true = some (.bool true) := by kernel_rfl
theorem rf_12_14 : runB 12 14 false = some (.bool true) := by kernel_rfl
theorem rt_12_14 : runB 12 14 true = some (.bool true) := by kernel_rfl
theorem ra12 : ∀ q : Nat, q < 15 → ∀ s, runB 12 (q : Nat) s = some (.bool true)
  | 0, _, true => rt_12_0
  | 0, _, false => rf_12_0
  | 1, _, true => rt_12_1
  | 1, _, false => rf_12_1
  | 2, _, true => rt_12_2
  | 2, _, false => rf_12_2
  | 3, _, true => rt_12_3
  | 3, _, false => rf_12_3
  | 4, _, true => rt_12_4
  | 4, _, false => rf_12_4
  | 5, _, true => rt_12_5
  | 5, _, false => rf_12_5
  | 6, _, true => rt_12_6
  | 6, _, false => rf_12_6
  | 7, _, true => rt_12_7
  | 7, _, false => rf_12_7
  | 8, _, true => rt_12_8
  | 8, _, false => rf_12_8
  | 9, _, true => rt_12_9
  | 9, _, false => rf_12_9
  | 10, _, true => rt_12_10
  | 10, _, false => rf_12_10
  | 11, _, true => rt_12_11
  | 11, _, false => rf_12_11
  | 12, _, true => rt_12_12
  | 12, _, false => rf_12_12
  | 13, _, true => rt_12_13
  | 13, _, false => rf_12_13
  | 14, _, true => rt_12_14
  | 14, _, false => rf_12_14
  | q + 15, h, _ => absurd h (by omega)

end Go.Proofs.YtelhoddamlkfhaaGreatDoor
