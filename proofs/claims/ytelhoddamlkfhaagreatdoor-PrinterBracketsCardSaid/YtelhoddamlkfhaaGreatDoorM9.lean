/- M9: Printed by runsgen.py (own tool): closed runs of PrinterBrackets. -/
import Derived.Test.YtelhoddamlkfhaaGreatDoorM6
namespace Go.Proofs.YtelhoddamlkfhaaGreatDoor
open Go I
set_option maxRecDepth 100000

theorem rf_2_0 : runB 2 0 false = some (.bool true) := by kernel_rfl
theorem rt_2_0 : runB 2 0 true = some (.bool true) := by kernel_rfl
theorem rf_2_1 : runB 2 1 false = some (.bool true) := by kernel_rfl
theorem rt_2_1 : runB 2 1 true = some (.bool true) := by kernel_rfl
theorem rf_2_2 : runB 2 2 false = some (.bool true) := by kernel_rfl
theorem rt_2_2 : runB 2 2 true = some (.bool true) := by kernel_rfl
theorem rf_2_3 : runB 2 3 false = some (.bool true) := by kernel_rfl
theorem rt_2_3 : runB 2 3 true = some (.bool true) := by kernel_rfl
theorem rf_2_4 : runB 2 4 false = some (.bool true) := by kernel_rfl
theorem rt_2_4 : runB 2 4 true = some (.bool true) := by kernel_rfl
theorem rf_2_5 : runB 2 5 false = some (.bool true) := by kernel_rfl
theorem rt_2_5 : runB 2 5 true = some (.bool true) := by kernel_rfl
theorem rf_2_6 : runB 2 6 false = some (.bool true) := by kernel_rfl
theorem rt_2_6 : runB 2 6 true = some (.bool true) := by kernel_rfl
theorem rf_2_7 : runB 2 7 false = some (.bool true) := by kernel_rfl
theorem rt_2_7 : runB 2 7 true = some (.bool true) := by kernel_rfl
theorem rf_2_8 : runB 2 8 false = some (.bool true) := by kernel_rfl
theorem rt_2_8 : runB 2 8 true = some (.bool true) := by kernel_rfl
theorem rf_2_9 : runB 2 9 false = some (.bool true) := by kernel_rfl
theorem rt_2_9 : runB 2 9 true = some (.bool true) := by kernel_rfl
theorem rf_2_10 : runB 2 10 false = some (.bool true) := by kernel_rfl
theorem rt_2_10 : runB 2 10 true = some (.bool true) := by kernel_rfl
theorem rf_2_11 : runB 2 11 false = some (.bool true) := by kernel_rfl
theorem rt_2_11 : runB 2 11 true = some (.bool true) := by kernel_rfl
theorem rf_2_12 : runB 2 12 false = some (.bool true) := by kernel_rfl
theorem rt_2_12 : runB 2 12 true = some (.bool true) := by kernel_rfl
theorem rf_2_13 : runB 2 13 false = some (.bool true) := by kernel_rfl
theorem rt_2_13 : runB 2 13 true = some (.bool true) := by kernel_rfl
theorem rf_2_14 : runB 2 14 false = some (.bool true) := by kernel_rfl
theorem rt_2_14 : runB 2 14 true = some (.bool true) := by kernel_rfl
theorem ra2 : ∀ q : Nat, q < 15 → ∀ s, runB 2 (q : Nat) s = some (.bool true)
  | 0, _, true => rt_2_0
  | 0, _, false => rf_2_0
  | 1, _, true => rt_2_1
  | 1, _, false => rf_2_1
  | 2, _, true => rt_2_2
  | 2, _, false => rf_2_2
  | 3, _, true => rt_2_3
  | 3, _, false => rf_2_3
  | 4, _, true => rt_2_4
  | 4, _, false => rf_2_4
  | 5, _, true => rt_2_5
  | 5, _, false => rf_2_5
  | 6, _, true => rt_2_6
  | 6, _, false => rf_2_6
  | 7, _, true => rt_2_7
  | 7, _, false => rf_2_7
  | 8, _, true => rt_2_8
  | 8, _, false => rf_2_8
  | 9, _, true => rt_2_9
  | 9, _, false => rf_2_9
  | 10, _, true => rt_2_10
  | 10, _, false => rf_2_10
  | 11, _, true => rt_2_11
  | 11, _, false => rf_2_11
  | 12, _, true => rt_2_12
  | 12, _, false => rf_2_12
  | 13, _, true => rt_2_13
  | 13, _, false => rf_2_13
  | 14, _, true => rt_2_14
  | 14, _, false => rf_2_14
  | q + 15, h, _ => absurd h (by omega)
theorem rf_10_0 : runB 10 0 false = some (.bool true) := by kernel_rfl
theorem rt_10_0 : runB 10 0 true = some (.bool true) := by kernel_rfl
theorem rf_10_1 : runB 10 1 false = some (.bool true) := by kernel_rfl
theorem rt_10_1 : runB 10 1 true = some (.bool true) := by kernel_rfl
theorem rf_10_2 : runB 10 2 false = some (.bool true) := by kernel_rfl
theorem rt_10_2 : runB 10 2 true = some (.bool true) := by kernel_rfl
theorem rf_10_3 : runB 10 3 false = some (.bool true) := by kernel_rfl
theorem rt_10_3 : runB 10 3 true = some (.bool true) := by kernel_rfl
theorem rf_10_4 : runB 10 4 false = some (.bool true) := by kernel_rfl
theorem rt_10_4 : runB 10 4 true = some (.bool true) := by kernel_rfl
theorem rf_10_5 : runB 10 5 false = some (.bool true) := by kernel_rfl
theorem rt_10_5 : runB 10 5 true = some (.bool true) := by kernel_rfl
theorem rf_10_6 : runB 10 6 false = some (.bool true) := by kernel_rfl
theorem rt_10_6 : runB 10 6 true = some (.bool true) := by kernel_rfl
theorem rf_10_7 : runB 10 7 false = some (.bool true) := by kernel_rfl
theorem rt_10_7 : runB 10 7 true = some (.bool true) := by kernel_rfl
theorem rf_10_8 : runB 10 8 false = some (.bool true) := by kernel_rfl
theorem rt_10_8 : runB 10 8 true = some (.bool true) := by kernel_rfl
theorem rf_10_9 : runB 10 9 false = some (.bool true) := by kernel_rfl
theorem rt_10_9 : runB 10 9 true = some (.bool true) := by kernel_rfl
theorem rf_10_10 : runB 10 10 false = some (.bool true) := by kernel_rfl
theorem rt_10_10 : runB 10 10 true = some (.bool true) := by kernel_rfl
theorem rf_10_11 : runB 10 11 false = some (.bool true) := by kernel_rfl
theorem rt_10_11 : runB 10 11 true = some (.bool true) := by kernel_rfl
theorem rf_10_12 : runB 10 12 false = some (.bool true) := by kernel_rfl
theorem rt_10_12 : runB 10 12 true = some (.bool true) := by kernel_rfl
theorem rf_10_13 : runB 10 13 false = some (.bool true) := by kernel_rfl
theorem rt_10_13 : runB 10 13 true = some (.bool true) := by kernel_rfl
theorem rf_10_14 : runB 10 14 false = some (.bool true) := by kernel_rfl
theorem rt_10_14 : runB 10 14 true = some (.bool true) := by kernel_rfl
theorem ra10 : ∀ q : Nat, q < 15 → ∀ s, runB 10 (q : Nat) s = some (.bool true)
  | 0, _, true => rt_10_0
  | 0, _, false => rf_10_0
  | 1, _, true => rt_10_1
  | 1, _, false => rf_10_1
  | 2, _, true => rt_10_2
  | 2, _, false => rf_10_2
  | 3, _, true => rt_10_3
  | 3, _, false => rf_10_3
  | 4, _, true => rt_10_4
  | 4, _, false => rf_10_4
  | 5, _, true => rt_10_5
  | 5, _, false => rf_10_5
  | 6, _, true => rt_10_6
  | 6, _, false => rf_10_6
  | 7, _, true => rt_10_7
  | 7, _, false => rf_10_7
  | 8, _, true => rt_10_8
  | 8, _, false => rf_10_8
  | 9, _, true => rt_10_9
  | 9, _, false => rf_10_9
  | 10, _, true => rt_10_10
  | 10, _, false => rf_10_10
  | 11, _, true => rt_10_11
  | 11, _, false => rf_10_11
  | 12, _, true => rt_10_12
  | 12, _, false => rf_10_12
  | 13, _, true => rt_10_13
  | 13, _, false => rf_10_13
  | 14, _, true => rt_10_14
  | 14, _, false => rf_10_14
  | q + 15, h, _ => absurd h (by omega)

end Go.Proofs.YtelhoddamlkfhaaGreatDoor
