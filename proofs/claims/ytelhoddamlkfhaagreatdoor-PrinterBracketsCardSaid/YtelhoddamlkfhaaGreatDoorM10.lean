/- M10: Printed by runsgen.py (own tool): closed runs of PrinterBrackets. -/
import Derived.Test.YtelhoddamlkfhaaGreatDoorM6
namespace Go.Proofs.YtelhoddamlkfhaaGreatDoor
open Go I
set_option maxRecDepth 100000

theorem rf_3_0 : runB 3 0 false = some (.bool true) := by kernel_rfl
theorem rt_3_0 : runB 3 0 true = some (.bool true) := by kernel_rfl
theorem rf_3_1 : runB 3 1 false = some (.bool true) := by kernel_rfl
theorem rt_3_1 : runB 3 1 true = some (.bool true) := by kernel_rfl
theorem rf_3_2 : runB 3 2 false = some (.bool true) := by kernel_rfl
theorem rt_3_2 : runB 3 2 true = some (.bool true) := by kernel_rfl
theorem rf_3_3 : runB 3 3 false = some (.bool true) := by kernel_rfl
theorem rt_3_3 : runB 3 3 true = some (.bool true) := by kernel_rfl
theorem rf_3_4 : runB 3 4 false = some (.bool true) := by kernel_rfl
theorem rt_3_4 : runB 3 4 true = some (.bool true) := by kernel_rfl
theorem rf_3_5 : runB 3 5 false = some (.bool true) := by kernel_rfl
theorem rt_3_5 : runB 3 5 true = some (.bool true) := by kernel_rfl
theorem rf_3_6 : runB 3 6 false = some (.bool true) := by kernel_rfl
theorem rt_3_6 : runB 3 6 true = some (.bool true) := by kernel_rfl
theorem rf_3_7 : runB 3 7 false = some (.bool true) := by kernel_rfl
theorem rt_3_7 : runB 3 7 true = some (.bool true) := by kernel_rfl
theorem rf_3_8 : runB 3 8 false = some (.bool true) := by kernel_rfl
theorem rt_3_8 : runB 3 8 true = some (.bool true) := by kernel_rfl
theorem rf_3_9 : runB 3 9 false = some (.bool true) := by kernel_rfl
theorem rt_3_9 : runB 3 9 true = some (.bool true) := by kernel_rfl
theorem rf_3_10 : runB 3 10 false = some (.bool true) := by kernel_rfl
theorem rt_3_10 : runB 3 10 true = some (.bool true) := by kernel_rfl
theorem rf_3_11 : runB 3 11 false = some (.bool true) := by kernel_rfl
theorem rt_3_11 : runB 3 11 true = some (.bool true) := by kernel_rfl
theorem rf_3_12 : runB 3 12 false = some (.bool true) := by kernel_rfl
theorem rt_3_12 : runB 3 12 true = some (.bool true) := by kernel_rfl
theorem rf_3_13 : runB 3 13 false = some (.bool true) := by kernel_rfl
theorem rt_3_13 : runB 3 13 true = some (.bool true) := by kernel_rfl
theorem rf_3_14 : runB 3 14 false = some (.bool true) := by kernel_rfl
theorem rt_3_14 : runB 3 14 true = some (.bool true) := by kernel_rfl
theorem ra3 : ∀ q : Nat, q < 15 → ∀ s, runB 3 (q : Nat) s = some (.bool true)
  | 0, _, true => rt_3_0
  | 0, _, false => rf_3_0
  | 1, _, true => rt_3_1
  | 1, _, false => rf_3_1
  | 2, _, true => rt_3_2
  | 2, _, false => rf_3_2
  | 3, _, true => rt_3_3
  | 3, _, false => rf_3_3
  | 4, _, true => rt_3_4
  | 4, _, false => rf_3_4
  | 5, _, true => rt_3_5
  | 5, _, false => rf_3_5
  | 6, _, true => rt_3_6
  | 6, _, false => rf_3_6
  | 7, _, true => rt_3_7
  | 7, _, false => rf_3_7
  | 8, _, true => rt_3_8
  | 8, _, false => rf_3_8
  | 9, _, true => rt_3_9
  | 9, _, false => rf_3_9
  | 10, _, true => rt_3_10
  | 10, _, false => rf_3_10
  | 11, _, true => rt_3_11
  | 11, _, false => rf_3_11
  | 12, _, true => rt_3_12
  | 12, _, false => rf_3_12
  | 13, _, true => rt_3_13
  | 13, _, false => rf_3_13
  | 14, _, true => rt_3_14
  | 14, _, false => rf_3_14
  | q + 15, h, _ => absurd h (by omega)
theorem rf_11_0 : runB 11 0 false = some (.bool true) := by kernel_rfl
theorem rt_11_0 : runB 11 0 true = some (.bool true) := by kernel_rfl
theorem rf_11_1 : runB 11 1 false = some (.bool true) := by kernel_rfl
theorem rt_11_1 : runB 11 1 true = some (.bool true) := by kernel_rfl
theorem rf_11_2 : runB 11 2 false = some (.bool true) := by kernel_rfl
theorem rt_11_2 : runB 11 2 true = some (.bool true) := by kernel_rfl
theorem rf_11_3 : runB 11 3 false = some (.bool true) := by kernel_rfl
theorem rt_11_3 : runB 11 3 true = some (.bool true) := by kernel_rfl
theorem rf_11_4 : runB 11 4 false = some (.bool true) := by kernel_rfl
theorem rt_11_4 : runB 11 4 true = some (.bool true) := by kernel_rfl
theorem rf_11_5 : runB 11 5 false = some (.bool true) := by kernel_rfl
theorem rt_11_5 : runB 11 5 true = some (.bool true) := by kernel_rfl
theorem rf_11_6 : runB 11 6 false = some (.bool true) := by kernel_rfl
theorem rt_11_6 : runB 11 6 true = some (.bool true) := by kernel_rfl
theorem rf_11_7 : runB 11 7 false = some (.bool true) := by kernel_rfl
theorem rt_11_7 : runB 11 7 true = some (.bool true) := by kernel_rfl
theorem rf_11_8 : runB 11 8 false = some (.bool true) := by kernel_rfl
theorem rt_11_8 : runB 11 8 true = some (.bool true) := by kernel_rfl
theorem rf_11_9 : runB 11 9 false = some (.bool true) := by kernel_rfl
theorem rt_11_9 : runB 11 9 true = some (.bool true) := by kernel_rfl
theorem rf_11_10 : runB 11 10 false = some (.bool true) := by kernel_rfl
theorem rt_11_10 : runB 11 10 true = some (.bool true) := by kernel_rfl
theorem rf_11_11 : runB 11 11 false = some (.bool true) := by kernel_rfl
theorem rt_11_11 : runB 11 11 true = some (.bool true) := by kernel_rfl
theorem rf_11_12 : runB 11 12 false = some (.bool true) := by kernel_rfl
theorem rt_11_12 : runB 11 12 true = some (.bool true) := by kernel_rfl
theorem rf_11_13 : runB 11 13 false = some (.bool true) := by kernel_rfl
theorem rt_11_13 : runB 11 13 true = some (.bool true) := by kernel_rfl
theorem rf_11_14 : runB 11 14 false = some (.bool true) := by kernel_rfl
theorem rt_11_14 : runB 11 14 true = some (.bool true) := by kernel_rfl
theorem ra11 : ∀ q : Nat, q < 15 → ∀ s, runB 11 (q : Nat) s = some (.bool true)
  | 0, _, true => rt_11_0
  | 0, _, false => rf_11_0
  | 1, _, true => rt_11_1
  | 1, _, false => rf_11_1
  | 2, _, true => rt_11_2
  | 2, _, false => rf_11_2
  | 3, _, true => rt_11_3
  | 3, _, false => rf_11_3
  | 4, _, true => rt_11_4
  | 4, _, false => rf_11_4
  | 5, _, true => rt_11_5
  | 5, _, false => rf_11_5
  | 6, _, true => rt_11_6
  | 6, _, false => rf_11_6
  | 7, _, true => rt_11_7
  | 7, _, false => rf_11_7
  | 8, _, true => rt_11_8
  | 8, _, false => rf_11_8
  | 9, _, true => rt_11_9
  | 9, _, false => rf_11_9
  | 10, _, true => rt_11_10
  | 10, _, false => rf_11_10
  | 11, _, true => rt_11_11
  | 11, _, false => rf_11_11
  | 12, _, true => rt_11_12
  | 12, _, false => rf_11_12
  | 13, _, true => rt_11_13
  | 13, _, false => rf_11_13
  | 14, _, true => rt_11_14
  | 14, _, false => rf_11_14
  | q + 15, h, _ => absurd h (by omega)

end Go.Proofs.YtelhoddamlkfhaaGreatDoor
