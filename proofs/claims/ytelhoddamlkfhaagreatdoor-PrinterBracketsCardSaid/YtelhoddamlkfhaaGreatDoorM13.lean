/- M13: Printed by runsgen.py (own tool): closed runs of PrinterBrackets. -/
import Derived.Test.YtelhoddamlkfhaaGreatDoorM6
namespace Go.Proofs.YtelhoddamlkfhaaGreatDoor
open Go I
set_option maxRecDepth 100000

theorem rf_6_0 : runB 6 0 false = some (.bool true) := by kernel_rfl
theorem rt_6_0 : runB 6 0 true = some (.bool true) := by kernel_rfl
theorem rf_6_1 : runB 6 1 false = some (.bool true) := by kernel_rfl
theorem rt_6_1 : runB 6 1 true = some (.bool true) := by kernel_rfl
theorem rf_6_2 : runB 6 2 false = some (.bool true) := by kernel_rfl
theorem rt_6_2 : runB 6 2 true = some (.bool true) := by kernel_rfl
theorem rf_6_3 : runB 6 3 false = some (.bool true) := by kernel_rfl
theorem rt_6_3 : runB 6 3 true = some (.bool true) := by kernel_rfl
theorem rf_6_4 : runB 6 4 false = some (.bool true) := by kernel_rfl
theorem rt_6_4 : runB 6 4 true = some (.bool true) := by kernel_rfl
theorem rf_6_5 : runB 6 5 false = some (.bool true) := by kernel_rfl
theorem rt_6_5 : runB 6 5 true = some (.bool true) := by kernel_rfl
theorem rf_6_6 : runB 6 6 false = some (.bool true) := by kernel_rfl
theorem rt_6_6 : runB 6 6 true = some (.bool true) := by kernel_rfl
theorem rf_6_7 : runB 6 7 false = some (.bool true) := by kernel_rfl
theorem rt_6_7 : runB 6 7 true = some (.bool true) := by kernel_rfl
theorem rf_6_8 : runB 6 8 false = some (.bool true) := by kernel_rfl
theorem rt_6_8 : runB 6 8 true = some (.bool true) := by kernel_rfl
theorem rf_6_9 : runB 6 9 false = some (.bool true) := by kernel_rfl
theorem rt_6_9 : runB 6 9 true = some (.bool true) := by kernel_rfl
theorem rf_6_10 : runB 6 10 false = some (.bool true) := by kernel_rfl
theorem rt_6_10 : runB 6 10 true = some (.bool true) := by kernel_rfl
theorem rf_6_11 : runB 6 11 false = some (.bool true) := by kernel_rfl
theorem rt_6_11 : runB 6 11 true = some (.bool true) := by kernel_rfl
theorem rf_6_12 : runB 6 12 false = some (.bool true) := by kernel_rfl
theorem rt_6_12 : runB 6 12 true = some (.bool true) := by kernel_rfl
theorem rf_6_13 : runB 6 13 false = some (.bool true) := by kernel_rfl
theorem rt_6_13 : runB 6 13 true = some (.bool true) := by kernel_rfl
theorem rf_6_14 : runB 6 14 false = some (.bool true) := by kernel_rfl
theorem rt_6_14 : runB 6 14 true = some (.bool true) := by kernel_rfl
theorem ra6 : ∀ q : Nat, q < 15 → ∀ s, runB 6 (q : Nat) s = some (.bool true)
  | 0, _, true => rt_6_0
  | 0, _, false => rf_6_0
  | 1, _, true => rt_6_1
  | 1, _, false => rf_6_1
  | 2, _, true => rt_6_2
  | 2, _, false => rf_6_2
  | 3, _, true => rt_6_3
  | 3, _, false => rf_6_3
  | 4, _, true => rt_6_4
  | 4, _, false => rf_6_4
  | 5, _, true => rt_6_5
  | 5, _, false => rf_6_5
  | 6, _, true => rt_6_6
  | 6, _, false => rf_6_6
  | 7, _, true => rt_6_7
  | 7, _, false => rf_6_7
  | 8, _, true => rt_6_8
  | 8, _, false => rf_6_8
  | 9, _, true => rt_6_9
  | 9, _, false => rf_6_9
  | 10, _, true => rt_6_10
  | 10, _, false => rf_6_10
  | 11, _, true => rt_6_11
  | 11, _, false => rf_6_11
  | 12, _, true => rt_6_12
  | 12, _, false => rf_6_12
  | 13, _, true => rt_6_13
  | 13, _, false => rf_6_13
  | 14, _, true => rt_6_14
  | 14, _, false => rf_6_14
  | q + 15, h, _ => absurd h (by omega)
theorem rf_14_0 : runB 14 0 false = some (.bool true) := by kernel_rfl
theorem rt_14_0 : runB 14 0 true = some (.bool true) := by kernel_rfl
theorem rf_14_1 : runB 14 1 false = some (.bool true) := by kernel_rfl
theorem rt_14_1 : runB 14 1 true = some (.bool true) := by kernel_rfl
theorem rf_14_2 : runB 14 2 false = some (.bool true) := by kernel_rfl
theorem rt_14_2 : runB 14 2 true = some (.bool true) := by kernel_rfl
theorem rf_14_3 : runB 14 3 false = some (.bool true) := by kernel_rfl
theorem rt_14_3 : runB 14 3 true = some (.bool true) := by kernel_rfl
theorem rf_14_4 : runB 14 4 false = some (.bool true) := by kernel_rfl
theorem rt_14_4 : runB 14 4 true = some (.bool true) := by kernel_rfl
theorem rf_14_5 : runB 14 5 false = some (.bool true) := by kernel_rfl
theorem rt_14_5 : runB 14 5 true = some (.bool true) := by kernel_rfl
theorem rf_14_6 : runB 14 6 false = some (.bool true) := by kernel_rfl
theorem rt_14_6 : runB 14 6 true = some (.bool true) := by kernel_rfl
theorem rf_14_7 : runB 14 7 false = some (.bool true) := by kernel_rfl
theorem rt_14_7 : runB 14 7 true = some (.bool true) := by kernel_rfl
theorem rf_14_8 : runB 14 8 false = some (.bool true) := by kernel_rfl
theorem rt_14_8 : runB 14 8 true = some (.bool true) := by kernel_rfl
theorem rf_14_9 : runB 14 9 false = some (.bool true) := by kernel_rfl
theorem rt_14_9 : runB 14 9 true = some (.bool true) := by kernel_rfl
theorem rf_14_10 : runB 14 10 false = some (.bool true) := by kernel_rfl
theorem rt_14_10 : runB 14 10 true = some (.bool true) := by kernel_rfl
theorem rf_14_11 : runB 14 11 false = some (.bool true) := by kernel_rfl
theorem rt_14_11 : runB 14 11 true = some (.bool true) := by kernel_rfl
theorem rf_14_12 : runB 14 12 false = some (.bool true) := by kernel_rfl
theorem rt_14_12 : runB 14 12 true = some (.bool true) := by kernel_rfl
theorem rf_14_13 : runB 14 13 false = some (.bool true) := by kernel_rfl
theorem rt_14_13 : runB 14 13 true = some (.bool true) := by kernel_rfl
theorem rf_14_14 : runB 14 14 false = some (.bool true) := by kernel_rfl
theorem rt_14_14 : runB 14 14 true = some (.bool true) := by kernel_rfl
theorem ra14 : ∀ q : Nat, q < 15 → ∀ s, runB 14 (q : Nat) s = some (.bool true)
  | 0, _, true => rt_14_0
  | 0, _, false => rf_14_0
  | 1, _, true => rt_14_1
  | 1, _, false => rf_14_1
  | 2, _, true => rt_14_2
  | 2, _, false => rf_14_2
  | 3, _, true => rt_14_3
  | 3, _, false => rf_14_3
  | 4, _, true => rt_14_4
  | 4, _, false => rf_14_4
  | 5, _, true => rt_14_5
  | 5, _, false => rf_14_5
  | 6, _, true => rt_14_6
  | 6, _, false => rf_14_6
  | 7, _, true => rt_14_7
  | 7, _, false => rf_14_7
  | 8, _, true => rt_14_8
  | 8, _, false => rf_14_8
  | 9, _, true => rt_14_9
  | 9, _, false => rf_14_9
  | 10, _, true => rt_14_10
  | 10, _, false => rf_14_10
  | 11, _, true => rt_14_11
  | 11, _, false => rf_14_11
  | 12, _, true => rt_14_12
  | 12, _, false => rf_14_12
  | 13, _, true => rt_14_13
  | 13, _, false => rf_14_13
  | 14, _, true => rt_14_14
  | 14, _, false => rf_14_14
  | q + 15, h, _ => absurd h (by omega)

end Go.Proofs.YtelhoddamlkfhaaGreatDoor
