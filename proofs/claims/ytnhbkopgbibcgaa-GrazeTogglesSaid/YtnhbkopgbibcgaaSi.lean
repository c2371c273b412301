/- All states of a pasture of six rows and columns, looked through by the kernel; printed by a program. -/
import Derived.Test.YtnhbkopgbibcgaaSf
namespace Go.Proofs.Ytnhbkopgbibcgaa
set_option maxRecDepth 100000 in
theorem dc66x0 : (stF 5 0 ([] ++ [((0 : Nat) : Int)])).all (dayCB 6 6) = true := by decide +kernel
set_option maxRecDepth 100000 in
theorem dc66x1 : (stF 5 1 ([] ++ [((1 : Nat) : Int)])).all (dayCB 6 6) = true := by decide +kernel
set_option maxRecDepth 100000 in
theorem dc66x2 : (stF 5 2 ([] ++ [((2 : Nat) : Int)])).all (dayCB 6 6) = true := by decide +kernel
set_option maxRecDepth 100000 in
theorem dc66x3 : (stF 5 3 ([] ++ [((3 : Nat) : Int)])).all (dayCB 6 6) = true := by decide +kernel
set_option maxRecDepth 100000 in
theorem dc66x4 : (stF 5 4 ([] ++ [((4 : Nat) : Int)])).all (dayCB 6 6) = true := by decide +kernel
set_option maxRecDepth 100000 in
theorem dc66x5 : (stF 5 5 ([] ++ [((5 : Nat) : Int)])).all (dayCB 6 6) = true := by decide +kernel
set_option maxRecDepth 100000 in
theorem dc66x6 : (stF 5 6 ([] ++ [((6 : Nat) : Int)])).all (dayCB 6 6) = true := by decide +kernel
theorem dc66 : (stF 6 6 []).all (dayCB 6 6) = true := by
  rw [stF_succ, stTo, List.all_flatMap, List.all_eq_true]
  intro x hx
  rw [List.mem_range] at hx
  have a : x = 0 ∨ x = 1 ∨ x = 2 ∨ x = 3 ∨ x = 4 ∨ x = 5 ∨ x = 6 := by omega
  rcases a with rfl | rfl | rfl | rfl | rfl | rfl | rfl
  · exact dc66x0
  · exact dc66x1
  · exact dc66x2
  · exact dc66x3
  · exact dc66x4
  · exact dc66x5
  · exact dc66x6
end Go.Proofs.Ytnhbkopgbibcgaa
