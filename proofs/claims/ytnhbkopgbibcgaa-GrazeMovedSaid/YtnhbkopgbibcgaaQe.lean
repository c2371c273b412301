/- All states of a pasture, looked through by the kernel; printed by a program. -/
import Derived.Test.YtnhbkopgbibcgaaQd
namespace Go.Proofs.Ytnhbkopgbibcgaa
set_option maxRecDepth 100000 in
theorem wd66 : (stF 6 6 []).all (movedB 6 6) = true := by decide +kernel
set_option maxRecDepth 100000 in
theorem wd11 : (stF 1 1 []).all (movedB 1 1) = true := by decide +kernel
set_option maxRecDepth 100000 in
theorem wd12 : (stF 1 2 []).all (movedB 1 2) = true := by decide +kernel
set_option maxRecDepth 100000 in
theorem wd13 : (stF 1 3 []).all (movedB 1 3) = true := by decide +kernel
set_option maxRecDepth 100000 in
theorem wd14 : (stF 1 4 []).all (movedB 1 4) = true := by decide +kernel
set_option maxRecDepth 100000 in
theorem wd15 : (stF 1 5 []).all (movedB 1 5) = true := by decide +kernel
set_option maxRecDepth 100000 in
theorem wd16 : (stF 1 6 []).all (movedB 1 6) = true := by decide +kernel
set_option maxRecDepth 100000 in
theorem wd21 : (stF 2 1 []).all (movedB 2 1) = true := by decide +kernel
set_option maxRecDepth 100000 in
theorem wd22 : (stF 2 2 []).all (movedB 2 2) = true := by decide +kernel
set_option maxRecDepth 100000 in
theorem wd23 : (stF 2 3 []).all (movedB 2 3) = true := by decide +kernel
set_option maxRecDepth 100000 in
theorem wd24 : (stF 2 4 []).all (movedB 2 4) = true := by decide +kernel
set_option maxRecDepth 100000 in
theorem wd25 : (stF 2 5 []).all (movedB 2 5) = true := by decide +kernel
set_option maxRecDepth 100000 in
theorem wd26 : (stF 2 6 []).all (movedB 2 6) = true := by decide +kernel
set_option maxRecDepth 100000 in
theorem wd31 : (stF 3 1 []).all (movedB 3 1) = true := by decide +kernel
set_option maxRecDepth 100000 in
theorem wd32 : (stF 3 2 []).all (movedB 3 2) = true := by decide +kernel
set_option maxRecDepth 100000 in
theorem wd33 : (stF 3 3 []).all (movedB 3 3) = true := by decide +kernel
set_option maxRecDepth 100000 in
theorem wd34 : (stF 3 4 []).all (movedB 3 4) = true := by decide +kernel
set_option maxRecDepth 100000 in
theorem wd35 : (stF 3 5 []).all (movedB 3 5) = true := by decide +kernel
set_option maxRecDepth 100000 in
theorem wd36 : (stF 3 6 []).all (movedB 3 6) = true := by decide +kernel
set_option maxRecDepth 100000 in
theorem wd41 : (stF 4 1 []).all (movedB 4 1) = true := by decide +kernel
set_option maxRecDepth 100000 in
theorem wd42 : (stF 4 2 []).all (movedB 4 2) = true := by decide +kernel
set_option maxRecDepth 100000 in
theorem wd43 : (stF 4 3 []).all (movedB 4 3) = true := by decide +kernel
end Go.Proofs.Ytnhbkopgbibcgaa
