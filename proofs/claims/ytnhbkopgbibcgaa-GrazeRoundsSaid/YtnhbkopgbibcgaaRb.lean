/- All states of a pasture, looked through by the kernel; printed by a program. -/
import Derived.Test.YtnhbkopgbibcgaaRa
namespace Go.Proofs.Ytnhbkopgbibcgaa
set_option maxRecDepth 100000 in
theorem dy11 : (stF 1 1 []).all (daysB 1 1) = true := by decide +kernel
set_option maxRecDepth 100000 in
theorem dy12 : (stF 1 2 []).all (daysB 1 2) = true := by decide +kernel
set_option maxRecDepth 100000 in
theorem dy13 : (stF 1 3 []).all (daysB 1 3) = true := by decide +kernel
set_option maxRecDepth 100000 in
theorem dy14 : (stF 1 4 []).all (daysB 1 4) = true := by decide +kernel
set_option maxRecDepth 100000 in
theorem dy15 : (stF 1 5 []).all (daysB 1 5) = true := by decide +kernel
set_option maxRecDepth 100000 in
theorem dy16 : (stF 1 6 []).all (daysB 1 6) = true := by decide +kernel
set_option maxRecDepth 100000 in
theorem dy21 : (stF 2 1 []).all (daysB 2 1) = true := by decide +kernel
set_option maxRecDepth 100000 in
theorem dy22 : (stF 2 2 []).all (daysB 2 2) = true := by decide +kernel
set_option maxRecDepth 100000 in
theorem dy23 : (stF 2 3 []).all (daysB 2 3) = true := by decide +kernel
set_option maxRecDepth 100000 in
theorem dy24 : (stF 2 4 []).all (daysB 2 4) = true := by decide +kernel
set_option maxRecDepth 100000 in
theorem dy25 : (stF 2 5 []).all (daysB 2 5) = true := by decide +kernel
set_option maxRecDepth 100000 in
theorem dy26 : (stF 2 6 []).all (daysB 2 6) = true := by decide +kernel
set_option maxRecDepth 100000 in
theorem dy31 : (stF 3 1 []).all (daysB 3 1) = true := by decide +kernel
set_option maxRecDepth 100000 in
theorem dy32 : (stF 3 2 []).all (daysB 3 2) = true := by decide +kernel
set_option maxRecDepth 100000 in
theorem dy33 : (stF 3 3 []).all (daysB 3 3) = true := by decide +kernel
set_option maxRecDepth 100000 in
theorem dy34 : (stF 3 4 []).all (daysB 3 4) = true := by decide +kernel
set_option maxRecDepth 100000 in
theorem dy35 : (stF 3 5 []).all (daysB 3 5) = true := by decide +kernel
set_option maxRecDepth 100000 in
theorem dy36 : (stF 3 6 []).all (daysB 3 6) = true := by decide +kernel
set_option maxRecDepth 100000 in
theorem dy41 : (stF 4 1 []).all (daysB 4 1) = true := by decide +kernel
set_option maxRecDepth 100000 in
theorem dy42 : (stF 4 2 []).all (daysB 4 2) = true := by decide +kernel
set_option maxRecDepth 100000 in
theorem dy43 : (stF 4 3 []).all (daysB 4 3) = true := by decide +kernel
end Go.Proofs.Ytnhbkopgbibcgaa
