/- All states of a pasture, looked through by the kernel; printed by a program. -/
import Derived.Test.YtnhbkopgbibcgaaRa
namespace Go.Proofs.Ytnhbkopgbibcgaa
set_option maxRecDepth 100000 in
theorem dy44 : (stF 4 4 []).all (daysB 4 4) = true := by decide +kernel
set_option maxRecDepth 100000 in
theorem dy45 : (stF 4 5 []).all (daysB 4 5) = true := by decide +kernel
set_option maxRecDepth 100000 in
theorem dy46 : (stF 4 6 []).all (daysB 4 6) = true := by decide +kernel
set_option maxRecDepth 100000 in
theorem dy51 : (stF 5 1 []).all (daysB 5 1) = true := by decide +kernel
set_option maxRecDepth 100000 in
theorem dy52 : (stF 5 2 []).all (daysB 5 2) = true := by decide +kernel
set_option maxRecDepth 100000 in
theorem dy53 : (stF 5 3 []).all (daysB 5 3) = true := by decide +kernel
set_option maxRecDepth 100000 in
theorem dy54 : (stF 5 4 []).all (daysB 5 4) = true := by decide +kernel
set_option maxRecDepth 100000 in
theorem dy55 : (stF 5 5 []).all (daysB 5 5) = true := by decide +kernel
set_option maxRecDepth 100000 in
theorem dy56 : (stF 5 6 []).all (daysB 5 6) = true := by decide +kernel
set_option maxRecDepth 100000 in
theorem dy61 : (stF 6 1 []).all (daysB 6 1) = true := by decide +kernel
set_option maxRecDepth 100000 in
theorem dy62 : (stF 6 2 []).all (daysB 6 2) = true := by decide +kernel
set_option maxRecDepth 100000 in
theorem dy63 : (stF 6 3 []).all (daysB 6 3) = true := by decide +kernel
set_option maxRecDepth 100000 in
theorem dy64 : (stF 6 4 []).all (daysB 6 4) = true := by decide +kernel
set_option maxRecDepth 100000 in
theorem dy65 : (stF 6 5 []).all (daysB 6 5) = true := by decide +kernel
end Go.Proofs.Ytnhbkopgbibcgaa
