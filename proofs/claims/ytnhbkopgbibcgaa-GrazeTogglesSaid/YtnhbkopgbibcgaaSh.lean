/- All states of a pasture, looked through by the kernel; printed by a program. -/
import Derived.Test.YtnhbkopgbibcgaaSf
namespace Go.Proofs.Ytnhbkopgbibcgaa
set_option maxRecDepth 100000 in
theorem dc51 : (stF 5 1 []).all (dayCB 5 1) = true := by decide +kernel
set_option maxRecDepth 100000 in
theorem dc52 : (stF 5 2 []).all (dayCB 5 2) = true := by decide +kernel
set_option maxRecDepth 100000 in
theorem dc53 : (stF 5 3 []).all (dayCB 5 3) = true := by decide +kernel
set_option maxRecDepth 100000 in
theorem dc54 : (stF 5 4 []).all (dayCB 5 4) = true := by decide +kernel
set_option maxRecDepth 100000 in
theorem dc55 : (stF 5 5 []).all (dayCB 5 5) = true := by decide +kernel
set_option maxRecDepth 100000 in
theorem dc56 : (stF 5 6 []).all (dayCB 5 6) = true := by decide +kernel
set_option maxRecDepth 100000 in
theorem dc61 : (stF 6 1 []).all (dayCB 6 1) = true := by decide +kernel
set_option maxRecDepth 100000 in
theorem dc62 : (stF 6 2 []).all (dayCB 6 2) = true := by decide +kernel
set_option maxRecDepth 100000 in
theorem dc63 : (stF 6 3 []).all (dayCB 6 3) = true := by decide +kernel
set_option maxRecDepth 100000 in
theorem dc64 : (stF 6 4 []).all (dayCB 6 4) = true := by decide +kernel
set_option maxRecDepth 100000 in
theorem dc65 : (stF 6 5 []).all (dayCB 6 5) = true := by decide +kernel
end Go.Proofs.Ytnhbkopgbibcgaa
