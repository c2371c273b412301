/- All states of a pasture, looked through by the kernel; printed by a program. -/
import Derived.Test.YtnhbkopgbibcgaaQd
namespace Go.Proofs.Ytnhbkopgbibcgaa
set_option maxRecDepth 100000 in
theorem wd44 : (stF 4 4 []).all (movedB 4 4) = true := by decide +kernel
set_option maxRecDepth 100000 in
theorem wd45 : (stF 4 5 []).all (movedB 4 5) = true := by decide +kernel
set_option maxRecDepth 100000 in
theorem wd46 : (stF 4 6 []).all (movedB 4 6) = true := by decide +kernel
set_option maxRecDepth 100000 in
theorem wd51 : (stF 5 1 []).all (movedB 5 1) = true := by decide +kernel
set_option maxRecDepth 100000 in
theorem wd52 : (stF 5 2 []).all (movedB 5 2) = true := by decide +kernel
set_option maxRecDepth 100000 in
theorem wd53 : (stF 5 3 []).all (movedB 5 3) = true := by decide +kernel
set_option maxRecDepth 100000 in
theorem wd54 : (stF 5 4 []).all (movedB 5 4) = true := by decide +kernel
set_option maxRecDepth 100000 in
theorem wd55 : (stF 5 5 []).all (movedB 5 5) = true := by decide +kernel
set_option maxRecDepth 100000 in
theorem wd56 : (stF 5 6 []).all (movedB 5 6) = true := by decide +kernel
set_option maxRecDepth 100000 in
theorem wd61 : (stF 6 1 []).all (movedB 6 1) = true := by decide +kernel
set_option maxRecDepth 100000 in
theorem wd62 : (stF 6 2 []).all (movedB 6 2) = true := by decide +kernel
set_option maxRecDepth 100000 in
theorem wd63 : (stF 6 3 []).all (movedB 6 3) = true := by decide +kernel
set_option maxRecDepth 100000 in
theorem wd64 : (stF 6 4 []).all (movedB 6 4) = true := by decide +kernel
set_option maxRecDepth 100000 in
theorem wd65 : (stF 6 5 []).all (movedB 6 5) = true := by decide +kernel
end Go.Proofs.Ytnhbkopgbibcgaa
