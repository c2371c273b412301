/- All states of a pasture, looked through by the kernel; printed by a program. -/
import Derived.Test.YtnhbkopgbibcgaaSf
namespace Go.Proofs.Ytnhbkopgbibcgaa
set_option maxRecDepth 100000 in
theorem dc11 : (stF 1 1 []).all (dayCB 1 1) = true := by decide +kernel
set_option maxRecDepth 100000 in
theorem dc12 : (stF 1 2 []).all (dayCB 1 2) = true := by decide +kernel
set_option maxRecDepth 100000 in
theorem dc13 : (stF 1 3 []).all (dayCB 1 3) = true := by decide +kernel
set_option maxRecDepth 100000 in
theorem dc14 : (stF 1 4 []).all (dayCB 1 4) = true := by decide +kernel
set_option maxRecDepth 100000 in
theorem dc15 : (stF 1 5 []).all (dayCB 1 5) = true := by decide +kernel
set_option maxRecDepth 100000 in
theorem dc16 : (stF 1 6 []).all (dayCB 1 6) = true := by decide +kernel
set_option maxRecDepth 100000 in
theorem dc21 : (stF 2 1 []).all (dayCB 2 1) = true := by decide +kernel
set_option maxRecDepth 100000 in
theorem dc22 : (stF 2 2 []).all (dayCB 2 2) = true := by decide +kernel
set_option maxRecDepth 100000 in
theorem dc23 : (stF 2 3 []).all (dayCB 2 3) = true := by decide +kernel
set_option maxRecDepth 100000 in
theorem dc24 : (stF 2 4 []).all (dayCB 2 4) = true := by decide +kernel
set_option maxRecDepth 100000 in
theorem dc25 : (stF 2 5 []).all (dayCB 2 5) = true := by decide +kernel
set_option maxRecDepth 100000 in
theorem dc26 : (stF 2 6 []).all (dayCB 2 6) = true := by decide +kernel
set_option maxRecDepth 100000 in
theorem dc31 : (stF 3 1 []).all (dayCB 3 1) = true := by decide +kernel
set_option maxRecDepth 100000 in
theorem dc32 : (stF 3 2 []).all (dayCB 3 2) = true := by decide +kernel
set_option maxRecDepth 100000 in
theorem dc33 : (stF 3 3 []).all (dayCB 3 3) = true := by decide +kernel
set_option maxRecDepth 100000 in
theorem dc34 : (stF 3 4 []).all (dayCB 3 4) = true := by decide +kernel
set_option maxRecDepth 100000 in
theorem dc35 : (stF 3 5 []).all (dayCB 3 5) = true := by decide +kernel
set_option maxRecDepth 100000 in
theorem dc36 : (stF 3 6 []).all (dayCB 3 6) = true := by decide +kernel
set_option maxRecDepth 100000 in
theorem dc41 : (stF 4 1 []).all (dayCB 4 1) = true := by decide +kernel
set_option maxRecDepth 100000 in
theorem dc42 : (stF 4 2 []).all (dayCB 4 2) = true := by decide +kernel
set_option maxRecDepth 100000 in
theorem dc43 : (stF 4 3 []).all (dayCB 4 3) = true := by decide +kernel
set_option maxRecDepth 100000 in
theorem dc44 : (stF 4 4 []).all (dayCB 4 4) = true := by decide +kernel
set_option maxRecDepth 100000 in
theorem dc45 : (stF 4 5 []).all (dayCB 4 5) = true := by decide +kernel
set_option maxRecDepth 100000 in
theorem dc46 : (stF 4 6 []).all (dayCB 4 6) = true := by decide +kernel
end Go.Proofs.Ytnhbkopgbibcgaa
