/- All states of a pasture, looked through by the kernel; printed by a program. -/
import Derived.Test.YtnhbkopgbibcgaaQd
namespace Go.Proofs.Ytnhbkopgbibcgaa
set_option maxRecDepth 100000 in
theorem sw44 : (stF 4 4 []).all (fun l => decide (sweepP 4 l = swF 4 l)) = true := by decide +kernel
set_option maxRecDepth 100000 in
theorem sw45 : (stF 4 5 []).all (fun l => decide (sweepP 5 l = swF 5 l)) = true := by decide +kernel
set_option maxRecDepth 100000 in
theorem sw46 : (stF 4 6 []).all (fun l => decide (sweepP 6 l = swF 6 l)) = true := by decide +kernel
set_option maxRecDepth 100000 in
theorem sw51 : (stF 5 1 []).all (fun l => decide (sweepP 1 l = swF 1 l)) = true := by decide +kernel
set_option maxRecDepth 100000 in
theorem sw52 : (stF 5 2 []).all (fun l => decide (sweepP 2 l = swF 2 l)) = true := by decide +kernel
set_option maxRecDepth 100000 in
theorem sw53 : (stF 5 3 []).all (fun l => decide (sweepP 3 l = swF 3 l)) = true := by decide +kernel
set_option maxRecDepth 100000 in
theorem sw54 : (stF 5 4 []).all (fun l => decide (sweepP 4 l = swF 4 l)) = true := by decide +kernel
set_option maxRecDepth 100000 in
theorem sw55 : (stF 5 5 []).all (fun l => decide (sweepP 5 l = swF 5 l)) = true := by decide +kernel
set_option maxRecDepth 100000 in
theorem sw56 : (stF 5 6 []).all (fun l => decide (sweepP 6 l = swF 6 l)) = true := by decide +kernel
set_option maxRecDepth 100000 in
theorem sw61 : (stF 6 1 []).all (fun l => decide (sweepP 1 l = swF 1 l)) = true := by decide +kernel
set_option maxRecDepth 100000 in
theorem sw62 : (stF 6 2 []).all (fun l => decide (sweepP 2 l = swF 2 l)) = true := by decide +kernel
set_option maxRecDepth 100000 in
theorem sw63 : (stF 6 3 []).all (fun l => decide (sweepP 3 l = swF 3 l)) = true := by decide +kernel
set_option maxRecDepth 100000 in
theorem sw64 : (stF 6 4 []).all (fun l => decide (sweepP 4 l = swF 4 l)) = true := by decide +kernel
set_option maxRecDepth 100000 in
theorem sw65 : (stF 6 5 []).all (fun l => decide (sweepP 5 l = swF 5 l)) = true := by decide +kernel
end Go.Proofs.Ytnhbkopgbibcgaa
