/- All states of a pasture, looked through by the kernel; printed by a program. -/
import Derived.Test.YtnhbkopgbibcgaaQd
namespace Go.Proofs.Ytnhbkopgbibcgaa
set_option maxRecDepth 100000 in
theorem sw66 : (stF 6 6 []).all (fun l => decide (sweepP 6 l = swF 6 l)) = true := by decide +kernel
set_option maxRecDepth 100000 in
theorem sw11 : (stF 1 1 []).all (fun l => decide (sweepP 1 l = swF 1 l)) = true := by decide +kernel
set_option maxRecDepth 100000 in
theorem sw12 : (stF 1 2 []).all (fun l => decide (sweepP 2 l = swF 2 l)) = true := by decide +kernel
set_option maxRecDepth 100000 in
theorem sw13 : (stF 1 3 []).all (fun l => decide (sweepP 3 l = swF 3 l)) = true := by decide +kernel
set_option maxRecDepth 100000 in
theorem sw14 : (stF 1 4 []).all (fun l => decide (sweepP 4 l = swF 4 l)) = true := by decide +kernel
set_option maxRecDepth 100000 in
theorem sw15 : (stF 1 5 []).all (fun l => decide (sweepP 5 l = swF 5 l)) = true := by decide +kernel
set_option maxRecDepth 100000 in
theorem sw16 : (stF 1 6 []).all (fun l => decide (sweepP 6 l = swF 6 l)) = true := by decide +kernel
set_option maxRecDepth 100000 in
theorem sw21 : (stF 2 1 []).all (fun l => decide (sweepP 1 l = swF 1 l)) = true := by decide +kernel
set_option maxRecDepth 100000 in
theorem sw22 : (stF 2 2 []).all (fun l => decide (sweepP 2 l = swF 2 l)) = true := by decide +kernel
set_option maxRecDepth 100000 in
theorem sw23 : (stF 2 3 []).all (fun l => decide (sweepP 3 l = swF 3 l)) = true := by decide +kernel
set_option maxRecDepth 100000 in
theorem sw24 : (stF 2 4 []).all (fun l => decide (sweepP 4 l = swF 4 l)) = true := by decide +kernel
set_option maxRecDepth 100000 in
theorem sw25 : (stF 2 5 []).all (fun l => decide (sweepP 5 l = swF 5 l)) = true := by decide +kernel
set_option maxRecDepth 100000 in
theorem sw26 : (stF 2 6 []).all (fun l => decide (sweepP 6 l = swF 6 l)) = true := by decide +kernel
set_option maxRecDepth 100000 in
theorem sw31 : (stF 3 1 []).all (fun l => decide (sweepP 1 l = swF 1 l)) = true := by decide +kernel
set_option maxRecDepth 100000 in
theorem sw32 : (stF 3 2 []).all (fun l => decide (sweepP 2 l = swF 2 l)) = true := by decide +kernel
set_option maxRecDepth 100000 in
theorem sw33 : (stF 3 3 []).all (fun l => decide (sweepP 3 l = swF 3 l)) = true := by decide +kernel
set_option maxRecDepth 100000 in
theorem sw34 : (stF 3 4 []).all (fun l => decide (sweepP 4 l = swF 4 l)) = true := by decide +kernel
set_option maxRecDepth 100000 in
theorem sw35 : (stF 3 5 []).all (fun l => decide (sweepP 5 l = swF 5 l)) = true := by decide +kernel
set_option maxRecDepth 100000 in
theorem sw36 : (stF 3 6 []).all (fun l => decide (sweepP 6 l = swF 6 l)) = true := by decide +kernel
set_option maxRecDepth 100000 in
theorem sw41 : (stF 4 1 []).all (fun l => decide (sweepP 1 l = swF 1 l)) = true := by decide +kernel
set_option maxRecDepth 100000 in
theorem sw42 : (stF 4 2 []).all (fun l => decide (sweepP 2 l = swF 2 l)) = true := by decide +kernel
set_option maxRecDepth 100000 in
theorem sw43 : (stF 4 3 []).all (fun l => decide (sweepP 3 l = swF 3 l)) = true := by decide +kernel
end Go.Proofs.Ytnhbkopgbibcgaa
