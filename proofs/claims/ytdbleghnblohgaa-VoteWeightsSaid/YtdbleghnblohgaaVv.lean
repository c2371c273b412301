/- What the laws of the layer ask first: how many weights there are. -/
import Derived.Test.YtdbleghnblohgaaVq
namespace Go.Proofs.Ytdbleghnblohgaa
open Go.RowKit Go.Shelf

theorem c_few_no (q : Int) (A : Option Addr) (n c : Nat) (h : 30 < n) (w : World) : Calls Try.prog 15 #[.agg #[.int .i64 q, .slice A n c]] w fun e w' => e = .returned (.bool false) ∧ Below w.heap.size w w' := by
  have := few_any q A n c w
  rw [decide_eq_false (by omega)] at this
  exact this
theorem c_few (q : Int) (A : Option Addr) (n c : Nat) (h : n ≤ 30) (w : World) : Calls Try.prog 15 #[.agg #[.int .i64 q, .slice A n c]] w fun e w' => e = .returned (.bool true) ∧ Below w.heap.size w w' := by
  have := few_any q A n c w
  rw [decide_eq_true h] at this
  exact this

end Go.Proofs.Ytdbleghnblohgaa
