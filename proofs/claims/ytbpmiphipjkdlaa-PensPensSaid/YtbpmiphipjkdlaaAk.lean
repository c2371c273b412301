/- Contracts: IsPen. -/
import Derived.Test.YtbpmiphipjkdlaaAj
namespace Go.Proofs.Ytbpmiphipjkdlaa
open Go.RowKit Go.Shelf

theorem isPen_any (xs : PtL) (A : Option Addr) (c : Nat) (w : World) (v : Bool) (hv : readP xs = v) (hx : PairsI w A xs) :
    Calls Try.prog 27 #[.slice A xs.length c] w fun e w' => e = .returned (.bool v) ∧ Below w.heap.size w w' := by
  have CR := Off.mk (read_any xs A c w v hv hx)
  clear hv hx
  go_enter Try.func27, Try.ntmps27
  go_wp2_with fail
  refine CR.out.mono ?_
  rintro e w1 ⟨⟨u, rfl, _, _⟩, hb1⟩
  go_wp2
  go_ret
  exact ⟨rfl, hb1⟩
end Go.Proofs.Ytbpmiphipjkdlaa
