/- A law over a list of sets: from its walk to its row. The list, and a small number, as the row reads them. -/
import Derived.Test.YtdbleghnblohgaaLbody
namespace Go.Proofs.Ytdbleghnblohgaa
open Go.ChangeShapes Go.WideShapes Go.ChangeAt Go.RowKit

theorem byte_of' {b : Int} (h : (Lit.int .u8 b).wf = true) : ∃ n : Nat, n < 256 ∧ b = (n : Int) := by
  have : 0 ≤ b ∧ b < 256 := by
    simp only [Lit.wf, Bool.and_eq_true, decide_eq_true_eq, show IntKind.u8.min = 0 by decide, show IntKind.u8.max = 255 by decide] at h
    omega
  exact ⟨b.toNat, by omega, by omega⟩
theorem list_of {H : Type} {enc : TypeId × Value → H} {W : World} {base : Nat} {spare : Nat → Bool} {held : Bool} {r : Reach} {b0 : Nat} {v : Value} {d : DataW H} {ps : List MemPlace}
    (hval : Value.okWide Try.prog W r b0 22 v) (h : DataW.Trod enc Try.prog W base spare held 22 v d ps) : ∃ (a : Option Addr) (l : List Int) (c : Nat), v = .slice a l.length c ∧ Reads W a l c := by
  obtain ⟨a0, len, cap, rfl⟩ := okWide_slice Try.underlying22 hval
  obtain ⟨m, hm⟩ := h
  exact reads_of hm
end Go.Proofs.Ytdbleghnblohgaa
