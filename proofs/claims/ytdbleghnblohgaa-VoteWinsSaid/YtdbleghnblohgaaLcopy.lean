/- A law that copies a list: the list as the row reads it, a nil one without capacity. -/
import Derived.Test.YtdbleghnblohgaaLrule
namespace Go.Proofs.Ytdbleghnblohgaa
open Go.ChangeShapes Go.WideShapes Go.ChangeAt Go.RowKit

theorem reads_copy {H : Type} {enc : TypeId × Value → H} {W : World} {base : Nat} {spare : Nat → Bool} {held : Bool} {fuel : Nat} {v : Value} {x : DataW H × List MemPlace}
    (h : DataW.trod enc Try.prog W base spare held fuel 22 [v] = some x) : ∃ (a : Option Addr) (l : List Int) (c : Nat), v = .slice a l.length c ∧ Reads W a l c ∧ (a = none → c = 0) := by
  rcases open_ints Try.underlying22 Try.underlying3 (by kernel_rfl) h with ⟨hcs, _⟩ | ⟨ad, len, cap, zs, hcs, _, hl, hm, hz, _, hcell, hwz⟩
  · simp at hcs
    subst hcs
    exact ⟨none, [], 0, rfl, ⟨Nat.le_refl _, fun _ => ⟨by simp, fun j hj => by simp at hj⟩, fun x hx => by simp at hx⟩, fun _ => rfl⟩
  · simp at hcs
    subst hcs
    have hzl : len ≤ zs.length := by rw [hz]; split <;> omega
    have hlen : (zs.take len).length = len := by rw [List.length_take]; omega
    refine ⟨some ad, zs.take len, cap, by rw [hlen], ⟨by rw [hlen]; exact hl, fun hb => ⟨hb, fun j hj => ⟨ad, rfl, ?_⟩⟩, fun x hx => hwz x (List.mem_of_mem_take hx)⟩, fun e => by cases e⟩
    rw [hlen] at hj
    rw [hcell j (by omega)]
    simp [List.getD_eq_getElem?_getD, hj]
theorem list_copy {H : Type} {enc : TypeId × Value → H} {W : World} {base : Nat} {spare : Nat → Bool} {held : Bool} {r : Reach} {b0 : Nat} {v : Value} {d : DataW H} {ps : List MemPlace}
    (hval : Value.okWide Try.prog W r b0 22 v) (h : DataW.Trod enc Try.prog W base spare held 22 v d ps) : ∃ (a : Option Addr) (l : List Int) (c : Nat), v = .slice a l.length c ∧ Reads W a l c ∧ (a = none → c = 0) := by
  obtain ⟨a0, len, cap, rfl⟩ := okWide_slice Try.underlying22 hval
  obtain ⟨m, hm⟩ := h
  exact reads_copy hm
end Go.Proofs.Ytdbleghnblohgaa
