/- From a law's walk to its row: the arguments as a row reads them. -/
import Derived.Test.YtnhbkopgbibcgaaRows
import Derived.Test.YtnhbkopgbibcgaaGa
import Derived.ProofKit
import Derived.OpenShut
import Derived.ChangeOld
import Derived.SizedLaws
import Derived.Lib.SmallJoins
import Derived.Carry
namespace Go.Proofs.Ytnhbkopgbibcgaa
open Go.ChangeShapes Go.WideShapes Go.ChangeAt Go.RowKit

theorem own_knob : ownKnob Try.prog.godebug = none := by kernel_rfl
theorem laid_out : laidOutB Try.prog = true := by kernel_rfl
/-- What a row tells of a slice of whole numbers. -/
def Reads (W : World) (a : Option Addr) (l : List Int) (c : Nat) : Prop := l.length ≤ c ∧ (l.length ≤ 140737488351232 → IntsAt W a l) ∧ ∀ x ∈ l, (Lit.int .i64 x).wf = true
theorem reads_of {H : Type} {enc : TypeId × Value → H} {W : World} {base : Nat} {spare : Nat → Bool} {held : Bool} {fuel : Nat} {v : Value} {x : DataW H × List MemPlace}
    (h : DataW.trod enc Try.prog W base spare held fuel 32 [v] = some x) : ∃ (a : Option Addr) (l : List Int) (c : Nat), v = .slice a l.length c ∧ Reads W a l c ∧ (a = none → c = 0) := by
  rcases open_ints Try.underlying32 Try.underlying3 (by kernel_rfl) h with ⟨hcs, _⟩ | ⟨ad, len, cap, zs, hcs, _, hl, hm, hz, _, hcell, hwz⟩
  · simp at hcs
    subst hcs
    exact ⟨none, [], 0, rfl, ⟨Nat.le_refl _, fun _ => ⟨by simp, fun j hj => by simp at hj⟩, fun x hx => by simp at hx⟩, fun _ => rfl⟩
  · simp at hcs
    subst hcs
    have hzl : len ≤ zs.length := by rw [hz]; split <;> omega
    have hlen : (zs.take len).length = len := by rw [List.length_take]; omega
    refine ⟨some ad, zs.take len, cap, by rw [hlen], ⟨by rw [hlen]; exact hl, fun hb => ⟨hb, fun j hj => ⟨ad, rfl, ?_⟩⟩, fun x hx => hwz x (List.mem_of_mem_take hx)⟩, fun e => by cases e⟩
    rw [hlen] at hj
    rw [hcell j (by omega)]
    simp [List.getD_eq_getElem?_getD, hj]
set_option maxRecDepth 100000 in
theorem list_of {H : Type} {enc : TypeId × Value → H} {W : World} {base : Nat} {spare : Nat → Bool} {held : Bool} {r : Reach} {b0 : Nat} {v : Value} {d : DataW H} {ps : List MemPlace}
    (hval : Value.okWide Try.prog W r b0 32 v) (h : DataW.Trod enc Try.prog W base spare held 32 v d ps) : ∃ (a : Option Addr) (l : List Int) (c : Nat), v = .slice a l.length c ∧ Reads W a l c ∧ (a = none → c = 0) := by
  obtain ⟨a0, len, cap, rfl⟩ := okWide_slice Try.underlying32 hval
  obtain ⟨m, hm⟩ := h
  exact reads_of hm
end Go.Proofs.Ytnhbkopgbibcgaa
