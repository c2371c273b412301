/- A list of bytes, as a row reads it. -/
import Derived.Test.YtnhbkopgbibcgaaLfive
import Derived.Test.YtnhbkopgbibcgaaSk
namespace Go.Proofs.Ytnhbkopgbibcgaa
open Go.Joins Go.ChangeShapes Go.WideShapes Go.ChangeAt Go.RowKit Go.Deep

set_option maxRecDepth 100000 in
theorem bytes_of {H : Type} {enc : TypeId × Value → H} {W : World} {base : Nat} {spare : Nat → Bool} {held : Bool} {r : Reach} {b0 : Nat} {v : Value} {d : DataW H} {ps : List MemPlace}
    (hval : Value.okWide Try.prog W r b0 39 v) (h : DataW.Trod enc Try.prog W base spare held 39 v d ps) :
    ∃ (a : Option Addr) (bs : List Nat) (c : Nat), v = .slice a bs.length c ∧ (BytesAt W a bs ∧ ∀ j, bs.getD j 0 < 256) := by
  obtain ⟨a0, len, cap, rfl⟩ := okWide_slice Try.underlying39 hval
  obtain ⟨fuel, hm⟩ := h
  rcases open_ints Try.underlying39 Try.underlying5 (by kernel_rfl) hm with ⟨hcs, _⟩ | ⟨ad, len', cap', zs, hcs, _, hl, hmx, hz, _, hcell, hwz⟩
  · simp [Value.cells] at hcs
    obtain ⟨rfl, rfl, rfl⟩ := hcs
    exact ⟨none, [], 0, rfl, ⟨fun j hj => by simp at hj⟩, fun j => by simp⟩
  · simp [Value.cells] at hcs
    obtain ⟨rfl, rfl, rfl⟩ := hcs
    have hzl : len ≤ zs.length := by rw [hz]; split <;> omega
    have hlen : ((zs.take len).map Int.toNat).length = len := by rw [List.length_map, List.length_take]; omega
    have hat : ∀ j, j < len → zs.getD j 0 ∈ zs := fun j hj => by
      have hj' : j < zs.length := by omega
      rw [List.getD_eq_getElem?_getD, List.getElem?_eq_getElem hj']
      exact List.getElem_mem hj'
    have hget : ∀ j, j < len → ((zs.take len).map Int.toNat).getD j 0 = (zs.getD j 0).toNat := fun j hj => by
      have hj' : j < zs.length := by omega
      simp [List.getD_eq_getElem?_getD, List.getElem?_map, hj, List.getElem?_eq_getElem hj']
    refine ⟨some ad, (zs.take len).map Int.toNat, cap, by rw [hlen], ⟨fun j hj => ⟨ad, rfl, ?_⟩⟩, fun j => ?_⟩
    · rw [hlen] at hj
      have h1 := u8_range (hwz _ (hat j hj))
      rw [hcell j (by omega), hget j hj, Int.toNat_of_nonneg h1.1]
    · by_cases hj : j < len
      · have h1 := u8_range (hwz _ (hat j hj))
        rw [hget j hj]
        omega
      · rw [List.getD_eq_getElem?_getD, List.getElem?_eq_none (by rw [hlen]; omega)]
        simp
end Go.Proofs.Ytnhbkopgbibcgaa
