/- What the laws need of the contracts: results as lists in memory. -/
import Derived.Test.YtnhbkopgbibcgaaHa
import Derived.Test.YtnhbkopgbibcgaaGi
namespace Go.Proofs.Ytnhbkopgbibcgaa
open Go.RowKit Go.Shelf

/-- A call hands back a list and an error. -/
def Gets (R : List Int) (z : Int) (w : World) (e : Ending) (w' : World) : Prop := ∃ A c, e = .returned (.tuple #[.slice A R.length c, .int .i64 z]) ∧ IntsAt w' A R ∧ R.length ≤ c ∧ (A = none → c = 0) ∧ Below w.heap.size w w'
theorem own_ints' {w : World} {base : Nat} {v : Value} {xs : List Int} (h : Own w base v xs) (hx : xs.length ≤ 140737488351232) : ∃ A c, v = .slice A xs.length c ∧ IntsAt w A xs ∧ xs.length ≤ c ∧ (A = none → c = 0) := by
  obtain ⟨A, c, rfl, h1, h2⟩ := own_ints h hx
  refine ⟨A, c, rfl, h1, h2, ?_⟩
  rintro rfl
  rcases h.out.2 with ⟨e, _⟩ | ⟨g, cap, cur, e, _⟩
  · simp at e; exact e.2
  · simp at e
def resOf (a b : Int) (l out : List Int) : List Int := if askedB a b l then out else []
def errOf (a b : Int) (l : List Int) : Int := if askedB a b l then 0 else 2
theorem moved_gets {a b : Int} {l out : List Int} {w : World} {e : Ending} {w' : World} (ho : askedB a b l = true → out.length ≤ 100) (h : MovedPost a b l out w e w') : Gets (resOf a b l out) (errOf a b l) w e w' := by
  obtain ⟨v, rfl, hO, hb⟩ := h
  have hl : (resOf a b l out).length ≤ 100 := by
    unfold resOf
    split
    · rename_i hk; exact ho hk
    · simp
  obtain ⟨A, c, rfl, hI, h2, h3⟩ := own_ints' (show Own w' w.heap.size v (resOf a b l out) from hO) (by omega)
  exact ⟨A, c, rfl, hI, h2, h3, hb⟩
theorem asked_len {a b : Int} {l : List Int} (h : askedB a b l = true) : l.length ≤ 6 := by
  obtain ⟨n, m, rfl, rfl, hn, _, h6, _⟩ := asked_nat h
  omega
theorem same_self (R : List Int) (A B : Option Addr) (c d : Nat) (w : World) (h : IntsAt w A R) (k : IntsAt w B R) : Calls Try.prog 24 #[.slice A R.length c, .slice B R.length d] w fun e w' => e = .returned (.bool true) ∧ Below w.heap.size w w' := by
  have := same_any R R A B c d w h k
  rw [decide_eq_true rfl] at this
  exact this
end Go.Proofs.Ytnhbkopgbibcgaa
