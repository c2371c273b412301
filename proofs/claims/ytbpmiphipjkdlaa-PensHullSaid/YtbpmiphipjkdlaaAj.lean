/- Contracts: read, whole. -/
import Derived.Test.YtbpmiphipjkdlaaAi
namespace Go.Proofs.Ytbpmiphipjkdlaa
open Go.RowKit Go.Shelf

theorem read_any (xs : PtL) (A : Option Addr) (c : Nat) (w : World) (v : Bool) (hv : readP xs = v) (hx : PairsI w A xs) :
    Calls Try.prog 46 #[.slice A xs.length c] w fun e w' => (∃ u, e = .returned (.tuple #[u, .bool v]) ∧ (v = true → OwnQ 70 w' w.heap.size u xs) ∧ (v = false → u = .slice none 0 0)) ∧ Below w.heap.size w w' := by
  by_cases h3 : xs.length < 3
  · have : readP xs = false := by unfold readP; rw [decide_eq_false (by omega)]; rfl
    rw [this] at hv
    subst hv
    exact (read_few xs A c w h3).mono fun e w' ⟨h1, h2⟩ => ⟨⟨_, h1, (fun e => by cases e), fun _ => rfl⟩, h2⟩
  by_cases h10 : 10 < xs.length
  · have : readP xs = false := by unfold readP; rw [decide_eq_false (p := xs.length ≤ 10) (by omega)]; simp
    rw [this] at hv
    subst hv
    exact (read_many xs A c w h10).mono fun e w' ⟨h1, h2⟩ => ⟨⟨_, h1, (fun e => by cases e), fun _ => rfl⟩, h2⟩
  cases hf : xs.any farP with
  | true =>
    have : readP xs = false := by unfold readP; rw [hf]; simp
    rw [this] at hv
    subst hv
    exact (read_far xs A c w hx ⟨by omega, by omega⟩ hf).mono fun e w' ⟨h1, h2⟩ => ⟨⟨_, h1, (fun e => by cases e), fun _ => rfl⟩, h2⟩
  | false =>
    refine (read_long xs A c w hx ⟨by omega, by omega⟩ hf).mono ?_
    rintro e w' ⟨⟨u, b, h1, h2, h4, h5⟩, hb⟩
    have : readP xs = b := by unfold readP; rw [hf, decide_eq_true (by omega), decide_eq_true (by omega), h2]; rfl
    obtain rfl : b = v := this.symm.trans hv
    exact ⟨⟨u, h1, h4, h5⟩, hb⟩
end Go.Proofs.Ytbpmiphipjkdlaa
