/- Two plots of an owned row change places; a list of bytes, as a row reads it. -/
import Derived.Test.YtnhbkopgbibcgaaSk
namespace Go.Proofs.Ytnhbkopgbibcgaa
open Go.RowKit Go.Shelf

theorem swap_world {w wz : World} {r K c2 j p : Nat} {xs zs : List (Nat × Nat)} {u : Value} (hP : PRow wz w.heap.size r K c2 xs) (hj : j < K) (hp : p < K) (hO : OwnP wz w.heap.size u zs) (hA : u.ownBlock ≠ some r)
    (hB : Below w.heap.size w wz) (hr : w.heap.size ≤ r) (X Y : Nat × Nat) (o : Obj) :
    PRow (((((wz.setCell ⟨r, j * 2, none⟩ (.int .i64 (Y.1 : Int))).setCell ⟨r, j * 2 + 1, none⟩ (.int .i64 (Y.2 : Int))).setCell ⟨r, p * 2, none⟩ (.int .i64 (X.1 : Int))).setCell ⟨r, p * 2 + 1, none⟩ (.int .i64 (X.2 : Int))).alloc o) w.heap.size r K c2 ((xs.set j Y).set p X) ∧
    OwnP (((((wz.setCell ⟨r, j * 2, none⟩ (.int .i64 (Y.1 : Int))).setCell ⟨r, j * 2 + 1, none⟩ (.int .i64 (Y.2 : Int))).setCell ⟨r, p * 2, none⟩ (.int .i64 (X.1 : Int))).setCell ⟨r, p * 2 + 1, none⟩ (.int .i64 (X.2 : Int))).alloc o) w.heap.size u zs ∧
    Below w.heap.size w (((((wz.setCell ⟨r, j * 2, none⟩ (.int .i64 (Y.1 : Int))).setCell ⟨r, j * 2 + 1, none⟩ (.int .i64 (Y.2 : Int))).setCell ⟨r, p * 2, none⟩ (.int .i64 (X.1 : Int))).setCell ⟨r, p * 2 + 1, none⟩ (.int .i64 (X.2 : Int))).alloc o) := by
  obtain ⟨h1, k1⟩ := hP.stored hj Y.1 Y.2
  obtain ⟨h2, k2⟩ := h1.stored hp X.1 X.2
  have k := k1.trans k2
  have hb := Keeps.below hB k hB.size hr
  exact ⟨h2.below ((Below.refl _ _).alloc (Nat.le_refl _) _), ownP_below (ownP_keeps2 hO k hA) ((Below.refl _ _).alloc (Nat.le_refl _) _), belowA hb _⟩
theorem pairCells_one (xs : List (Nat × Nat)) : ∀ u ∈ pairCells xs, u.oneCell' = true := by
  intro u hu
  unfold pairCells at hu
  obtain ⟨x, _, hx⟩ := List.mem_flatMap.1 hu
  simp at hx
  rcases hx with rfl | rfl <;> rfl
end Go.Proofs.Ytnhbkopgbibcgaa
