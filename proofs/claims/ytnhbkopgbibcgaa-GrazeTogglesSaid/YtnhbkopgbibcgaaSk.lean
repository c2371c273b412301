/- The law GrazeToggles: its walk. -/
import Derived.Test.YtnhbkopgbibcgaaHr
import Derived.Test.YtnhbkopgbibcgaaHb
import Derived.Test.YtnhbkopgbibcgaaHh
import Derived.Test.YtnhbkopgbibcgaaSf
import Derived.Test.YtnhbkopgbibcgaaHo
namespace Go.Proofs.Ytnhbkopgbibcgaa
open Go.RowKit Go.Shelf

theorem pairCells_set (xs : List (Nat × Nat)) : ∀ (i : Nat) (x y : Nat), i < xs.length → pairCells (xs.set i (x, y)) = ((pairCells xs).set (i * 2) (.int .i64 (x : Int))).set (i * 2 + 1) (.int .i64 (y : Int)) := by
  induction xs with
  | nil => intro i x y h; simp at h
  | cons z xs ih =>
    intro i x y h
    cases i with
    | zero => simp [pairCells]
    | succ i =>
      have e : (i + 1) * 2 = i * 2 + 2 := by omega
      have h2 := ih i x y (by simpa using h)
      rw [List.set_cons_succ, e]
      show [_, _] ++ pairCells (xs.set i (x, y)) = _
      rw [h2]
      simp [pairCells]
/-- A row of k plots that the call owns, at block r. -/
structure PRow (w : World) (base r k c : Nat) (xs : List (Nat × Nat)) : Prop where
  len : xs.length = k
  own : w.ownsRow base 43 2 (.slice (some ⟨r, 0, none⟩) k c) k (pairCells xs)
theorem PRow.cells {w : World} {base r k c : Nat} {xs : List (Nat × Nat)} (h : PRow w base r k c xs) {i : Nat} (hi : i < k) : w.cell? ⟨r, i * 2, none⟩ = some (.int .i64 ((xs.getD i (0, 0)).1 : Int)) ∧ w.cell? ⟨r, i * 2 + 1, none⟩ = some (.int .i64 ((xs.getD i (0, 0)).2 : Int)) := by
  have hp := pairCells_at xs i (by rw [h.len]; exact hi)
  exact ⟨by rw [h.own.cellAt (i * 2) (by omega)]; exact hp.1, by rw [h.own.cellAt (i * 2 + 1) (by omega)]; exact hp.2⟩
theorem PRow.frozen {w : World} {base r k c : Nat} {xs : List (Nat × Nat)} (h : PRow w base r k c xs) (i : Nat) : w.frozen? ⟨r, i, none⟩ = false := h.own.frozenAt i
theorem PRow.below {w w1 : World} {base r k c : Nat} {xs : List (Nat × Nat)} (h : PRow w base r k c xs) (hb : Below w.heap.size w w1) : PRow w1 base r k c xs := ⟨h.len, owns_below h.own hb⟩
theorem PRow.stored {w : World} {base r k c : Nat} {xs : List (Nat × Nat)} (h : PRow w base r k c xs) {i : Nat} (hi : i < k) (x y : Nat) :
    PRow ((w.setCell ⟨r, i * 2, none⟩ (.int .i64 (x : Int))).setCell ⟨r, i * 2 + 1, none⟩ (.int .i64 (y : Int))) base r k c (xs.set i (x, y)) ∧ Keeps r w ((w.setCell ⟨r, i * 2, none⟩ (.int .i64 (x : Int))).setCell ⟨r, i * 2 + 1, none⟩ (.int .i64 (y : Int))) := by
  obtain ⟨ho, hg⟩ := h.own.stored (i * 2) (.int .i64 (x : Int))
  obtain ⟨ho2, hg2⟩ := ho.stored (i * 2 + 1) (.int .i64 (y : Int))
  exact ⟨⟨by rw [List.length_set]; exact h.len, by rw [pairCells_set _ _ _ _ (by rw [h.len]; exact hi)]; exact ho2⟩, (Keeps.mk hg).trans ⟨hg2⟩⟩
theorem PRow.lt {w : World} {base r k c : Nat} {xs : List (Nat × Nat)} (h : PRow w base r k c xs) : r < w.heap.size := owns_lt h.own
theorem ownP_row {w : World} {base : Nat} {v : Value} {xs : List (Nat × Nat)} (h : OwnP w base v xs) (hn : 0 < xs.length) : ∃ r c, v = .slice (some ⟨r, 0, none⟩) xs.length c ∧ base ≤ r ∧ PRow w base r xs.length c xs := by
  have h' := h.out
  rcases h.out.2 with ⟨rfl, h1⟩ | ⟨g, cap, cur, rfl, hb, _⟩
  · omega
  · exact ⟨g, cap, rfl, hb, rfl, h'⟩
theorem ownP_keeps2 {r base : Nat} {w w1 : World} {v : Value} {xs : List (Nat × Nat)} (h : OwnP w base v xs) (k : Keeps r w w1) (hr : v.ownBlock ≠ some r) : OwnP w1 base v xs :=
  ⟨h.out.kept k.out (.inr hr)⟩
/-- Bytes lie in memory. -/
structure BytesAt (w : World) (A : Option Addr) (bs : List Nat) : Prop where
  cell : ∀ j, j < bs.length → ∃ ad, A = some ad ∧ w.cell? (ad.add j) = some (.int .u8 ((bs.getD j 0 : Nat) : Int))
theorem BytesAt.below {w w1 : World} {A : Option Addr} {bs : List Nat} (h : BytesAt w A bs) (hb : Below w.heap.size w w1) : BytesAt w1 A bs :=
  ⟨fun j hj => by obtain ⟨ad, e, h1⟩ := h.cell j hj; exact ⟨ad, e, cellB hb h1⟩⟩
theorem pairs_int {w : World} {A : Option Addr} {xs : List (Nat × Nat)} (h : PairsAt w A xs) (hl : xs.length ≤ 1000) : PairsI w A (xs.map fun x => ((x.1 : Int), (x.2 : Int))) :=
  ⟨by simp; omega, fun j hj => by
    have hj' : j < xs.length := by simpa using hj
    obtain ⟨ad, e, h1, h2⟩ := h.cell j hj'
    have e1 : (xs.map fun x => ((x.1 : Int), (x.2 : Int))).getD j (0, 0) = (((xs.getD j (0, 0)).1 : Int), ((xs.getD j (0, 0)).2 : Int)) := by
      simp [List.getD_eq_getElem?_getD, List.getElem?_map, List.getElem?_eq_getElem hj']
    exact ⟨ad, e, by rw [e1]; exact h1, by rw [e1]; exact h2⟩⟩
theorem turnsTo_map (xs : List (Nat × Nat)) (l : List Int) : ∀ k, k ≤ xs.length → turnsTo (xs.map fun x => ((x.1 : Int), (x.2 : Int))) l k = turnL l (xs.take k) := by
  intro k
  induction k with
  | zero => intro _; rfl
  | succ k ih =>
    intro hk
    have e1 : (xs.map fun x => ((x.1 : Int), (x.2 : Int))).getD k (0, 0) = ((xs[k].1 : Int), (xs[k].2 : Int)) := by
      simp [List.getD_eq_getElem?_getD, List.getElem?_map, List.getElem?_eq_getElem (show k < xs.length by omega)]
    rw [turnsTo, ih (by omega), e1, List.take_succ_eq_append_getElem (by omega), turnL_append]
    simp [turnL]
theorem turnsP_map (xs : List (Nat × Nat)) (l : List Int) : turnsP (xs.map fun x => ((x.1 : Int), (x.2 : Int))) l = turnL l xs := by
  unfold turnsP
  rw [turnsTo_map xs l _ (by simp), List.length_map, List.take_length]
theorem out_map {n m : Nat} {xs : List (Nat × Nat)} (h : ∀ x ∈ xs, x.1 < n ∧ x.2 < m) : outB n m (xs.map fun x => ((x.1 : Int), (x.2 : Int))) = false := by
  unfold outB
  rw [List.any_eq_false]
  intro x hx
  obtain ⟨y, hy, rfl⟩ := List.mem_map.1 hx
  have := h y hy
  simp only [hasB, Bool.not_eq_true']
  rw [decide_eq_true (by omega)]
  simp
/-- Two plots of a list change places. -/
theorem swap_perm (xs : List (Nat × Nat)) (i p : Nat) (hi : i < xs.length) (hp : p < xs.length) : ((xs.set i (xs.getD p (0, 0))).set p (xs.getD i (0, 0))).Perm xs := by
  have e1 : xs.getD p (0, 0) = xs[p] := by rw [List.getD_eq_getElem?_getD, List.getElem?_eq_getElem hp]; rfl
  have e2 : xs.getD i (0, 0) = xs[i] := by rw [List.getD_eq_getElem?_getD, List.getElem?_eq_getElem hi]; rfl
  rw [e1, e2]
  exact List.set_set_perm hi hp
end Go.Proofs.Ytnhbkopgbibcgaa
