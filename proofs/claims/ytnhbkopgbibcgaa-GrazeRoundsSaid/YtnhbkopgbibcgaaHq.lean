/- Plain law: the state ahead of a day, of the program and of the specification. -/
import Derived.Test.YtnhbkopgbibcgaaHh
namespace Go.Proofs.Ytnhbkopgbibcgaa

/-- The least column of the plots of a list that lie in row i or ahead of it. -/
def minIn (i : Nat) : List (Nat × Nat) → Int → Int
  | [], x => x
  | y :: ys, x => minIn i ys (if y.1 ≤ i then min x y.2 else x)
theorem minIn_append (i : Nat) (xs ys : List (Nat × Nat)) (x : Int) : minIn i (xs ++ ys) x = minIn i ys (minIn i xs x) := by
  induction xs generalizing x with
  | nil => rfl
  | cons y xs ih => exact ih _
theorem minIn_rowIn (p : Nat → Nat → Bool) (i k j : Nat) (x : Int) : minIn i (rowIn p k j) x = if k ≤ i then rbCol p k j x else x := by
  induction j with
  | zero => simp [rowIn, minIn, rbCol]
  | succ j ih =>
    rw [rowIn, minIn_append, ih]
    by_cases hk : k ≤ i
    · simp only [if_pos hk, rbCol]
      by_cases hp : p k j = true
      · simp [hp, minIn, hk]
      · simp [hp, minIn]
    · simp only [if_neg hk]
      by_cases hp : p k j = true
      · simp [hp, minIn, hk]
      · simp [hp, minIn]
theorem minIn_rowsTo (p : Nat → Nat → Bool) (b i k : Nat) (x : Int) : minIn i (rowsTo p b k) x = rbRow p b (min k (i + 1)) x := by
  induction k with
  | zero => simp [rowsTo, minIn, rbRow]
  | succ k ih =>
    rw [rowsTo, minIn_append, ih, minIn_rowIn]
    by_cases hk : k ≤ i
    · rw [if_pos hk, show min (k + 1) (i + 1) = k + 1 by omega, show min k (i + 1) = k by omega]
      rfl
    · rw [if_neg hk, show min (k + 1) (i + 1) = i + 1 by omega, show min k (i + 1) = i + 1 by omega]
theorem fillTo_length (x : Int) (n k : Nat) : (fillTo x n k).length = n := by
  induction k with
  | zero => simp [fillTo]
  | succ k ih => rw [fillTo, List.length_set, ih]
theorem fillTo_at (x : Int) (n k i : Nat) (hi : i < k) (hn : i < n) : (fillTo x n k).getD i 0 = x := by
  induction k with
  | zero => omega
  | succ k ih =>
    rw [fillTo, getD_set, fillTo_length]
    by_cases e : k = i
    · rw [if_pos ⟨e, hn⟩]
    · rw [if_neg (by omega)]; exact ih (by omega)
theorem befRow_length (x : Nat × Nat) (k : Nat) (o : List Int) : (befRow x k o).length = o.length := by
  induction k with
  | zero => rfl
  | succ k ih => rw [befRow, List.length_set, ih]
theorem befRow_at (x : Nat × Nat) (k : Nat) (o : List Int) (i : Nat) (hi : i < o.length) : (befRow x k o).getD i 0 = if x.1 ≤ i ∧ i < x.1 + k then min (o.getD i 0) x.2 else o.getD i 0 := by
  induction k with
  | zero => rw [if_neg (by omega)]; rfl
  | succ k ih =>
    rw [befRow, getD_set, befRow_length]
    by_cases e : x.1 + k = i
    · rw [if_pos ⟨e, hi⟩, if_pos (by omega), e, ih, if_neg (by omega)]
    · rw [if_neg (by omega), ih]
      by_cases h : x.1 ≤ i ∧ i < x.1 + k
      · rw [if_pos h, if_pos (by omega)]
      · rw [if_neg h, if_neg (by omega)]
theorem befOf_length (xs : List (Nat × Nat)) (b n k : Nat) : (befOf xs b n k).length = n := by
  induction k with
  | zero => exact fillTo_length _ _ _
  | succ k ih => rw [befOf, befRow_length, ih]
theorem befOf_at (xs : List (Nat × Nat)) (b n k : Nat) (hk : k ≤ xs.length) (i : Nat) (hi : i < n) : (befOf xs b n k).getD i 0 = minIn i (xs.take k) b := by
  induction k with
  | zero => exact fillTo_at _ _ _ _ hi hi
  | succ k ih =>
    have e : xs.take (k + 1) = xs.take k ++ [xs.getD k (0, 0)] := by
      rw [List.take_succ_eq_append_getElem (by omega), List.getD_eq_getElem?_getD, List.getElem?_eq_getElem (by omega)]; rfl
    rw [befOf, befRow_at _ _ _ _ (by rw [befOf_length]; exact hi), ih (by omega), e, minIn_append]
    simp only [minIn]
    by_cases h : (xs.getD k (0, 0)).1 ≤ i
    · rw [if_pos ⟨h, by omega⟩, if_pos h]
    · rw [if_neg (by omega), if_neg h]
theorem rbTo_at (p : Nat → Nat → Bool) (b n i : Nat) (hi : i < n) : (rbTo p b n).getD i 0 = rbRow p b (i + 1) b := by
  induction n with
  | zero => omega
  | succ n ih =>
    rw [rbTo, List.getD_eq_getElem?_getD]
    by_cases e : i < n
    · rw [List.getElem?_append_left (by rw [rbTo_length]; exact e), ← List.getD_eq_getElem?_getD]
      exact ih e
    · obtain rfl : i = n := by omega
      rw [List.getElem?_append_right (by rw [rbTo_length]; exact Nat.le_refl _), rbTo_length, Nat.sub_self]
      rfl
theorem back_eq (b : Nat) (l : List Int) : rback b l = backP b l := by
  unfold rback backP
  refine getD_ext (by rw [rbTo_length, befOf_length]) fun i hi => ?_
  rw [rbTo_length] at hi
  rw [rbTo_at _ _ _ _ hi, befOf_at _ _ _ _ (Nat.le_refl _) _ hi, List.take_length]
  unfold endPlots
  rw [minIn_rowsTo, show min l.length (i + 1) = i + 1 by omega]
end Go.Proofs.Ytnhbkopgbibcgaa
