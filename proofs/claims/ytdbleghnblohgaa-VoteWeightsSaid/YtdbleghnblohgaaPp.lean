/- Sums over the sets that a drover turns. -/
import Derived.Test.YtdbleghnblohgaaVg
namespace Go.Proofs.Ytdbleghnblohgaa

/-- The sum of f over pairs of a drover and a set. -/
def sumOf (f : Nat → Nat → Int) (l : List (Nat × Nat)) : Int := l.foldl (fun a x => a + f x.1 x.2) 0
theorem sumOf_snoc (f : Nat → Nat → Int) (l : List (Nat × Nat)) (x : Nat × Nat) : sumOf f (l ++ [x]) = sumOf f l + f x.1 x.2 := by simp [sumOf]
/-- Of each of the first k drovers the sum of f over the sets that they turn. -/
def perTo (f : Nat → Nat → Int) (p : Int → Bool) (n : Nat) : Nat → List Int
  | 0 => []
  | k + 1 => perTo f p n k ++ [sumOf f (turnsIn p k (2 ^ n))]
theorem perTo_length (f : Nat → Nat → Int) (p : Int → Bool) (n k : Nat) : (perTo f p n k).length = k := by
  induction k with
  | zero => rfl
  | succ k ih => simp [perTo, ih]
theorem sumOf_range (f : Nat → Nat → Int) (M : Int) (hf : ∀ i s, 0 ≤ f i s ∧ f i s ≤ M) (l : List (Nat × Nat)) : 0 ≤ sumOf f l ∧ sumOf f l ≤ M * l.length := by
  have H : ∀ (l : List (Nat × Nat)) (a : Int), a ≤ l.foldl (fun a x => a + f x.1 x.2) a ∧ l.foldl (fun a x => a + f x.1 x.2) a ≤ a + M * l.length := by
    intro l
    induction l with
    | nil => intro a; simp
    | cons x l ih =>
      intro a
      have h1 := ih (a + f x.1 x.2)
      have h2 := hf x.1 x.2
      rw [List.foldl_cons, List.length_cons, Int.natCast_add, Int.mul_add]
      simp only [Int.cast_ofNat_Int]
      omega
  have := H l 0
  exact ⟨this.1, by have := this.2; unfold sumOf; omega⟩
theorem foldl_turnsIn (f : Nat → Nat → Int) (p : Int → Bool) (i k : Nat) : ∀ xs : List Int, i < xs.length → (turnsIn p i k).foldl (bump f) xs = xs.set i (xs.getD i 0 + sumOf f (turnsIn p i k)) := by
  induction k with
  | zero => intro xs hi; simp [turnsIn, sumOf, List.getD_eq_getElem?_getD, List.getElem?_eq_getElem hi]
  | succ k ih =>
    intro xs hi
    simp only [turnsIn, List.foldl_append]
    rw [ih xs hi]
    split
    · simp only [List.foldl_cons, List.foldl_nil, bump, sumOf_snoc]
      rw [List.set_set]
      congr 1
      simp [List.getD_eq_getElem?_getD, hi]
      omega
    · simp
theorem tally_perTo (f : Nat → Nat → Int) (p : Int → Bool) (n k : Nat) (hk : k ≤ n) : tally n f (turnsTo p n k) = perTo f p n k ++ List.replicate (n - k) 0 := by
  induction k with
  | zero => simp [tally, turnsTo, perTo]
  | succ k ih =>
    have h1 : tally n f (turnsTo p n (k + 1)) = (turnsIn p k (2 ^ n)).foldl (bump f) (tally n f (turnsTo p n k)) := by simp [tally, turnsTo]
    rw [h1, ih (by omega), foldl_turnsIn _ _ _ _ _ (by simp [perTo_length]; omega)]
    have hl := perTo_length f p n k
    rw [show n - k = (n - (k + 1)) + 1 by omega, List.replicate_succ]
    rw [List.set_append_right k _ (by omega)]
    simp only [hl, Nat.sub_self, List.set_cons_zero, perTo, List.append_assoc, List.cons_append, List.nil_append]
    congr 2
    simp [List.getD_eq_getElem?_getD, hl]
theorem tally_all (f : Nat → Nat → Int) (p : Int → Bool) (n : Nat) : tally n f (turnsTo p n n) = perTo f p n n := by
  rw [tally_perTo f p n n (Nat.le_refl _)]; simp
end Go.Proofs.Ytdbleghnblohgaa
