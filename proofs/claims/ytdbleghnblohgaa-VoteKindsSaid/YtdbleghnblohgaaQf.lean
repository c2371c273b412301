/- The plain law of the kinds as the specification sums them. -/
import Derived.Test.YtdbleghnblohgaaPv
namespace Go.Proofs.Ytdbleghnblohgaa

/-- The drovers below k for whom something holds, as a number. -/
def setSum (f : Nat → Bool) : Nat → Int
  | 0 => 0
  | k + 1 => if f k then setSum f k + 2 ^ k else setSum f k
theorem tells_setSum (f : Nat → Bool) (k : Nat) (hk : k ≤ 8) : Tells8 (setSum f k) (fun j => decide (j < k) && f j) := by
  induction k with
  | zero => exact tells_zero.congr fun j _ => by simp
  | succ k ih =>
    have h := ih (by omega)
    simp only [setSum]
    cases hf : f k
    · refine h.congr fun j _ => ?_
      by_cases e : j = k
      · subst e; simp [hf]
      · by_cases h : j < k
        · simp [h, show j < k + 1 by omega]
        · simp [h, show ¬ j < k + 1 by omega]
    · have hb := h.bit k (by omega)
      simp only [Nat.lt_irrefl, decide_false, Bool.false_and, Bool.false_eq_true, if_false] at hb
      have e : with_ (setSum f k) k = setSum f k + 2 ^ k := by
        unfold with_
        rw [hb]
        omega
      simp only [if_true]
      rw [← e]
      refine (tells_with h k (by omega)).congr fun j _ => ?_
      by_cases e : j = k
      · subst e; simp [hf]
      · by_cases h : j < k
        · simp [h, e, show j < k + 1 by omega]
        · simp [h, e, show ¬ j < k + 1 by omega]
theorem setSum_range (f : Nat → Bool) (k : Nat) : 0 ≤ setSum f k ∧ setSum f k < 2 ^ k := by
  induction k with
  | zero => simp [setSum]
  | succ k ih =>
    have hp : (0 : Int) < 2 ^ k := Int.pow_pos (by decide)
    have e : (2 : Int) ^ (k + 1) = 2 ^ k * 2 := Int.pow_succ 2 k
    simp only [setSum]
    split <;> omega
theorem none_sum (p : Int → Bool) (n : Nat) (hn : n ≤ 8) : noneOf n (turnsTo p n n) = setSum (fun i => decide (turnsIn p i (2 ^ n) = [])) n := by
  have h := tells_none n hn (turnsTo p n n) (fun x hx => by have := ((mem_turnsTo p n n x).1 hx).1; omega)
  refine (h.congr fun j hj => ?_).eq (tells_setSum _ n hn)
  by_cases hjn : j < n
  · have h1 := h.bit j hj
    rw [none_turn p n hn j hjn] at h1
    simp only [hjn, decide_true, Bool.true_and] at h1 ⊢
    by_cases e : turnsIn p j (2 ^ n) = []
    · rw [if_pos e] at h1
      rw [decide_eq_true e]
      cases hx : !(turnsTo p n n).any fun x => decide (x.1 = j)
      · rw [hx] at h1; simp at h1
      · rfl
    · rw [if_neg e] at h1
      rw [decide_eq_false e]
      cases hx : !(turnsTo p n n).any fun x => decide (x.1 = j)
      · rfl
      · rw [hx] at h1; simp at h1
  · simp [hjn]
theorem full_without (n k : Nat) (hn : n ≤ 8) (hk : k < n) : without (2 ^ n - 1) k = 2 ^ n - 1 - 2 ^ k := by
  have h := (tells_full n hn).bit k (by omega)
  simp only [hk, decide_true, if_true] at h
  unfold without
  rw [h]
  omega
theorem every_sum (p : Int → Bool) (n : Nat) (hn : n ≤ 8) : everyTo p n n = setSum (fun i => !p (2 ^ n - 1 - 2 ^ i)) n := by
  refine ((tells_every p n n hn).congr fun j _ => ?_).eq (tells_setSum _ n hn)
  by_cases hjn : j < n
  · simp only [hjn, decide_true, Bool.true_and]
    rw [full_without n j hn hjn]
  · simp [hjn]
theorem single_sum (p : Int → Bool) (n : Nat) (hn : n ≤ 8) : singleTo p n = setSum (fun i => p (2 ^ i)) n := by
  exact (tells_single p n hn).eq (tells_setSum _ n hn)
theorem ones_zero (l : List (Nat × Nat)) : (sumOf (fun _ _ => 1) l = 0) ↔ l = [] := by
  have : ∀ (l : List (Nat × Nat)) (a : Int), l.foldl (fun a _ => a + 1) a = a + l.length := by
    intro l
    induction l with
    | nil => intro a; simp
    | cons x l ih => intro a; rw [List.foldl_cons, ih]; simp; omega
  unfold sumOf
  rw [this]
  constructor
  · intro h; exact List.length_eq_zero_iff.1 (by omega)
  · intro h; subst h; rfl
end Go.Proofs.Ytdbleghnblohgaa
