/- Plain laws: all plots turned, line by line. -/
import Derived.Test.YtnhbkopgbibcgaaHv
import Derived.Test.YtnhbkopgbibcgaaHp
namespace Go.Proofs.Ytnhbkopgbibcgaa

/-- The plots of a line i + j = d, of the first i rows. -/
def diagTo (m d : Nat) : Nat → List (Nat × Nat)
  | 0 => []
  | i + 1 => diagTo m d i ++ if i ≤ d ∧ d - i < m then [(i, d - i)] else []
def turnL (l : List Int) (xs : List (Nat × Nat)) : List Int := xs.foldl (fun s x => turnS s x.1 (x.2 : Int)) l
/-- k lines, the last one first. -/
def canonTo (n m : Nat) : Nat → List (Nat × Nat)
  | 0 => []
  | k + 1 => canonTo n m k ++ diagTo m (n + m - 2 - k) n
def canonF (n m : Nat) (l : List Int) : List Int := turnL l (canonTo n m (n + m - 1))
theorem turnL_append (l : List Int) (xs ys : List (Nat × Nat)) : turnL l (xs ++ ys) = turnL (turnL l xs) ys := List.foldl_append
theorem diagTo_mem (m d i : Nat) : ∀ x ∈ diagTo m d i, x.1 < i ∧ x.2 < m ∧ x.1 + x.2 = d := by
  induction i with
  | zero => intro x hx; simp [diagTo] at hx
  | succ i ih =>
    intro x hx
    rw [diagTo, List.mem_append] at hx
    rcases hx with hx | hx
    · have := ih x hx; omega
    · split at hx
      · rename_i h
        rw [List.mem_singleton] at hx
        subst hx
        exact ⟨by show i < i + 1; omega, h.2, by show i + (d - i) = d; omega⟩
      · simp at hx
theorem diagTo_length (m d i : Nat) : (diagTo m d i).length ≤ i := by
  induction i with
  | zero => simp [diagTo]
  | succ i ih => rw [diagTo, List.length_append]; split <;> simp <;> omega
theorem diag_pos {n m d : Nat} (hn : 1 ≤ n) (hm : 1 ≤ m) (hd : d ≤ n + m - 2) : 0 < (diagTo m d n).length := by
  have key : ∀ i, min d (n - 1) < i → 0 < (diagTo m d i).length := by
    intro i
    induction i with
    | zero => intro h; omega
    | succ i ih =>
      intro h
      rw [diagTo, List.length_append]
      by_cases e : min d (n - 1) < i
      · have := ih e; omega
      · rw [if_pos (by omega)]; simp
  exact key n (by omega)
theorem turn_out (l : List Int) (i : Nat) (j : Int) (h : l.length ≤ i) : turnS l i j = l := by
  rw [turn_set, List.set_eq_of_length_le h]
theorem turn_comm2 (l : List Int) (i i' : Nat) (j j' : Int) (hf : FarP i j i' j') (hf' : FarP i' j' i j) : turnS (turnS l i j) i' j' = turnS (turnS l i' j') i j := by
  by_cases hi : i < l.length
  · exact turn_comm l i i' j j' hi hf hf'
  · rw [turn_out l i j (by omega), turn_out (turnS l i' j') i j (by rw [turnS_length]; omega)]
/-- The plots of a line can be turned in any order. -/
theorem turn_perm {m d n : Nat} {ys : List (Nat × Nat)} (h : ys.Perm (diagTo m d n)) (l : List Int) : turnL l ys = turnL l (diagTo m d n) := by
  refine h.foldl_eq' (fun x hx y hy z => ?_) l
  have h1 := diagTo_mem m d n x (h.mem_iff.1 hx)
  have h2 := diagTo_mem m d n y (h.mem_iff.1 hy)
  refine turn_comm2 z x.1 y.1 (x.2 : Int) (y.2 : Int) ?_ ?_
  · rintro (⟨e, f | f⟩ | ⟨e, f | f⟩) <;> omega
  · rintro (⟨e, f | f⟩ | ⟨e, f | f⟩) <;> omega
def dayCB (n m : Nat) (l : List Int) : Bool := decide (dayF m l = canonF n m l)
end Go.Proofs.Ytnhbkopgbibcgaa
