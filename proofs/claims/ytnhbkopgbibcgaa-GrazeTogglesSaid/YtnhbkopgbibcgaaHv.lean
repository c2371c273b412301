/- Plain laws: turning plots. -/
import Derived.Test.YtnhbkopgbibcgaaGl
namespace Go.Proofs.Ytnhbkopgbibcgaa

/-- By how much a turn changes a row. -/
def tv (l : List Int) (i : Nat) (j : Int) : Int := if nextB l i j then 1 else if endB l i j then -1 else 0
theorem set_same (l : List Int) (i : Nat) : l.set i (l.getD i 0 + 0) = l := by
  by_cases h : i < l.length
  · rw [getD_get h, Int.add_zero, List.set_getElem_self]
  · rw [List.set_eq_of_length_le (by omega)]
theorem turn_set (l : List Int) (i : Nat) (j : Int) : turnS l i j = l.set i (l.getD i 0 + tv l i j) := by
  unfold turnS tv
  by_cases h1 : nextB l i j = true
  · rw [if_pos h1, if_pos h1]
  · rw [if_neg h1, if_neg h1]
    by_cases h2 : endB l i j = true
    · rw [if_pos h2, if_pos h2]; rfl
    · rw [if_neg h2, if_neg h2, set_same]
theorem next_iff (l : List Int) (i : Nat) (j : Int) : nextB l i j = true ↔ l.getD i 0 = j ∧ (i = 0 ∨ j < l.getD (i - 1) 0) := by
  simp only [nextB, Bool.and_eq_true, Bool.or_eq_true, decide_eq_true_eq]
theorem end_iff (l : List Int) (i : Nat) (j : Int) : endB l i j = true ↔ l.getD i 0 = j + 1 ∧ (i + 1 = l.length ∨ l.getD (i + 1) 0 ≤ j) := by
  simp only [endB, Bool.and_eq_true, Bool.or_eq_true, decide_eq_true_eq]
theorem tv_cases (l : List Int) (i : Nat) (j : Int) : (nextB l i j = true ∧ tv l i j = 1) ∨ (nextB l i j = false ∧ endB l i j = true ∧ tv l i j = -1) ∨ (nextB l i j = false ∧ endB l i j = false ∧ tv l i j = 0) := by
  unfold tv
  cases h : nextB l i j
  · cases h2 : endB l i j
    · exact .inr (.inr ⟨rfl, rfl, by simp⟩)
    · exact .inr (.inl ⟨rfl, rfl, by simp⟩)
  · exact .inl ⟨rfl, by simp⟩
theorem tv_range (l : List Int) (i : Nat) (j : Int) (h : tv l i j ≠ 0) : l.getD i 0 = j ∧ tv l i j = 1 ∨ l.getD i 0 = j + 1 ∧ tv l i j = -1 := by
  rcases tv_cases l i j with ⟨h1, h2⟩ | ⟨_, h1, h2⟩ | ⟨_, _, h2⟩
  · exact .inl ⟨((next_iff l i j).1 h1).1, h2⟩
  · exact .inr ⟨((end_iff l i j).1 h1).1, h2⟩
  · exact absurd h2 h
/-- Turning a plot twice changes nothing. -/
theorem turn_twice {a b : Int} {l : List Int} (h : stateB a b l = true) (i : Nat) (j : Int) (hi : i < l.length) : turnS (turnS l i j) i j = l := by
  have hs := (of_decide_eq_true h).2
  have e1 : ∀ x, (l.set i x).getD i 0 = x := fun x => by rw [getD_set, if_pos ⟨rfl, hi⟩]
  have e2 : ∀ x, 0 < i → (l.set i x).getD (i - 1) 0 = l.getD (i - 1) 0 := fun x h0 => by rw [getD_set, if_neg (by omega)]
  have e3 : ∀ x, (l.set i x).getD (i + 1) 0 = l.getD (i + 1) 0 := fun x => by rw [getD_set, if_neg (by omega)]
  have hback : ∀ x d, l.getD i 0 + d + x = l.getD i 0 → (l.set i (l.getD i 0 + d)).set i (l.getD i 0 + d + x) = l := fun x d hx => by
    rw [List.set_set, hx, ← Int.add_zero (l.getD i 0), set_same]
  have h0 := hs i hi
  have h1 : i + 1 < l.length → l.getD (i + 1) 0 ≤ l.getD i 0 := fun hl => (hs (i + 1) hl).2 (by omega)
  have lt : ∀ x, (l.set i x).length = l.length := fun x => List.length_set
  rw [turn_set (turnS l i j), turn_set l]
  rw [e1]
  apply hback
  rcases tv_cases l i j with ⟨n1, t1⟩ | ⟨n1, n2, t1⟩ | ⟨n1, n2, t1⟩
  · rw [t1]
    have a1 := (next_iff l i j).1 n1
    rcases tv_cases (l.set i (l.getD i 0 + 1)) i j with ⟨m1, s1⟩ | ⟨_, _, s1⟩ | ⟨_, m2, s1⟩
    · have := (next_iff _ _ _).1 m1
      rw [e1] at this
      omega
    · rw [s1]; omega
    · exfalso
      have : endB (l.set i (l.getD i 0 + 1)) i j = true := by
        rw [end_iff, e1, e3, lt]
        refine ⟨by omega, ?_⟩
        by_cases hl : i + 1 = l.length
        · exact .inl hl
        · have := h1 (by omega); exact .inr (by omega)
      rw [m2] at this
      cases this
  · rw [t1]
    have a1 := (end_iff l i j).1 n2
    rcases tv_cases (l.set i (l.getD i 0 + -1)) i j with ⟨_, s1⟩ | ⟨m1, _, _⟩ | ⟨m1, _, _⟩
    · rw [s1]; omega
    all_goals
      exfalso
      have : nextB (l.set i (l.getD i 0 + -1)) i j = true := by
        rw [next_iff, e1]
        refine ⟨by omega, ?_⟩
        by_cases hl : i = 0
        · exact .inl hl
        · rw [e2 _ (by omega)]
          have := h0.2 (by omega)
          exact .inr (by omega)
      rw [m1] at this
      cases this
  · rw [t1, Int.add_zero, ← Int.add_zero (l.getD i 0), set_same, Int.add_zero, t1]
    omega
/-- A turn reads its own row and the two beside it. -/
theorem tv_congr (l k : List Int) (i : Nat) (j : Int) (hl : l.length = k.length) (h0 : l.getD i 0 = k.getD i 0) (h1 : 0 < i → (j < l.getD (i - 1) 0 ↔ j < k.getD (i - 1) 0)) (h2 : i + 1 < l.length → (l.getD (i + 1) 0 ≤ j ↔ k.getD (i + 1) 0 ≤ j)) : tv l i j = tv k i j := by
  have hn : nextB l i j = nextB k i j := by
    rw [Bool.eq_iff_iff, next_iff, next_iff, h0]
    by_cases hi : i = 0
    · simp [hi]
    · rw [h1 (by omega)]
  have he : endB l i j = endB k i j := by
    rw [Bool.eq_iff_iff, end_iff, end_iff, h0, hl]
    by_cases hi : i + 1 = k.length
    · simp [hi]
    · by_cases hi2 : i + 1 < k.length
      · rw [h2 (by omega)]
      · have e1 : l.getD (i + 1) 0 = 0 := by rw [List.getD_eq_getElem?_getD, List.getElem?_eq_none (by omega)]; rfl
        have e2 : k.getD (i + 1) 0 = 0 := by rw [List.getD_eq_getElem?_getD, List.getElem?_eq_none (by omega)]; rfl
        rw [e1, e2]
  unfold tv
  rw [hn, he]
/-- Two plots do not lie directly beyond one another. -/
def FarP (i : Nat) (j : Int) (i' : Nat) (j' : Int) : Prop := ¬ ((i = i' ∧ (j = j' + 1 ∨ j' = j + 1)) ∨ (j = j' ∧ (i = i' + 1 ∨ i' = i + 1)))
theorem tv_after (l : List Int) (i i' : Nat) (j j' : Int) (hne : i ≠ i') (hf : FarP i j i' j') : tv (l.set i (l.getD i 0 + tv l i j)) i' j' = tv l i' j' := by
  by_cases hz : tv l i j = 0
  · rw [hz, set_same]
  · have hr := tv_range l i j hz
    refine tv_congr _ _ _ _ List.length_set (by rw [getD_set, if_neg (by omega)]) (fun h0 => ?_) (fun h0 => ?_)
    · rw [getD_set]
      by_cases e : i = i' - 1 ∧ i' - 1 < l.length
      · rw [if_pos e, ← e.1]
        have : j ≠ j' := fun e2 => hf (.inr ⟨e2, .inr (by omega)⟩)
        omega
      · rw [if_neg e]
    · rw [getD_set]
      by_cases e : i = i' + 1 ∧ i' + 1 < l.length
      · rw [if_pos e, ← e.1]
        have : j ≠ j' := fun e2 => hf (.inr ⟨e2, .inl (by omega)⟩)
        omega
      · rw [if_neg e]
theorem turn_comm (l : List Int) (i i' : Nat) (j j' : Int) (hi : i < l.length) (hf : FarP i j i' j') (hf' : FarP i' j' i j) : turnS (turnS l i j) i' j' = turnS (turnS l i' j') i j := by
  by_cases hne : i = i'
  · subst hne
    by_cases hj : j = j'
    · subst hj; rfl
    · have e1 : ∀ x, (l.set i x).getD i 0 = x := fun x => by rw [getD_set, if_pos ⟨rfl, hi⟩]
      have h1 : ¬ (j = j' + 1 ∨ j' = j + 1) := fun h => hf (.inl ⟨rfl, h⟩)
      have key : ∀ (p q : Int), p ≠ q → ¬ (p = q + 1 ∨ q = p + 1) → tv l i p ≠ 0 → turnS (turnS l i p) i q = turnS l i p ∧ turnS l i q = l := fun p q hpq hn hz => by
        have hr := tv_range l i p hz
        have hq : tv l i q = 0 := by
          by_cases h : tv l i q = 0
          · exact h
          · have := tv_range l i q h; omega
        refine ⟨?_, by rw [turn_set, hq, set_same]⟩
        rw [turn_set (turnS l i p)]
        have hq2 : tv (turnS l i p) i q = 0 := by
          by_cases h : tv (turnS l i p) i q = 0
          · exact h
          · have h3 := tv_range _ i q h
            rw [turn_set, e1] at h3
            omega
        rw [hq2, set_same]
      by_cases z1 : tv l i j = 0
      · by_cases z2 : tv l i j' = 0
        · rw [show turnS l i j = l by rw [turn_set, z1, set_same], show turnS l i j' = l by rw [turn_set, z2, set_same], turn_set l i j, z1, set_same]
        · obtain ⟨k1, k2⟩ := key j' j (fun e => hj e.symm) (fun h => h1 (by omega)) z2
          rw [k1, k2]
      · obtain ⟨k1, k2⟩ := key j j' hj h1 z1
        rw [k1, k2]
  · rw [turn_set (turnS l i j), turn_set (turnS l i' j'), turn_set l i j, turn_set l i' j', tv_after l i i' j j' hne hf, tv_after l i' i j' j (fun e => hne e.symm) hf']
    rw [getD_set, if_neg (by omega), getD_set, if_neg (by omega), List.set_comm _ _ hne]
end Go.Proofs.Ytnhbkopgbibcgaa
