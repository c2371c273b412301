/- VoteKindly's plain law: the kinds of drovers by their turns and by the least sets. -/
import Derived.Test.YtdbleghnblohgaaPr
import Derived.Test.YtdbleghnblohgaaVy
namespace Go.Proofs.Ytdbleghnblohgaa

theorem bit_test (s i : Nat) : (s : Int) / 2 ^ i % 2 = if s.testBit i then 1 else 0 := by
  rw [castbit, Nat.testBit_eq_decide_div_mod_eq]
  have : s / 2 ^ i % 2 = 0 ∨ s / 2 ^ i % 2 = 1 := by omega
  rcases this with h | h <;> simp [h]
theorem sum_le (l : List Int) (hw : ∀ j, j < l.length → 0 ≤ l.getD j 0 ∧ l.getD j 0 ≤ 1000) (a b : Nat) (h : ∀ j, a.testBit j = true → b.testBit j = true) (k : Nat) (hk : k ≤ l.length) : sumTo l a k ≤ sumTo l b k := by
  induction k with
  | zero => exact Int.le_refl _
  | succ k ih =>
    have h1 := ih (by omega)
    have h2 := hw k (by omega)
    have h3 := h k
    simp only [sumTo, bit_test]
    cases ha : a.testBit k
    · simp only [Bool.false_eq_true, if_false, Int.mul_zero, Int.add_zero]
      split <;> omega
    · rw [h3 ha]; omega
/-- A set with more drovers wins where one with less does. -/
theorem win_sub (q : Int) (l : List Int) (hw : ∀ j, j < l.length → 0 ≤ l.getD j 0 ∧ l.getD j 0 ≤ 1000) (a b : Nat) (h : ∀ j, a.testBit j = true → b.testBit j = true) (hp : winB q l a = true) : winB q l b = true := by
  simp only [winB, decide_eq_true_eq] at hp ⊢
  have := sum_le l hw a b h l.length (Nat.le_refl _)
  omega
theorem without_nat : ∀ i : Fin 8, ∀ s : Fin 256, s.val.testBit i = true → without ((s.val : Nat) : Int) i = ((s.val - 2 ^ i.val : Nat) : Int) := by decide +kernel
theorem without_test : ∀ i j : Fin 8, ∀ s : Fin 256, s.val.testBit i = true → (s.val - 2 ^ i.val).testBit j = (s.val.testBit j && !decide (j = i)) := by decide +kernel
theorem test_high (s j : Nat) (hs : s < 256) (hj : 8 ≤ j) : s.testBit j = false := Nat.testBit_lt_two_pow (Nat.lt_of_lt_of_le hs (Nat.pow_le_pow_right (n := 2) (by decide) hj))
theorem aloneTo_iff (p : Int → Bool) (s : Nat) (hs : s < 256) (k : Nat) (hk : k ≤ 8) : aloneTo p s k = true ↔ ∀ i, i < k → s.testBit i = true → p ((s - 2 ^ i : Nat) : Int) = false := by
  induction k with
  | zero => simp [aloneTo]
  | succ k ih =>
    simp only [aloneTo, Bool.and_eq_true, Bool.or_eq_true, decide_eq_true_eq, Bool.not_eq_true', bit_test]
    rw [ih (by omega)]
    constructor
    · rintro ⟨h1, h2⟩ i hi hb
      by_cases e : i = k
      · subst e
        rcases h2 with h2 | h2
        · rw [hb] at h2; simp at h2
        · rw [← without_nat ⟨i, by omega⟩ ⟨s, hs⟩ hb]; exact h2
      · exact h1 i (by omega) hb
    · intro h
      refine ⟨fun i hi => h i (by omega), ?_⟩
      cases hb : s.testBit k
      · left; simp
      · right
        have := h k (by omega) hb
        rw [← without_nat ⟨k, by omega⟩ ⟨s, hs⟩ hb] at this
        exact this
/-- What a least set is. -/
def IsLeast (p : Int → Bool) (n s : Nat) : Prop := s < 2 ^ n ∧ p s = true ∧ ∀ i, s.testBit i = true → p ((s - 2 ^ i : Nat) : Int) = false
theorem test_under {s n i : Nat} (hs : s < 2 ^ n) (h : s.testBit i = true) : i < n := by
  apply Classical.byContradiction
  intro hi
  rw [Nat.testBit_lt_two_pow (Nat.lt_of_lt_of_le hs (Nat.pow_le_pow_right (n := 2) (by decide) (by omega)))] at h
  cases h
theorem mem_least (p : Int → Bool) (n : Nat) (hn : n ≤ 8) (k : Nat) (hk : k ≤ 2 ^ n) (x : Int) : x ∈ leastTo p n k ↔ ∃ s : Nat, x = s ∧ s < k ∧ IsLeast p n s := by
  have h256 : 2 ^ n ≤ 256 := Nat.pow_le_pow_right (n := 2) (by decide) hn
  induction k with
  | zero => simp [leastTo]
  | succ k ih =>
    have ih' := ih (by omega)
    simp only [leastTo, List.mem_append]
    constructor
    · rintro (h | h)
      · obtain ⟨s, rfl, h1, h2⟩ := ih'.1 h
        exact ⟨s, rfl, by omega, h2⟩
      · split at h
        · rename_i hb
          simp only [Bool.and_eq_true] at hb
          simp only [List.mem_singleton] at h
          refine ⟨k, h, by omega, by omega, hb.1, fun i hi => ?_⟩
          exact (aloneTo_iff p k (by omega) n hn).1 hb.2 i (test_under (by omega) hi) hi
        · cases h
    · rintro ⟨s, rfl, h1, h2⟩
      by_cases e : s = k
      · right
        subst e
        rw [if_pos]
        · simp
        · rw [Bool.and_eq_true]
          exact ⟨h2.2.1, (aloneTo_iff p s (by omega) n hn).2 fun i _ hi => h2.2.2 i hi⟩
      · left; exact ih'.2 ⟨s, rfl, by omega, h2⟩
/-- In every set that wins there is a least one. -/
theorem least_in (p : Int → Bool) (n : Nat) (hn : n ≤ 8) : ∀ s : Nat, s < 2 ^ n → p s = true → ∃ m, IsLeast p n m ∧ ∀ j, m.testBit j = true → s.testBit j = true := by
  have h256 : 2 ^ n ≤ 256 := Nat.pow_le_pow_right (n := 2) (by decide) hn
  intro s
  induction s using Nat.strongRecOn with
  | _ s ih =>
    intro hs hp
    by_cases h : ∀ i, s.testBit i = true → p ((s - 2 ^ i : Nat) : Int) = false
    · exact ⟨s, ⟨hs, hp, h⟩, fun j hj => hj⟩
    · simp only [Classical.not_forall] at h
      obtain ⟨i, hb, hpi⟩ := h
      have hi : i < 8 := by have := test_under hs hb; omega
      have hge : 2 ^ i ≤ s := Nat.ge_two_pow_of_testBit hb
      have hpos : 0 < 2 ^ i := Nat.two_pow_pos i
      obtain ⟨m, hm, hsub⟩ := ih (s - 2 ^ i) (by omega) (by omega) (by simpa using hpi)
      refine ⟨m, hm, fun j hj => ?_⟩
      have h1 := hsub j hj
      have hj8 : j < 8 := by have := test_under hm.1 hj; omega
      rw [without_test ⟨i, hi⟩ ⟨j, hj8⟩ ⟨s, by omega⟩ hb] at h1
      simp only [Bool.and_eq_true] at h1
      exact h1.1
end Go.Proofs.Ytdbleghnblohgaa
