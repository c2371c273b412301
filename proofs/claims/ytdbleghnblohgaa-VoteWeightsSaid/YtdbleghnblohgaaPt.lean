/- VoteKindly's plain law, second part. -/
import Derived.Test.YtdbleghnblohgaaPs
namespace Go.Proofs.Ytdbleghnblohgaa

theorem with_nat : ∀ i : Fin 8, ∀ s : Fin 256, s.val.testBit i = false → with_ ((s.val : Nat) : Int) i = ((s.val + 2 ^ i.val : Nat) : Int) := by decide +kernel
theorem with_test : ∀ i j : Fin 8, ∀ s : Fin 256, s.val.testBit i = false → (s.val + 2 ^ i.val).testBit j = (s.val.testBit j || decide (j = i)) := by decide +kernel
theorem mem_turnsIn (p : Int → Bool) (i k : Nat) (x : Nat × Nat) : x ∈ turnsIn p i k ↔ x.1 = i ∧ x.2 < k ∧ turnB p i x.2 = true := by
  induction k with
  | zero => simp [turnsIn]
  | succ k ih =>
    simp only [turnsIn, List.mem_append, ih]
    constructor
    · rintro (⟨h1, h2, h3⟩ | h)
      · exact ⟨h1, by omega, h3⟩
      · split at h
        · rename_i hb
          simp only [List.mem_singleton] at h
          subst h
          exact ⟨rfl, by simp, hb⟩
        · cases h
    · rintro ⟨h1, h2, h3⟩
      by_cases e : x.2 = k
      · right
        obtain ⟨a, b⟩ := x
        simp only at h1 e h3
        subst h1 e
        rw [show (decide ((b : Int) / 2 ^ a % 2 = 0) && (!p b && p (with_ b a))) = true from h3]
        simp
      · left; exact ⟨h1, by omega, h3⟩
theorem mem_turnsTo (p : Int → Bool) (n k : Nat) (x : Nat × Nat) : x ∈ turnsTo p n k ↔ x.1 < k ∧ x ∈ turnsIn p x.1 (2 ^ n) := by
  induction k with
  | zero => simp [turnsTo]
  | succ k ih =>
    simp only [turnsTo, List.mem_append, ih]
    constructor
    · rintro (⟨h1, h2⟩ | h)
      · exact ⟨by omega, h2⟩
      · have := (mem_turnsIn p k (2 ^ n) x).1 h
        rw [this.1]
        exact ⟨by omega, h⟩
    · rintro ⟨h1, h2⟩
      by_cases e : x.1 = k
      · right; rw [← e]; exact h2
      · left; exact ⟨by omega, h2⟩
/-- A drover turns nothing exactly if no least set has them. -/
theorem no_turn (q : Int) (l : List Int) (hw : ∀ j, j < l.length → 0 ≤ l.getD j 0 ∧ l.getD j 0 ≤ 1000) (h8 : l.length ≤ 8) (i : Nat) (hi : i < l.length) :
    turnsIn (winB q l) i (2 ^ l.length) = [] ↔ ∀ m, IsLeast (winB q l) l.length m → m.testBit i = false := by
  have h256 : 2 ^ l.length ≤ 256 := Nat.pow_le_pow_right (n := 2) (by decide) h8
  constructor
  · intro h m hm
    cases hb : m.testBit i
    · rfl
    · exfalso
      have hm256 : m < 256 := by have := hm.1; omega
      have hge : 2 ^ i ≤ m := Nat.ge_two_pow_of_testBit hb
      have hpos : 0 < 2 ^ i := Nat.two_pow_pos i
      have h0 : (m - 2 ^ i).testBit i = false := by
        have := without_test ⟨i, by omega⟩ ⟨i, by omega⟩ ⟨m, hm256⟩ hb
        simpa using this
      have : (i, m - 2 ^ i) ∈ turnsIn (winB q l) i (2 ^ l.length) := by
        rw [mem_turnsIn]
        have := hm.1
        refine ⟨rfl, by simp only; omega, ?_⟩
        have h1 := with_nat ⟨i, by omega⟩ ⟨m - 2 ^ i, by omega⟩ h0
        simp only at h1
        simp only [turnB, Bool.and_eq_true, decide_eq_true_eq, Bool.not_eq_true', bit_test, h0]
        refine ⟨by simp, hm.2.2 i hb, ?_⟩
        rw [h1, show m - 2 ^ i + 2 ^ i = m by omega]
        exact hm.2.1
      rw [h] at this
      cases this
  · intro h
    apply List.eq_nil_iff_forall_not_mem.2
    intro x hx
    rw [mem_turnsIn] at hx
    obtain ⟨_, h2, h3⟩ := hx
    obtain ⟨a, s⟩ := x
    simp only [turnB, Bool.and_eq_true, decide_eq_true_eq, Bool.not_eq_true', bit_test] at h2 h3
    obtain ⟨h3, h4, h5⟩ := h3
    have hb : s.testBit i = false := by
      cases hb : s.testBit i
      · rfl
      · rw [hb] at h3; simp at h3
    have hs : s < 256 := by omega
    rw [with_nat ⟨i, by omega⟩ ⟨s, hs⟩ hb] at h5
    have hlt : s + 2 ^ i < 2 ^ l.length := by
      have := flip_lt ⟨l.length, by omega⟩ ⟨i, by omega⟩ hi ⟨s, h2⟩
      unfold flipS at this
      have h6 : s / 2 ^ i % 2 = 0 := by
        have := castbit s i
        rw [bit_test, hb] at this
        simp only [Bool.false_eq_true, if_false] at this
        omega
      simp only at this
      rw [if_pos h6] at this
      exact this
    obtain ⟨m, hm, hsub⟩ := least_in (winB q l) l.length h8 (s + 2 ^ i) hlt h5
    have hmi := h m hm
    have := win_sub q l hw m s (fun j hj => by
      have h7 := hsub j hj
      have hj8 : j < 8 := by have := test_under hm.1 hj; omega
      rw [with_test ⟨i, by omega⟩ ⟨j, hj8⟩ ⟨s, hs⟩ hb] at h7
      simp only [Bool.or_eq_true, decide_eq_true_eq, Fin.mk.injEq] at h7
      rcases h7 with h7 | h7
      · exact h7
      · subst h7; rw [hmi] at hj; cases hj) hm.2.1
    rw [h4] at this
    cases this
end Go.Proofs.Ytdbleghnblohgaa
