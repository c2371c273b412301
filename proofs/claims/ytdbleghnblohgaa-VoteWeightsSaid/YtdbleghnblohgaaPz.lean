/- Every rule of at most five drovers has small weights, or a trade. -/
import Derived.Test.YtdbleghnblohgaaPx
import Derived.Test.YtdbleghnblohgaaPy
namespace Go.Proofs.Ytdbleghnblohgaa

theorem cert_of : ∀ (Ts : List Nat) (N : Nat), certAll Ts N = true → ∀ T, T ∈ Ts → T ≠ 0 → T ≠ 4294967295 → ∃ c, certB T c = true
  | [], _, _, T, hT, _, _ => by cases hT
  | U :: Us, N, h, T, hT, h0, h1 => by
    simp only [certAll, Bool.and_eq_true, Bool.or_eq_true] at h
    rcases List.mem_cons.1 hT with e | e
    · subst e
      rcases h.1 with h2 | h2 | h2
      · exact absurd (Nat.eq_of_beq_eq_true h2) h0
      · exact absurd (Nat.eq_of_beq_eq_true h2) h1
      · exact ⟨_, h2⟩
    · exact cert_of Us _ h.2 T e h0 h1
theorem bitB_test (T s : Nat) : bitB T s = T.testBit s := by
  rw [Nat.testBit_eq_decide_div_mod_eq]
  unfold bitB
  by_cases h : T / 2 ^ s % 2 = 1
  · rw [h]; rfl
  · rw [decide_eq_false h]
    cases e : Nat.beq (T / 2 ^ s % 2) 1
    · rfl
    · exact absurd (Nat.eq_of_beq_eq_true e) h
/-- The table of what wins among the sets from b on. -/
def tabF (p : Nat → Bool) (b : Nat) : Nat → Nat
  | 0 => if p b then 1 else 0
  | n + 1 => tabF p b n + 2 ^ (2 ^ n) * tabF p (b + 2 ^ n) n
theorem tab_lt (p : Nat → Bool) (n : Nat) : ∀ b, tabF p b n < 2 ^ (2 ^ n) := by
  induction n with
  | zero => intro b; simp only [tabF]; split <;> decide
  | succ n ih =>
    intro b
    have h1 := ih b
    have h2 := ih (b + 2 ^ n)
    have h3 : 2 ^ (2 ^ (n + 1)) = 2 ^ (2 ^ n) * 2 ^ (2 ^ n) := by rw [← Nat.pow_add]; congr 1; rw [Nat.pow_succ]; omega
    have h4 : 2 ^ (2 ^ n) * (tabF p (b + 2 ^ n) n + 1) ≤ 2 ^ (2 ^ n) * 2 ^ (2 ^ n) := Nat.mul_le_mul_left _ h2
    rw [Nat.mul_add, Nat.mul_one] at h4
    simp only [tabF]
    omega
theorem tab_bit (p : Nat → Bool) (n : Nat) : ∀ b s, s < 2 ^ n → (tabF p b n).testBit s = p (b + s) := by
  induction n with
  | zero =>
    intro b s hs
    obtain rfl : s = 0 := by simp at hs; exact hs
    simp only [tabF, Nat.add_zero]
    cases p b <;> simp
  | succ n ih =>
    intro b s hs
    simp only [tabF]
    rw [Nat.add_comm, Nat.testBit_two_pow_mul_add _ (tab_lt p n b)]
    split
    · rename_i h
      exact ih b s h
    · rename_i h
      rw [Nat.pow_succ] at hs
      rw [ih (b + 2 ^ n) (s - 2 ^ n) (by omega)]
      congr 1
      omega
theorem tab_high (p : Nat → Bool) (b n s : Nat) (hs : 2 ^ n ≤ s) : (tabF p b n).testBit s = false :=
  Nat.testBit_lt_two_pow (Nat.lt_of_lt_of_le (tab_lt p n b) (Nat.pow_le_pow_right (by decide) hs))
theorem plus_test {n s j : Nat} (hs : s < 2 ^ n) : (s + 2 ^ n).testBit j = (s.testBit j || decide (j = n)) := by
  have h := Nat.testBit_two_pow_mul_add 1 hs j
  rw [Nat.mul_one, Nat.add_comm] at h
  rw [h]
  split
  · rename_i hj
    rw [decide_eq_false (by omega), Bool.or_false]
  · rename_i hj
    rw [Nat.testBit_lt_two_pow (x := s) (Nat.lt_of_lt_of_le hs (Nat.pow_le_pow_right (n := 2) (by decide) (by omega))), Bool.false_or]
    by_cases e : j = n
    · subst e; simp
    · rw [decide_eq_false e, Nat.testBit_eq_decide_div_mod_eq]
      refine decide_eq_false fun h2 => ?_
      have : 2 ^ 1 ≤ 2 ^ (j - n) := Nat.pow_le_pow_right (by decide) (by omega)
      rw [Nat.div_eq_of_lt (by omega)] at h2
      omega
theorem tab_mem (p : Nat → Bool) (n : Nat) : ∀ b, (∀ s t, s < 2 ^ n → t < 2 ^ n → (∀ j, s.testBit j = true → t.testBit j = true) → p (b + s) = true → p (b + t) = true) → tabF p b n ∈ monoTabs n := by
  induction n with
  | zero =>
    intro b _
    simp only [tabF, monoTabs]
    split <;> simp
  | succ n ih =>
    intro b h
    have hp : 2 ^ (n + 1) = 2 ^ n + 2 ^ n := by rw [Nat.pow_succ]; omega
    simp only [tabF, monoTabs, List.mem_flatMap, List.mem_map, List.mem_filter]
    refine ⟨tabF p b n, ih b (fun s t hs ht => h s t (by omega) (by omega)), tabF p (b + 2 ^ n) n, ⟨ih (b + 2 ^ n) (fun s t hs ht hst hps => ?_), ?_⟩, rfl⟩
    · have := h (s + 2 ^ n) (t + 2 ^ n) (by omega) (by omega) (fun j hj => by
        rw [plus_test hs] at hj
        rw [plus_test ht]
        simp only [Bool.or_eq_true] at hj ⊢
        exact hj.imp (hst j) id)
      rw [show b + (s + 2 ^ n) = b + 2 ^ n + s by omega, show b + (t + 2 ^ n) = b + 2 ^ n + t by omega] at this
      exact this hps
    · have e : tabF p b n &&& tabF p (b + 2 ^ n) n = tabF p b n := by
        apply Nat.eq_of_testBit_eq
        intro s
        rw [Nat.testBit_and]
        by_cases hs : s < 2 ^ n
        · rw [tab_bit p n b s hs, tab_bit p n (b + 2 ^ n) s hs]
          cases e1 : p (b + s)
          · rfl
          · have := h s (s + 2 ^ n) (by omega) (by omega) (fun j hj => by rw [plus_test hs, hj]; rfl) e1
            rw [show b + (s + 2 ^ n) = b + 2 ^ n + s by omega] at this
            rw [this]
            rfl
        · rw [tab_high p b n s (by omega)]
          rfl
      rw [e]
      exact Nat.beq_refl _
end Go.Proofs.Ytdbleghnblohgaa
