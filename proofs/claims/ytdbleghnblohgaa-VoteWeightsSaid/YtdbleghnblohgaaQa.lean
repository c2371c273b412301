/- For a rule of at most five drovers there are small weights, or there is a trade. -/
import Derived.Test.YtdbleghnblohgaaPz
namespace Go.Proofs.Ytdbleghnblohgaa

/-- Weights up to 9 and a quota with which just the sets win that are to. -/
structure Weighs (p : Int → Bool) (m : Nat) (ws : List Int) (q : Int) : Prop where
  len : ws.length = m
  light : ∀ j, j < m → 0 ≤ ws.getD j 0 ∧ ws.getD j 0 ≤ 9
  fits : ∀ s : Nat, s < 2 ^ m → p s = decide (q ≤ sumTo ws s m)
/-- Four sets that are a trade. -/
structure Trades (p : Int → Bool) (m a b c d : Nat) : Prop where
  la : a < 2 ^ m
  lb : b < 2 ^ m
  lc : c < 2 ^ m
  ld : d < 2 ^ m
  wa : p a = true
  wb : p b = true
  wc : p c = false
  wd : p d = false
  and_ : a &&& b = c &&& d
  or_ : a ||| b = c ||| d
theorem weigh_at {T w0 w1 w2 w3 w4 q : Nat} : ∀ k, weighB T w0 w1 w2 w3 w4 q k = true → ∀ s, s < k → bitB T s = Nat.ble q (w0 * (s % 2) + w1 * (s / 2 % 2) + w2 * (s / 4 % 2) + w3 * (s / 8 % 2) + w4 * (s / 16 % 2))
  | 0, _, s, hs => by omega
  | k + 1, h, s, hs => by
    simp only [weighB, Bool.and_eq_true, beq_iff_eq] at h
    by_cases e : s = k
    · subst e; exact h.1
    · exact weigh_at k h.2 s (by omega)
theorem sum_take (ws : List Int) (m s k : Nat) (hk : k ≤ m) : sumTo (ws.take m) s k = sumTo ws s k := by
  induction k with
  | zero => rfl
  | succ k ih => simp only [sumTo, ih (by omega), List.getD_eq_getElem?_getD, List.getElem?_take, if_pos (show k < m by omega)]
theorem sum_high (ws : List Int) (m s : Nat) (hs : s < 2 ^ m) (k : Nat) : sumTo ws s (m + k) = sumTo ws s m := by
  induction k with
  | zero => rfl
  | succ k ih =>
    rw [← Nat.add_assoc]
    simp only [sumTo, ih, bit_test]
    rw [Nat.testBit_lt_two_pow (Nat.lt_of_lt_of_le hs (Nat.pow_le_pow_right (n := 2) (by decide) (by omega)))]
    simp
theorem sum_five (w0 w1 w2 w3 w4 s : Nat) : sumTo [(w0 : Int), (w1 : Int), (w2 : Int), (w3 : Int), (w4 : Int)] s 5 = ((w0 * (s % 2) + w1 * (s / 2 % 2) + w2 * (s / 4 % 2) + w3 * (s / 8 % 2) + w4 * (s / 16 % 2) : Nat) : Int) := by
  have e : ∀ k : Nat, (s : Int) / 2 ^ k % 2 = ((s / 2 ^ k % 2 : Nat) : Int) := fun k => castbit s k
  simp only [sumTo, e]
  simp
theorem mod_lt32 {m : Nat} (hm : m ≤ 5) (s : Nat) : s % 2 ^ m < 32 := by
  have h1 : 2 ^ m ≤ 32 := Nat.pow_le_pow_right (n := 2) (by decide) hm
  have h2 := Nat.mod_lt s (Nat.two_pow_pos m)
  omega
theorem weights_or_trade (p : Int → Bool) (m : Nat) (hm : m ≤ 5) (hmono : Mono p m) (h0 : p ((0 : Nat) : Int) = false) (hf : p ((2 ^ m - 1 : Nat) : Int) = true) :
    (∃ ws q, Weighs p m ws q) ∨ ∃ a b c d, Trades p m a b c d := by
  have hpos := Nat.two_pow_pos m
  have h32 : 2 ^ m ≤ 32 := Nat.pow_le_pow_right (n := 2) (by decide) hm
  obtain ⟨f, hfd⟩ : ∃ f : Nat → Bool, ∀ s, f s = p ((s % 2 ^ m : Nat) : Int) := ⟨fun s => p ((s % 2 ^ m : Nat) : Int), fun _ => rfl⟩
  have hmem := tab_mem f 5 0 (fun s t _ _ hst hs => by
    rw [Nat.zero_add, hfd] at hs ⊢
    refine hmono (s % 2 ^ m) (t % 2 ^ m) (Nat.mod_lt _ hpos) (Nat.mod_lt _ hpos) (fun j hj => ?_) hs
    rw [Nat.testBit_mod_two_pow, Bool.and_eq_true] at hj ⊢
    exact ⟨hj.1, hst j hj.2⟩)
  have hbit : ∀ s, s < 32 → (tabF f 0 5).testBit s = p ((s % 2 ^ m : Nat) : Int) := fun s hs => by
    rw [tab_bit f 5 0 s hs, Nat.zero_add, hfd]
  obtain ⟨c, hc⟩ := cert_of _ _ cert_all (tabF f 0 5) hmem (fun e => by
    have := hbit (2 ^ m - 1) (by omega)
    rw [e, Nat.mod_eq_of_lt (by omega), hf] at this
    simp at this) (fun e => by
    have := hbit 0 (by omega)
    rw [e, Nat.zero_mod, h0] at this
    exact absurd this (by decide))
  unfold certB at hc
  cases hb : Nat.beq (c % 2) 1
  · rw [hb] at hc
    simp only [cond_false, Bool.and_eq_true] at hc
    obtain ⟨hl, hw⟩ := hc
    generalize c / 2 % 16 = w0 at *
    generalize c / 32 % 16 = w1 at *
    generalize c / 512 % 16 = w2 at *
    generalize c / 8192 % 16 = w3 at *
    generalize c / 131072 % 16 = w4 at *
    generalize c / 2097152 = q at *
    simp only [lightB, Bool.and_eq_true, Nat.ble_eq] at hl
    left
    refine ⟨[(w0 : Int), (w1 : Int), (w2 : Int), (w3 : Int), (w4 : Int)].take m, q, by simp; omega, fun j hj => ?_, fun s hs => ?_⟩
    · rw [List.getD_eq_getElem?_getD, List.getElem?_take, if_pos hj]
      have : j = 0 ∨ j = 1 ∨ j = 2 ∨ j = 3 ∨ j = 4 := by omega
      rcases this with rfl | rfl | rfl | rfl | rfl <;> simp <;> omega
    · have h1 := weigh_at 32 hw s (by omega)
      have h2 := hbit s (by omega)
      rw [bitB_test, h2, Nat.mod_eq_of_lt hs] at h1
      have h3 := sum_high [(w0 : Int), (w1 : Int), (w2 : Int), (w3 : Int), (w4 : Int)] m s hs (5 - m)
      rw [show m + (5 - m) = 5 by omega, sum_five] at h3
      rw [h1, sum_take _ _ _ _ (Nat.le_refl _), ← h3]
      apply bool_ext
      rw [Nat.ble_eq, decide_eq_true_iff]
      omega
  · rw [hb] at hc
    simp only [cond_true, tradedB, Bool.and_eq_true, Bool.not_eq_true', bitB_test] at hc
    obtain ⟨h1, h2, h3, h4, h5, h6⟩ := hc
    have h5 := Nat.eq_of_beq_eq_true h5
    have h6 := Nat.eq_of_beq_eq_true h6
    rw [hbit _ (Nat.mod_lt _ (by decide))] at h1 h2 h3 h4
    generalize c / 2 % 32 = a at *
    generalize c / 64 % 32 = b at *
    generalize c / 2048 % 32 = e at *
    generalize c / 65536 % 32 = d at *
    right
    refine ⟨a % 2 ^ m, b % 2 ^ m, e % 2 ^ m, d % 2 ^ m, Nat.mod_lt _ hpos, Nat.mod_lt _ hpos, Nat.mod_lt _ hpos, Nat.mod_lt _ hpos, h1, h2, h3, h4, ?_, ?_⟩
    · apply Nat.eq_of_testBit_eq
      intro j
      have := congrArg (fun x => x.testBit j) h5
      simp only [Nat.testBit_and, Nat.testBit_mod_two_pow] at this ⊢
      cases decide (j < m) <;> simp [this]
    · apply Nat.eq_of_testBit_eq
      intro j
      have := congrArg (fun x => x.testBit j) h6
      simp only [Nat.testBit_or, Nat.testBit_mod_two_pow] at this ⊢
      cases decide (j < m) <;> simp [this]
end Go.Proofs.Ytdbleghnblohgaa
