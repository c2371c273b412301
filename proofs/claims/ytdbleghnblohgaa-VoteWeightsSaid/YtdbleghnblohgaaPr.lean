/- The sums over all drovers: Turns by the winning sets, and all of Power. -/
import Derived.Test.YtdbleghnblohgaaPq
namespace Go.Proofs.Ytdbleghnblohgaa

/-- How many of the sets below N win with a drover, and at all. -/
def withTo (p : Int → Bool) (i N : Nat) : Int := upTo (fun s => if p s then (s : Int) / 2 ^ i % 2 else 0) N
def allW (p : Int → Bool) (N : Nat) : Int := upTo (fun s => if p s then 1 else 0) N
theorem withTo_range (p : Int → Bool) (i N : Nat) : 0 ≤ withTo p i N ∧ withTo p i N ≤ N := by
  unfold withTo
  induction N with
  | zero => simp [upTo]
  | succ N ih =>
    have := bit_range (N : Int) i
    simp only [upTo]
    split <;> omega
theorem allW_range (p : Int → Bool) (N : Nat) : 0 ≤ allW p N ∧ allW p N ≤ N := by
  unfold allW
  induction N with
  | zero => simp [upTo]
  | succ N ih =>
    simp only [upTo]
    split <;> omega
def flipS (i s : Nat) : Nat := if s / 2 ^ i % 2 = 0 then s + 2 ^ i else s - 2 ^ i
theorem flip_all : ∀ i : Fin 8, ∀ s : Fin 256, flipS i (flipS i s) = s.val ∧ (s.val / 2 ^ i.val % 2 = 1 → with_ ((flipS i s : Nat) : Int) i = s.val ∧ flipS i s / 2 ^ i.val % 2 = 0) ∧ (s.val / 2 ^ i.val % 2 = 0 → flipS i s / 2 ^ i.val % 2 = 1) := by decide +kernel
theorem flip_lt : ∀ n : Fin 9, ∀ i : Fin 8, i.val < n.val → ∀ s : Fin (2 ^ n.val), flipS i s < 2 ^ n.val := by decide +kernel
theorem win_mono (q : Int) (l : List Int) (hw : ∀ j, j < l.length → 0 ≤ l.getD j 0 ∧ l.getD j 0 ≤ 1000) (h8 : l.length ≤ 8) (i s : Nat) (hi : i < l.length) (hs : s < 256) (h0 : s / 2 ^ i % 2 = 0)
    (h : winB q l s = true) : winB q l (with_ s i) = true := by
  simp only [winB, decide_eq_true_eq] at h ⊢
  rw [sum_with l i s (by omega) hs h0 _ h8, if_pos hi]
  have := hw i hi
  omega
/-- What a drover turns, told by the winning sets alone. -/
theorem turns_by (g : Nat → Int) (q : Int) (l : List Int) (hw : ∀ j, j < l.length → 0 ≤ l.getD j 0 ∧ l.getD j 0 ≤ 1000) (h8 : l.length ≤ 8) (i : Nat) (hi : i < l.length) :
    sumOf (fun _ s => g s) (turnsIn (winB q l) i (2 ^ l.length)) = upTo (fun s => if winB q l s then (if s / 2 ^ i % 2 = 1 then g (flipS i s) else - g s) else 0) (2 ^ l.length) := by
  have hp : 2 ^ l.length ≤ 256 := Nat.pow_le_pow_right (n := 2) (by decide) h8
  rw [sumOf_upTo]
  have e1 : upTo (fun s => if turnB (winB q l) i s then g s else 0) (2 ^ l.length) =
      upTo (fun s => (if s / 2 ^ i % 2 = 0 ∧ winB q l (with_ s i) = true then g s else 0) - (if s / 2 ^ i % 2 = 0 ∧ winB q l s = true then g s else 0)) (2 ^ l.length) := by
    refine upTo_congr fun s hs => ?_
    unfold turnB
    rw [castbit]
    by_cases hb : s / 2 ^ i % 2 = 0
    · rw [hb]
      have := win_mono q l hw h8 i s hi (by omega) hb
      cases h1 : winB q l s <;> cases h2 : winB q l (with_ s i) <;> simp_all
    · have : s / 2 ^ i % 2 = 1 := by omega
      rw [this]
      simp
  rw [e1, upTo_sub]
  rw [← upTo_perm (flipS i) (2 ^ l.length) (fun s hs => flip_lt ⟨l.length, by omega⟩ ⟨i, by omega⟩ hi ⟨s, hs⟩)
    (fun s hs => (flip_all ⟨i, by omega⟩ ⟨s, by omega⟩).1) (fun s => if s / 2 ^ i % 2 = 0 ∧ winB q l (with_ s i) = true then g s else 0)]
  rw [← upTo_sub]
  refine upTo_congr fun s hs => ?_
  obtain ⟨_, f1, f2⟩ := flip_all ⟨i, by omega⟩ ⟨s, by omega⟩
  simp only at f1 f2
  by_cases hb : s / 2 ^ i % 2 = 0
  · have h1 := f2 hb
    rw [h1, hb]
    cases winB q l s <;> simp
  · have hb1 : s / 2 ^ i % 2 = 1 := by omega
    obtain ⟨h1, h2⟩ := f1 hb1
    rw [h1, h2, hb1]
    cases winB q l s <;> simp
theorem turns_id (q : Int) (l : List Int) (hw : ∀ j, j < l.length → 0 ≤ l.getD j 0 ∧ l.getD j 0 ≤ 1000) (h8 : l.length ≤ 8) (i : Nat) (hi : i < l.length) :
    sumOf (fun _ _ => 1) (turnsIn (winB q l) i (2 ^ l.length)) = 2 * withTo (winB q l) i (2 ^ l.length) - allW (winB q l) (2 ^ l.length) := by
  rw [turns_by (fun _ => 1) q l hw h8 i hi]
  unfold withTo allW
  rw [Int.mul_comm, ← upTo_mul, ← upTo_sub]
  refine upTo_congr fun s _ => ?_
  rw [castbit]
  have : s / 2 ^ i % 2 = 0 ∨ s / 2 ^ i % 2 = 1 := by omega
  rcases this with h | h <;> rw [h] <;> cases winB q l s <;> rfl
theorem order_sum : ∀ n : Fin 9, ∀ s : Fin (2 ^ n.val), s.val ≠ 0 → upTo (fun i => if s.val / 2 ^ i % 2 = 1 then orderI n.val 0 (flipS i s) else - orderI n.val 0 s) n.val = if s.val + 1 = 2 ^ n.val then factI n.val else 0 := by decide +kernel
theorem sum_zero (l : List Int) (k : Nat) : sumTo l 0 k = 0 := by
  induction k with
  | zero => rfl
  | succ k ih => simp [sumTo, ih]
theorem full_bits : ∀ n : Fin 9, ∀ j : Fin 8, j.val < n.val → ((2 ^ n.val - 1 : Nat) : Int) / 2 ^ j.val % 2 = 1 := by decide +kernel
theorem sum_full (l : List Int) (n : Nat) (hn : n ≤ 8) (k : Nat) (hk : k ≤ n) : sumTo l ((2 ^ n - 1 : Nat) : Int) k = allTo l k := by
  induction k with
  | zero => rfl
  | succ k ih =>
    have := full_bits ⟨n, by omega⟩ ⟨k, by omega⟩ (by simp; omega)
    simp only at this
    simp only [sumTo, allTo, ih (by omega), this, Int.mul_one]
theorem upTo_last (c : Int) (N : Nat) : upTo (fun s => if s + 1 = N + 1 then c else 0) (N + 1) = c := by
  simp only [upTo]
  rw [upTo_congr (G := fun _ => 0) (fun s hs => if_neg (by omega)), upTo_zero]
  simp
/-- All of what the drovers turn, by the orders: every order is counted once. -/
theorem power_sum (q : Int) (l : List Int) (hbody : bodyB q l = true) : upTo (fun i => sumOf (orderI l.length) (turnsIn (winB q l) i (2 ^ l.length))) l.length = factI l.length := by
  obtain ⟨h1, h8, hw, hq, hqa⟩ := of_decide_eq_true hbody
  have e1 : upTo (fun i => sumOf (orderI l.length) (turnsIn (winB q l) i (2 ^ l.length))) l.length =
      upTo (fun i => upTo (fun s : Nat => if winB q l (s : Int) then (if s / 2 ^ i % 2 = 1 then orderI l.length 0 (flipS i s) else - orderI l.length 0 s) else 0) (2 ^ l.length)) l.length :=
    upTo_congr fun i hi => turns_by (orderI l.length 0) q l hw h8 i hi
  rw [e1, upTo_swap]
  obtain ⟨N, hN⟩ : ∃ N, 2 ^ l.length = N + 1 := ⟨2 ^ l.length - 1, by have := Nat.two_pow_pos l.length; omega⟩
  have e2 : ∀ s : Nat, s < 2 ^ l.length → upTo (fun i => if winB q l (s : Int) then (if s / 2 ^ i % 2 = 1 then orderI l.length 0 (flipS i s) else - orderI l.length 0 s) else 0) l.length = if s + 1 = N + 1 then factI l.length else 0 := by
    intro s hs
    by_cases h0 : s = 0
    · subst h0
      have hz : winB q l ((0 : Nat) : Int) = false := decide_eq_false (by rw [show ((0 : Nat) : Int) = 0 from rfl, sum_zero]; omega)
      rw [hz]
      simp only [Bool.false_eq_true, if_false, upTo_zero]
      rw [if_neg]
      have : 2 ^ 1 ≤ 2 ^ l.length := Nat.pow_le_pow_right (n := 2) (by decide) h1
      omega
    · have h := order_sum ⟨l.length, by omega⟩ ⟨s, hs⟩ h0
      simp only at h
      rw [hN] at h
      by_cases hl : s + 1 = N + 1
      · have hf : winB q l (s : Int) = true := by
          have e3 := sum_full l l.length h8 _ (Nat.le_refl _)
          rw [show 2 ^ l.length - 1 = s by omega] at e3
          exact decide_eq_true (by rw [e3]; exact hqa)
        rw [hf]
        exact h
      · rw [if_neg hl] at h ⊢
        cases winB q l (s : Int)
        · simp [upTo_zero]
        · exact h
  rw [upTo_congr e2, hN, upTo_last]
/-- A ratio of n! is a part of 8!. -/
theorem ratio_part {x F G : Nat} (hF : 0 < F) (hG : F * G = 40320) (h : x ≤ F) : 1 ≤ (ratioOf x F).2 ∧ 40320 % (ratioOf x F).2 = 0 ∧ (ratioOf x F).1 ≤ (ratioOf x F).2 ∧ (ratioOf x F).1 * (40320 / (ratioOf x F).2) = x * G := by
  have gx : 0 < Nat.gcd x F := Nat.gcd_pos_of_pos_right _ hF
  obtain ⟨a, ha⟩ := Nat.gcd_dvd_left x F
  obtain ⟨b, hb⟩ := Nat.gcd_dvd_right x F
  have e1 : (ratioOf x F).1 = a := by unfold ratioOf; simp only; exact Nat.div_eq_of_eq_mul_right gx ha
  have e2 : (ratioOf x F).2 = b := by unfold ratioOf; simp only; exact Nat.div_eq_of_eq_mul_right gx hb
  rw [e1, e2]
  generalize Nat.gcd x F = g at *
  have hb0 : 0 < b := Nat.pos_of_ne_zero fun e => by subst e; simp at hb; omega
  have e3 : 40320 = b * (g * G) := by rw [← hG, hb]; ac_rfl
  refine ⟨hb0, ?_, ?_, ?_⟩
  · rw [e3]; exact Nat.mul_mod_right _ _
  · rw [ha, hb] at h; exact Nat.le_of_mul_le_mul_left h gx
  · rw [e3, Nat.mul_div_cancel_left _ hb0, ha]; ac_rfl
end Go.Proofs.Ytdbleghnblohgaa
