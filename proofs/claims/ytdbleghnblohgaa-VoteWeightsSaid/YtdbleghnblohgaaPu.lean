/- VoteKindly's plain law, third part: bit by bit. -/
import Derived.Test.YtdbleghnblohgaaPt
namespace Go.Proofs.Ytdbleghnblohgaa

theorem without_bits : ∀ i : Fin 8, ∀ s : Fin 256, ∃ m : Fin 256, without ((s.val : Nat) : Int) i = ((m.val : Nat) : Int) ∧ ∀ j : Fin 8, m.val.testBit j = (s.val.testBit j && !decide (j = i)) := by
  have H : ∀ i : Fin 8, ∀ s : Fin 256, 0 ≤ without ((s.val : Nat) : Int) i ∧ (without ((s.val : Nat) : Int) i).toNat < 256 ∧ ∀ j : Fin 8, (without ((s.val : Nat) : Int) i).toNat.testBit j = (s.val.testBit j && !decide (j = i)) := by decide +kernel
  intro i s
  obtain ⟨h0, h1, h2⟩ := H i s
  exact ⟨⟨_, h1⟩, by simp only; omega, h2⟩
theorem with_bits' : ∀ i : Fin 8, ∀ s : Fin 256, ∃ m : Fin 256, with_ ((s.val : Nat) : Int) i = ((m.val : Nat) : Int) ∧ ∀ j : Fin 8, m.val.testBit j = (s.val.testBit j || decide (j = i)) := by
  have H : ∀ i : Fin 8, ∀ s : Fin 256, 0 ≤ with_ ((s.val : Nat) : Int) i ∧ (with_ ((s.val : Nat) : Int) i).toNat < 256 ∧ ∀ j : Fin 8, (with_ ((s.val : Nat) : Int) i).toNat.testBit j = (s.val.testBit j || decide (j = i)) := by decide +kernel
  intro i s
  obtain ⟨h0, h1, h2⟩ := H i s
  exact ⟨⟨_, h1⟩, by simp only; omega, h2⟩
theorem full_test : ∀ n : Fin 9, ∀ j : Fin 8, (2 ^ n.val - 1).testBit j.val = decide (j.val < n.val) := by decide +kernel
theorem full_int (n : Nat) : ((2 ^ n - 1 : Nat) : Int) = 2 ^ n - 1 := by
  have := Nat.two_pow_pos n
  rw [Int.ofNat_sub this, nat_pow]; rfl
/-- A number below 256 with its bits told. -/
def Tells8 (x : Int) (f : Nat → Bool) : Prop := ∃ m : Nat, x = m ∧ m < 256 ∧ ∀ j, j < 8 → m.testBit j = f j
theorem Tells8.congr {x : Int} {f g : Nat → Bool} (h : Tells8 x f) (e : ∀ j, j < 8 → f j = g j) : Tells8 x g := by
  obtain ⟨m, h1, h2, h3⟩ := h
  exact ⟨m, h1, h2, fun j hj => (h3 j hj).trans (e j hj)⟩
theorem Tells8.eq {x y : Int} {f : Nat → Bool} (h : Tells8 x f) (k : Tells8 y f) : x = y := by
  obtain ⟨m, rfl, h2, h3⟩ := h
  obtain ⟨m', rfl, k2, k3⟩ := k
  have : m = m' := by
    apply Nat.eq_of_testBit_eq
    intro j
    by_cases hj : j < 8
    · rw [h3 j hj, k3 j hj]
    · rw [test_high m j h2 (by omega), test_high m' j k2 (by omega)]
  rw [this]
theorem Tells8.bit {x : Int} {f : Nat → Bool} (h : Tells8 x f) (j : Nat) (hj : j < 8) : x / 2 ^ j % 2 = if f j then 1 else 0 := by
  obtain ⟨m, rfl, _, h3⟩ := h
  rw [bit_test, h3 j hj]
theorem tells_without {x : Int} {f : Nat → Bool} (h : Tells8 x f) (i : Nat) (hi : i < 8) : Tells8 (without x i) (fun j => f j && !decide (j = i)) := by
  obtain ⟨m, rfl, h2, h3⟩ := h
  obtain ⟨m', h4, h5⟩ := without_bits ⟨i, hi⟩ ⟨m, h2⟩
  refine ⟨m'.val, h4, m'.isLt, fun j hj => ?_⟩
  have := h5 ⟨j, hj⟩
  simp only [Fin.mk.injEq] at this
  rw [this, h3 j hj]
theorem tells_with {x : Int} {f : Nat → Bool} (h : Tells8 x f) (i : Nat) (hi : i < 8) : Tells8 (with_ x i) (fun j => f j || decide (j = i)) := by
  obtain ⟨m, rfl, h2, h3⟩ := h
  obtain ⟨m', h4, h5⟩ := with_bits' ⟨i, hi⟩ ⟨m, h2⟩
  refine ⟨m'.val, h4, m'.isLt, fun j hj => ?_⟩
  have := h5 ⟨j, hj⟩
  simp only [Fin.mk.injEq] at this
  rw [this, h3 j hj]
theorem tells_full (n : Nat) (hn : n ≤ 8) : Tells8 (2 ^ n - 1) (fun j => decide (j < n)) := by
  have h256 : 2 ^ n ≤ 256 := Nat.pow_le_pow_right (n := 2) (by decide) hn
  have := Nat.two_pow_pos n
  exact ⟨2 ^ n - 1, (full_int n).symm, by omega, fun j hj => full_test ⟨n, by omega⟩ ⟨j, hj⟩⟩
theorem tells_zero : Tells8 0 (fun _ => false) := ⟨0, rfl, by omega, fun j _ => Nat.zero_testBit j⟩
theorem tells_or {x y : Int} {f g : Nat → Bool} (h : Tells8 x f) (k : Tells8 y g) : Tells8 (orI x y) (fun j => f j || g j) := by
  obtain ⟨m, rfl, h2, h3⟩ := h
  obtain ⟨m', rfl, k2, k3⟩ := k
  refine ⟨m ||| m', by simp [orI], Nat.or_lt_two_pow (n := 8) h2 k2, fun j hj => ?_⟩
  rw [Nat.testBit_or, h3 j hj, k3 j hj]
theorem tells_and {x y : Int} {f g : Nat → Bool} (h : Tells8 x f) (k : Tells8 y g) : Tells8 (andI x y) (fun j => f j && g j) := by
  obtain ⟨m, rfl, h2, h3⟩ := h
  obtain ⟨m', rfl, k2, k3⟩ := k
  refine ⟨m &&& m', by simp [andI], Nat.lt_of_le_of_lt Nat.and_le_left h2, fun j hj => ?_⟩
  rw [Nat.testBit_and, h3 j hj, k3 j hj]
theorem tells_self (m : Nat) (h : m < 256) : Tells8 (m : Int) (fun j => m.testBit j) := ⟨m, rfl, h, fun _ _ => rfl⟩
theorem tells_none (n : Nat) (hn : n ≤ 8) (acc : List (Nat × Nat)) (ha : ∀ x, x ∈ acc → x.1 < 8) : Tells8 (noneOf n acc) (fun j => decide (j < n) && !acc.any fun x => decide (x.1 = j)) := by
  have H : ∀ (acc : List (Nat × Nat)) (x : Int) (f : Nat → Bool), (∀ y, y ∈ acc → y.1 < 8) → Tells8 x f → Tells8 (acc.foldl (fun m y => without m y.1) x) (fun j => f j && !acc.any fun y => decide (y.1 = j)) := by
    intro acc
    induction acc with
    | nil => intro x f _ h; exact h.congr fun j _ => by simp
    | cons y acc ih =>
      intro x f hy h
      rw [List.foldl_cons]
      refine (ih _ _ (fun z hz => hy z (by simp [hz])) (tells_without h y.1 (hy y (by simp)))).congr fun j _ => ?_
      rw [List.any_cons]
      by_cases e : j = y.1
      · subst e; simp
      · have e' : ¬ y.1 = j := fun h => e h.symm
        simp [e, e']
  exact H acc _ _ ha (tells_full n hn)
theorem tells_every (p : Int → Bool) (n : Nat) (k : Nat) (hk : k ≤ 8) : Tells8 (everyTo p n k) (fun j => decide (j < k) && !p (without (2 ^ n - 1) j)) := by
  induction k with
  | zero => exact tells_zero.congr fun j _ => by simp
  | succ k ih =>
    simp only [everyTo]
    cases hp : p (without (2 ^ n - 1) k)
    · refine (tells_with (ih (by omega)) k (by omega)).congr fun j _ => ?_
      by_cases e : j = k
      · subst e; simp [hp]
      · by_cases h : j < k
        · simp [h, e, show j < k + 1 by omega]
        · simp [h, e, show ¬ j < k + 1 by omega]
    · refine (ih (by omega)).congr fun j _ => ?_
      by_cases e : j = k
      · subst e; simp [hp]
      · by_cases h : j < k
        · simp [h, show j < k + 1 by omega]
        · simp [h, show ¬ j < k + 1 by omega]
theorem tells_single (p : Int → Bool) (k : Nat) (hk : k ≤ 8) : Tells8 (singleTo p k) (fun j => decide (j < k) && p (2 ^ j)) := by
  induction k with
  | zero => exact tells_zero.congr fun j _ => by simp
  | succ k ih =>
    simp only [singleTo]
    cases hp : p (2 ^ k)
    · refine (ih (by omega)).congr fun j _ => ?_
      by_cases e : j = k
      · subst e; simp [hp]
      · by_cases h : j < k
        · simp [h, show j < k + 1 by omega]
        · simp [h, show ¬ j < k + 1 by omega]
    · refine (tells_with (ih (by omega)) k (by omega)).congr fun j _ => ?_
      by_cases e : j = k
      · subst e; simp [hp]
      · by_cases h : j < k
        · simp [h, e, show j < k + 1 by omega]
        · simp [h, e, show ¬ j < k + 1 by omega]
end Go.Proofs.Ytdbleghnblohgaa
