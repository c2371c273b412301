/- Plain definitions: what the functions of the layer come to, on numbers and lists. -/
namespace Go.Proofs.Ytdbleghnblohgaa

/-- The weights of a set among the first k drovers. -/
def sumTo (l : List Int) (s : Int) : Nat → Int
  | 0 => 0
  | k + 1 => sumTo l s k + l.getD k 0 * (s / 2 ^ k % 2)
def winB (q : Int) (l : List Int) (s : Int) : Bool := decide (q ≤ sumTo l s l.length)
def allTo (l : List Int) : Nat → Int
  | 0 => 0
  | k + 1 => allTo l k + l.getD k 0
def minTo (l : List Int) : Nat → Int
  | 0 => l.getD 0 0
  | k + 1 => min (minTo l k) (l.getD (k + 1) 0)
def maxTo (l : List Int) : Nat → Int
  | 0 => l.getD 0 0
  | k + 1 => max (maxTo l k) (l.getD (k + 1) 0)
/-- A body: 1 to 8 weights from 0 to 1000, the quota from 1 to their sum. -/
def Body (q : Int) (l : List Int) : Prop :=
  1 ≤ l.length ∧ l.length ≤ 8 ∧ (∀ j, j < l.length → 0 ≤ l.getD j 0 ∧ l.getD j 0 ≤ 1000) ∧ 1 ≤ q ∧ q ≤ allTo l l.length
instance (q : Int) (l : List Int) : Decidable (Body q l) := by unfold Body; infer_instance
def bodyB (q : Int) (l : List Int) : Bool := decide (Body q l)

theorem bit_range (s : Int) (k : Nat) : 0 ≤ s / 2 ^ k % 2 ∧ s / 2 ^ k % 2 ≤ 1 := by
  generalize s / 2 ^ k = x
  omega
theorem mul_bit {x b : Int} (hx : 0 ≤ x ∧ x ≤ 1000) (hb : 0 ≤ b ∧ b ≤ 1) : 0 ≤ x * b ∧ x * b ≤ 1000 := by
  have : b = 0 ∨ b = 1 := by omega
  rcases this with rfl | rfl <;> omega
theorem sumTo_range (l : List Int) (s : Int) (hl : ∀ j, j < l.length → 0 ≤ l.getD j 0 ∧ l.getD j 0 ≤ 1000) (k : Nat) (hk : k ≤ l.length) :
    0 ≤ sumTo l s k ∧ sumTo l s k ≤ 1000 * k := by
  induction k with
  | zero => simp [sumTo]
  | succ k ih =>
    have h1 := ih (by omega)
    have h2 := mul_bit (hl k (by omega)) (bit_range s k)
    simp only [sumTo]
    omega
theorem allTo_range (l : List Int) (hl : ∀ j, j < l.length → 0 ≤ l.getD j 0 ∧ l.getD j 0 ≤ 1000) (k : Nat) (hk : k ≤ l.length) :
    0 ≤ allTo l k ∧ allTo l k ≤ 1000 * k := by
  induction k with
  | zero => simp [allTo]
  | succ k ih =>
    have h1 := ih (by omega)
    have h2 := hl k (by omega)
    simp only [allTo]
    omega
theorem minTo_le (l : List Int) (k : Nat) : ∀ j, j ≤ k → minTo l k ≤ l.getD j 0 := by
  induction k with
  | zero => intro j hj; obtain rfl : j = 0 := by omega
            exact Int.le_refl _
  | succ k ih =>
    intro j hj
    simp only [minTo]
    by_cases h : j = k + 1
    · subst h; omega
    · have := ih j (by omega)
      omega
theorem minTo_mem (l : List Int) (k : Nat) : ∃ j, j ≤ k ∧ minTo l k = l.getD j 0 := by
  induction k with
  | zero => exact ⟨0, by omega, rfl⟩
  | succ k ih =>
    obtain ⟨j, hj, e⟩ := ih
    simp only [minTo]
    by_cases h : minTo l k ≤ l.getD (k + 1) 0
    · exact ⟨j, by omega, by omega⟩
    · exact ⟨k + 1, by omega, by omega⟩
theorem le_maxTo (l : List Int) (k : Nat) : ∀ j, j ≤ k → l.getD j 0 ≤ maxTo l k := by
  induction k with
  | zero => intro j hj; obtain rfl : j = 0 := by omega
            exact Int.le_refl _
  | succ k ih =>
    intro j hj
    simp only [maxTo]
    by_cases h : j = k + 1
    · subst h; omega
    · have := ih j (by omega)
      omega
theorem maxTo_mem (l : List Int) (k : Nat) : ∃ j, j ≤ k ∧ maxTo l k = l.getD j 0 := by
  induction k with
  | zero => exact ⟨0, by omega, rfl⟩
  | succ k ih =>
    obtain ⟨j, hj, e⟩ := ih
    simp only [maxTo]
    by_cases h : l.getD (k + 1) 0 ≤ maxTo l k
    · exact ⟨j, by omega, by omega⟩
    · exact ⟨k + 1, by omega, by omega⟩
/-- A set without a drover. -/
def without (s : Int) (i : Nat) : Int := s - 2 ^ i * (s / 2 ^ i % 2)
/-- A set with a drover. -/
def with_ (s : Int) (i : Nat) : Int := s + 2 ^ i * (1 - s / 2 ^ i % 2)
theorem pow_bd (n : Nat) (i : Nat) (hi : i < n) : (2 : Int) ^ n = 2 ^ i * 2 * 2 ^ (n - 1 - i) := by
  rw [← Int.pow_succ, ← Int.pow_add]
  congr 1
  omega
theorem without_range (s : Int) (i n : Nat) (h0 : 0 ≤ s) (_h1 : s < 2 ^ n) : 0 ≤ without s i ∧ without s i ≤ s := by
  unfold without
  have hp : (0 : Int) < 2 ^ i := Int.pow_pos (by decide)
  generalize (2 : Int) ^ i = m at *
  have hd : m * (s / m) ≤ s := Int.mul_ediv_self_le (by omega)
  have hq : 0 ≤ s / m := Int.ediv_nonneg h0 (by omega)
  generalize s / m = q at *
  have hr : 0 ≤ q % 2 ∧ q % 2 ≤ q := ⟨by omega, by omega⟩
  have h2 : m * (q % 2) ≤ m * q := Int.mul_le_mul_of_nonneg_left hr.2 (by omega)
  have h3 : 0 ≤ m * (q % 2) := Int.mul_nonneg (by omega) hr.1
  omega
def aloneTo (p : Int → Bool) (s : Int) : Nat → Bool
  | 0 => true
  | i + 1 => aloneTo p s i && (decide (s / 2 ^ i % 2 = 0) || !p (without s i))
def leastTo (p : Int → Bool) (n : Nat) : Nat → List Int
  | 0 => []
  | s + 1 => leastTo p n s ++ if p s && aloneTo p s n then [(s : Int)] else []
theorem leastTo_length (p : Int → Bool) (n k : Nat) : (leastTo p n k).length ≤ k := by
  induction k with
  | zero => simp [leastTo]
  | succ k ih =>
    simp only [leastTo, List.length_append]
    split <;> simp <;> omega
/-- The sets that a drover turns, among the first k ones. -/
def turnsIn (p : Int → Bool) (i : Nat) : Nat → List (Nat × Nat)
  | 0 => []
  | s + 1 => turnsIn p i s ++ if decide ((s : Int) / 2 ^ i % 2 = 0) && (!p s && p (with_ s i)) then [(i, s)] else []
def turnsTo (p : Int → Bool) (n : Nat) : Nat → List (Nat × Nat)
  | 0 => []
  | i + 1 => turnsTo p n i ++ turnsIn p i (2 ^ n)
theorem with_range (s : Int) (i n : Nat) (hi : i < n) (h0 : 0 ≤ s) (h1 : s < 2 ^ n) (hb : s / 2 ^ i % 2 = 0) : 0 ≤ with_ s i ∧ with_ s i < 2 ^ n := by
  unfold with_
  rw [hb]
  rw [pow_bd n i hi] at h1 ⊢
  have hp : (0 : Int) < 2 ^ i := Int.pow_pos (by decide)
  have hk : (0 : Int) < 2 ^ (n - 1 - i) := Int.pow_pos (by decide)
  generalize (2 : Int) ^ i = m at *
  generalize (2 : Int) ^ (n - 1 - i) = k at *
  have e := Int.mul_ediv_add_emod s m
  have r0 := Int.emod_nonneg s (by omega : m ≠ 0)
  have r1 := Int.emod_lt_of_pos s hp
  have hq : s / m < 2 * k := by
    apply Int.ediv_lt_of_lt_mul hp
    rw [Int.mul_assoc] at h1
    rw [Int.mul_comm]
    exact h1
  generalize s / m = t at *
  have ht : t + 1 < 2 * k := by omega
  have : m * (t + 2) ≤ m * (2 * k) := Int.mul_le_mul_of_nonneg_left (by omega) (by omega)
  rw [Int.mul_add] at this
  rw [Int.mul_assoc]
  omega
end Go.Proofs.Ytdbleghnblohgaa
