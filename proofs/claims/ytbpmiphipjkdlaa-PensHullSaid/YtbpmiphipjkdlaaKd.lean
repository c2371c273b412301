/- Plain: crossings to the right. -/
import Derived.Test.YtbpmiphipjkdlaaKc
namespace Go.Proofs.Ytbpmiphipjkdlaa.Pk
variable {n : Nat} {v : Nat → V}
/-- How a side leads over the height of p, to the right of p. -/
def cr (a b p : V) : Int := if a.2 ≤ p.2 ∧ p.2 < b.2 ∧ 0 < crs (vsub a p) (vsub b p) then 1 else if b.2 ≤ p.2 ∧ p.2 < a.2 ∧ crs (vsub a p) (vsub b p) < 0 then -1 else 0
def xi (d : V) : Int := if 0 < d.2 then 1 else if d.2 < 0 then 3 else if d.1 < 0 then 2 else 4
theorem turn_crs (a b p : V) : crs (vsub a p) (vsub b p) = crs (vsub b a) (vsub p b) := by unfold crs vsub; grind
theorem anti_of {a b : V} (h0 : crs a b = 0) (h1 : a.2 * b.2 < 0) : dt a b ≤ 0 := by
  have key : dt a b * (a.2 * b.2) = (a.1 * b.2) * (a.1 * b.2) + (a.2 * b.2) * (a.2 * b.2) - crs a b * (a.1 * b.2) := by unfold dt crs; grind
  rw [h0, Int.zero_mul, Int.sub_zero] at key
  apply Int.not_lt.1
  intro h
  have m1 := Int.mul_neg_of_pos_of_neg h h1
  have m2 := Int.mul_pos_of_neg_of_neg h1 h1
  have m3 : 0 ≤ (a.1 * b.2) * (a.1 * b.2) := by
    rcases Int.le_total 0 (a.1 * b.2) with h | h
    · exact Int.mul_nonneg h h
    · exact Int.mul_nonneg_of_nonpos_of_nonpos h h
  omega
set_option maxHeartbeats 2000000 in
theorem W_cr {a b p : V} (hp : ¬ On a b p) (ha : a ≠ p) (hb : b ≠ p) : W (vsub a p) (vsub b p) = xi (vsub b p) - xi (vsub a p) + 4 * cr a b p := by
  have hp' : ¬ (crs (vsub a p) (vsub b p) = 0 ∧ dt (vsub a p) (vsub b p) ≤ 0) := by
    rintro ⟨h1, h2⟩
    exact hp ⟨by rw [← turn_crs]; exact h1, by
      have : dt (vsub p a) (vsub p b) = dt (vsub a p) (vsub b p) := by unfold dt vsub; grind
      omega⟩
  have hna := vsub_ne (Ne.symm ha)
  have hnb := vsub_ne (Ne.symm hb)
  have c1 : (a.2 ≤ p.2) = ((vsub a p).2 ≤ 0) := by unfold vsub; simp only; exact propext ⟨fun h => by omega, fun h => by omega⟩
  have c2 : (b.2 ≤ p.2) = ((vsub b p).2 ≤ 0) := by unfold vsub; simp only; exact propext ⟨fun h => by omega, fun h => by omega⟩
  have c3 : (p.2 < b.2) = (0 < (vsub b p).2) := by unfold vsub; simp only; exact propext ⟨fun h => by omega, fun h => by omega⟩
  have c4 : (p.2 < a.2) = (0 < (vsub a p).2) := by unfold vsub; simp only; exact propext ⟨fun h => by omega, fun h => by omega⟩
  unfold cr
  simp only [c1, c2, c3, c4]
  generalize vsub a p = x at *
  generalize vsub b p = y at *
  obtain ⟨x1, x2⟩ := x
  obtain ⟨y1, y2⟩ := y
  have hc : crs (x1, x2) (y1, y2) = x1 * y2 - x2 * y1 := rfl
  have hanti := @anti_of (x1, x2) (y1, y2)
  have hna' : ¬ (x1 = 0 ∧ x2 = 0) := fun e => hna (by rw [e.1, e.2])
  have hnb' : ¬ (y1 = 0 ∧ y2 = 0) := fun e => hnb (by rw [e.1, e.2])
  clear hna hnb c1 c2 c3 c4 hp ha hb
  unfold W xi
  simp only at *
  obtain ⟨c, hcc⟩ : ∃ c, c = crs (x1, x2) (y1, y2) := ⟨_, rfl⟩
  have hdt : dt (x1, x2) (y1, y2) = x1 * y1 + x2 * y2 := rfl
  rw [hdt] at hp' hanti
  rw [← hcc] at hp' hanti hc ⊢
  clear hdt
  have ms : ∀ x y : Int, 0 < x → ((0 < x * y ↔ 0 < y) ∧ (x * y < 0 ↔ y < 0)) := fun x y hx => by
    rcases Int.lt_trichotomy y 0 with h | h | h
    · have := Int.mul_neg_of_pos_of_neg hx h; omega
    · subst h; simp
    · have := Int.mul_pos hx h; omega
  have mn : ∀ x y : Int, x < 0 → ((0 < x * y ↔ y < 0) ∧ (x * y < 0 ↔ 0 < y)) := fun x y hx => by
    rcases Int.lt_trichotomy y 0 with h | h | h
    · have := Int.mul_pos_of_neg_of_neg hx h; omega
    · subst h; simp
    · have := Int.mul_neg_of_neg_of_pos hx h; omega
  have f1 : y2 = 0 → 0 < x2 → (0 < c ↔ y1 < 0) ∧ (c < 0 ↔ 0 < y1) := fun h g => by subst h; have := ms x2 y1 g; omega
  have f2 : y2 = 0 → x2 < 0 → (0 < c ↔ 0 < y1) ∧ (c < 0 ↔ y1 < 0) := fun h g => by subst h; have := mn x2 y1 g; omega
  have f3 : x2 = 0 → 0 < y2 → (0 < c ↔ 0 < x1) ∧ (c < 0 ↔ x1 < 0) := fun h g => by subst h; have := ms y2 x1 g; rw [Int.mul_comm] at this; omega
  have f4 : x2 = 0 → y2 < 0 → (0 < c ↔ x1 < 0) ∧ (c < 0 ↔ 0 < x1) := fun h g => by subst h; have := mn y2 x1 g; rw [Int.mul_comm] at this; omega
  have f5 : x2 = 0 → y2 = 0 → c = 0 ∧ ((0 < x1 ∧ 0 < y1) ∨ (x1 < 0 ∧ y1 < 0)) := fun h g => by
    subst h; subst g
    exact ⟨by omega, same_of_mul_pos (by omega)⟩
  have f6 : 0 < x2 → y2 < 0 → c ≠ 0 := fun h g e => by have := hanti e (Int.mul_neg_of_pos_of_neg h g); omega
  have f7 : x2 < 0 → 0 < y2 → c ≠ 0 := fun h g e => by have := hanti e (Int.mul_neg_of_neg_of_pos h g); omega
  clear ms mn hanti hp' hc hcc
  rcases sign_cases x2 with ⟨e1, g1⟩ | ⟨e1, g1⟩ | ⟨e1, g1⟩ <;> rcases sign_cases y2 with ⟨e2, g2⟩ | ⟨e2, g2⟩ | ⟨e2, g2⟩ <;> rcases sign_cases c with ⟨e3, g3⟩ | ⟨e3, g3⟩ | ⟨e3, g3⟩ <;> rw [e1, e2, e3] <;> (repeat' split) <;> omega
/-- Sum of the crossings of m sides from side J on. -/
def crSum (p : V) (v : Nat → V) (J : Nat) : Nat → Int
  | 0 => 0
  | m + 1 => crSum p v J m + cr (v (J + m)) (v (J + m + 1)) p
theorem rowW_cr {p : V} (J : Nat) : ∀ m, (∀ t, t < m → ¬ On (v (J + t)) (v (J + t + 1)) p) → (∀ t, t ≤ m → v (J + t) ≠ p) → rowW p v J m = xi (vsub (v (J + m)) p) - xi (vsub (v J) p) + 4 * crSum p v J m
  | 0, _, _ => by simp [rowW, crSum]
  | m + 1, h1, h2 => by
    rw [rowW, crSum, rowW_cr J m (fun t ht => h1 t (by omega)) (fun t ht => h2 t (by omega)), W_cr (h1 m (by omega)) (h2 m (by omega)) (h2 (m + 1) (by omega))]
    rw [show J + (m + 1) = J + m + 1 by omega]
    omega
theorem On_left (a b : V) : On a b a := by
  constructor
  · unfold crs vsub; grind
  · have : dt (vsub a a) (vsub a b) = 0 := by unfold dt vsub; grind
    omega
theorem On_right (a b : V) : On a b b := by
  constructor
  · unfold crs vsub; grind
  · have : dt (vsub b a) (vsub b b) = 0 := by unfold dt vsub; grind
    omega
/-- Off the border: the turns are the crossings. -/
theorem tot_cr (hper : ∀ i, v (i + n) = v i) {p : V} (hoff : ∀ i, ¬ On (v i) (v (i + 1)) p) : tot n v p = 4 * crSum p v 0 n := by
  have hne : ∀ i, v i ≠ p := fun i e => hoff i (by rw [e]; exact On_left p _)
  have := rowW_cr (v := v) (p := p) 0 n (fun t _ => hoff _) (fun t _ => hne _)
  unfold tot
  rw [this, Nat.zero_add]
  have := hper 0
  rw [Nat.zero_add] at this
  rw [this]
  omega
end Go.Proofs.Ytbpmiphipjkdlaa.Pk
