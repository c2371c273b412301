/- Plain: turns between directions, sides that a line parts. -/
namespace Go.Proofs.Ytbpmiphipjkdlaa.Pk
abbrev V := Int × Int
def crs (a b : V) : Int := a.1 * b.2 - a.2 * b.1
def vsub (p q : V) : V := (p.1 - q.1, p.2 - q.2)
def vadd (p q : V) : V := (p.1 + q.1, p.2 + q.2)
def vneg (p : V) : V := (-p.1, -p.2)
def dt (a b : V) : Int := a.1 * b.1 + a.2 * b.2
/-- Quarter turns from one direction to another one, both in a half plane. -/
def W (a b : V) : Int := ((b.2.sign - a.2.sign).natAbs : Int) * (crs a b).sign

theorem W_anti (a b : V) : W b a = - W a b := by
  unfold W
  have : crs b a = - crs a b := by unfold crs; grind
  rw [this, Int.sign_neg, Int.mul_neg, ← Int.natAbs_neg, Int.neg_sub]
theorem W_self (a : V) : W a a = 0 := by unfold W; simp
theorem W_neg (a b : V) : W (vneg a) (vneg b) = W a b := by
  unfold W vneg
  have : crs (-a.1, -a.2) (-b.1, -b.2) = crs a b := by unfold crs; grind
  rw [this]
  simp only [Int.sign_neg]
  congr 1
  omega
theorem sign_cases (x : Int) : (x.sign = 1 ∧ 0 < x) ∨ (x.sign = 0 ∧ x = 0) ∨ (x.sign = -1 ∧ x < 0) := by
  rcases Int.lt_trichotomy x 0 with h | h | h
  · exact .inr (.inr ⟨Int.sign_eq_neg_one_of_neg h, h⟩)
  · exact .inr (.inl ⟨by rw [h]; rfl, h⟩)
  · exact .inl ⟨Int.sign_eq_one_of_pos h, h⟩
theorem W_add (a b : V) : W a (vadd a b) + W (vadd a b) b = W a b := by
  unfold W
  have h1 : crs a (vadd a b) = crs a b := by unfold crs vadd; grind
  have h2 : crs (vadd a b) b = crs a b := by unfold crs vadd; grind
  rw [h1, h2, ← Int.add_mul]
  congr 1
  have h3 : (vadd a b).2 = a.2 + b.2 := rfl
  rw [h3]
  rcases sign_cases a.2 with ⟨e1, g1⟩ | ⟨e1, g1⟩ | ⟨e1, g1⟩ <;> rcases sign_cases b.2 with ⟨e2, g2⟩ | ⟨e2, g2⟩ | ⟨e2, g2⟩ <;> rcases sign_cases (a.2 + b.2) with ⟨e3, g3⟩ | ⟨e3, g3⟩ | ⟨e3, g3⟩ <;> rw [e1, e2, e3] <;> first | rfl | omega
theorem W_half (a b : V) : W a b + W b (vneg a) = 2 * (crs a b).sign := by
  unfold W
  have h1 : crs b (vneg a) = crs a b := by unfold crs vneg; grind
  rw [h1, ← Int.add_mul]
  by_cases h0 : crs a b = 0
  · rw [h0]; rfl
  · congr 1
    have h3 : (vneg a).2 = -a.2 := rfl
    rw [h3, Int.sign_neg]
    have hne : ¬ (a.2 = 0 ∧ b.2 = 0) := by
      rintro ⟨e1, e2⟩
      apply h0
      unfold crs
      rw [e1, e2]
      simp
    rcases sign_cases a.2 with ⟨e1, g1⟩ | ⟨e1, g1⟩ | ⟨e1, g1⟩ <;> rcases sign_cases b.2 with ⟨e2, g2⟩ | ⟨e2, g2⟩ | ⟨e2, g2⟩ <;> rw [e1, e2] <;> first | rfl | omega
/-- Signs of three numbers with the sum 0. -/
def cons3 (s t u : Int) : Bool := !(decide (0 ≤ s) && decide (0 ≤ t) && decide (0 ≤ u) && !(s == 0 && t == 0 && u == 0)) && !(decide (s ≤ 0) && decide (t ≤ 0) && decide (u ≤ 0) && !(s == 0 && t == 0 && u == 0))
theorem cons3_sum {x y z : Int} (h : x + y + z = 0) : cons3 x.sign y.sign z.sign = true := by
  rcases sign_cases x with ⟨e1, g1⟩ | ⟨e1, g1⟩ | ⟨e1, g1⟩ <;> rcases sign_cases y with ⟨e2, g2⟩ | ⟨e2, g2⟩ | ⟨e2, g2⟩ <;> rcases sign_cases z with ⟨e3, g3⟩ | ⟨e3, g3⟩ | ⟨e3, g3⟩ <;> rw [e1, e2, e3] <;> first | rfl | omega
theorem table : ∀ a ∈ [1, 0, (-1 : Int)], ∀ b ∈ [1, 0, (-1 : Int)], ∀ c ∈ [1, 0, (-1 : Int)], cons3 a b c = true → ∀ x ∈ [1, 0, (-1 : Int)], ∀ y ∈ [1, 0, (-1 : Int)], ∀ z ∈ [1, 0, (-1 : Int)], cons3 (a * x) (b * y) (c * z) = true →
    ((y - x).natAbs : Int) * c + ((z - y).natAbs : Int) * a = ((z - x).natAbs : Int) * (-b) := by decide
theorem sign_mem (x : Int) : x.sign ∈ [1, 0, (-1 : Int)] := by
  rcases sign_cases x with ⟨e, _⟩ | ⟨e, _⟩ | ⟨e, _⟩ <;> rw [e] <;> simp
/-- In an open half plane turns add up. -/
theorem W_trans {n a b c : V} (ha : 0 < dt n a) (hb : 0 < dt n b) (hc : 0 < dt n c) : W a b + W b c = W a c := by
  have h1 : crs b c * dt n a + crs c a * dt n b + crs a b * dt n c = 0 := by unfold crs dt; grind
  have h2 : crs b c * a.2 + crs c a * b.2 + crs a b * c.2 = 0 := by unfold crs; grind
  have h3 := cons3_sum h1
  have h4 := cons3_sum h2
  simp only [Int.sign_mul, Int.sign_eq_one_of_pos ha, Int.sign_eq_one_of_pos hb, Int.sign_eq_one_of_pos hc, Int.mul_one] at h3 h4
  have := table _ (sign_mem (crs b c)) _ (sign_mem (crs c a)) _ (sign_mem (crs a b)) h3 _ (sign_mem a.2) _ (sign_mem b.2) _ (sign_mem c.2) h4
  unfold W
  rw [this]
  have e : crs a c = - crs c a := by unfold crs; grind
  rw [e, Int.sign_neg]
/-- A point lies on a side. -/
def On (a b p : V) : Prop := crs (vsub b a) (vsub p b) = 0 ∧ dt (vsub p a) (vsub p b) ≤ 0
/-- A line parts two sides. -/
def Sep (a b c d : V) : Prop := ∃ n, (0 < dt n (vsub c a) ∧ 0 < dt n (vsub d a)) ∧ 0 < dt n (vsub c b) ∧ 0 < dt n (vsub d b)
theorem pl {a b c d : V} (h : Sep a b c d) : W (vsub c a) (vsub d a) + W (vsub d a) (vsub d b) = W (vsub c a) (vsub c b) + W (vsub c b) (vsub d b) := by
  obtain ⟨n, ⟨h1, h2⟩, h3, h4⟩ := h
  rw [W_trans h1 h2 h4, W_trans h1 h3 h4]
theorem dt_neg (n x : V) : dt (vneg n) x = - dt n x := by unfold dt vneg; grind
theorem Sep.swap {a b c d : V} (h : Sep a b c d) : Sep c d a b := by
  obtain ⟨n, ⟨h1, h2⟩, h3, h4⟩ := h
  have e : ∀ x y : V, dt (vneg n) (vsub x y) = dt n (vsub y x) := fun x y => by unfold dt vneg vsub; grind
  exact ⟨vneg n, ⟨by rw [e]; exact h1, by rw [e]; exact h3⟩, by rw [e]; exact h2, by rw [e]; exact h4⟩
theorem Sep.flip {a b c d : V} (h : Sep a b c d) : Sep a b d c := by
  obtain ⟨n, ⟨h1, h2⟩, h3, h4⟩ := h
  exact ⟨n, ⟨h2, h1⟩, h4, h3⟩
/-- The normal of a side. -/
def nrm (e : V) : V := (-e.2, e.1)
theorem dt_nrm (e x : V) : dt (nrm e) x = crs e x := by unfold dt nrm crs; grind
theorem crs_ab (a b c : V) : crs (vsub b a) (vsub c a) = crs (vsub b a) (vsub c b) := by unfold crs vsub; grind
theorem sq_pos {e : V} (h : e ≠ (0, 0)) : 0 < dt e e := by
  unfold dt
  have h1 : 0 ≤ e.1 * e.1 := by rcases Int.le_total 0 e.1 with h | h <;> first | exact Int.mul_nonneg h h | exact Int.mul_nonneg_of_nonpos_of_nonpos h h
  have h2 : 0 ≤ e.2 * e.2 := by rcases Int.le_total 0 e.2 with h | h <;> first | exact Int.mul_nonneg h h | exact Int.mul_nonneg_of_nonpos_of_nonpos h h
  rcases Int.lt_or_eq_of_le h1 with h3 | h3
  · omega
  · rcases Int.lt_or_eq_of_le h2 with h4 | h4
    · omega
    · exfalso
      apply h
      have e1 : e.1 = 0 := by rcases Int.mul_eq_zero.1 h3.symm with h | h <;> exact h
      have e2 : e.2 = 0 := by rcases Int.mul_eq_zero.1 h4.symm with h | h <;> exact h
      exact Prod.ext e1 e2
theorem same_of_mul_pos {x y : Int} (h : 0 < x * y) : (0 < x ∧ 0 < y) ∨ (x < 0 ∧ y < 0) := by
  rcases Int.lt_trichotomy x 0 with h1 | h1 | h1
  · right
    refine ⟨h1, ?_⟩
    rcases Int.lt_trichotomy y 0 with h2 | h2 | h2
    · exact h2
    · rw [h2] at h; simp at h
    · have := Int.mul_neg_of_neg_of_pos h1 h2; omega
  · rw [h1] at h; simp at h
  · left
    refine ⟨h1, ?_⟩
    rcases Int.lt_trichotomy y 0 with h2 | h2 | h2
    · have := Int.mul_neg_of_pos_of_neg h1 h2; omega
    · rw [h2] at h; simp at h
    · exact h2
theorem vsub_ne {a b : V} (h : a ≠ b) : vsub b a ≠ (0, 0) := by
  intro e
  apply h
  have h1 := congrArg Prod.fst e
  have h2 := congrArg Prod.snd e
  simp only [vsub] at h1 h2
  exact Prod.ext (by omega) (by omega)
/-- A point of the line of a side that isn't on it lies beyond it. -/
theorem beyond {a b c : V} (hab : a ≠ b) (h0 : crs (vsub b a) (vsub c b) = 0) (hc : ¬ On a b c) :
    (0 < dt (vsub b a) (vsub c a) ∧ 0 < dt (vsub b a) (vsub c b)) ∨ (dt (vsub b a) (vsub c a) < 0 ∧ dt (vsub b a) (vsub c b) < 0) := by
  have h1 : 0 < dt (vsub c a) (vsub c b) := by
    apply Int.not_le.1
    intro h
    exact hc ⟨h0, h⟩
  have h2 := sq_pos (vsub_ne hab)
  apply same_of_mul_pos
  have e : dt (vsub b a) (vsub c a) * dt (vsub b a) (vsub c b) = dt (vsub b a) (vsub b a) * dt (vsub c a) (vsub c b) - crs (vsub b a) (vsub c a) * crs (vsub b a) (vsub c b) := by unfold dt crs; grind
  rw [e, h0, Int.mul_zero, Int.sub_zero]
  exact Int.mul_pos h2 h1
theorem sep_line {a b c d : V} (hab : a ≠ b) (hc : crs (vsub b a) (vsub c b) = 0) (h1 : ¬ On a b c) (h2 : ¬ On a b d) (h3 : ¬ On c d a) : Sep a b c d := by
  have hc' : crs (vsub b a) (vsub c a) = 0 := (crs_ab a b c).trans hc
  obtain ⟨s, hs, hs1, hs2⟩ : ∃ s : Int, (s = 1 ∨ s = -1) ∧ 0 < s * dt (vsub b a) (vsub c a) ∧ 0 < s * dt (vsub b a) (vsub c b) := by
    rcases beyond hab hc h1 with ⟨x, y⟩ | ⟨x, y⟩
    · exact ⟨1, .inl rfl, by omega, by omega⟩
    · exact ⟨-1, .inr rfl, by omega, by omega⟩
  have hd' := crs_ab a b d
  rcases sign_cases (crs (vsub b a) (vsub d b)) with ⟨_, g⟩ | ⟨_, g⟩ | ⟨_, g⟩
  · obtain ⟨k, hk, k0⟩ : ∃ k : Int, (0 < k + s * dt (vsub b a) (vsub d a) ∧ 0 < k + s * dt (vsub b a) (vsub d b)) ∧ 0 < k :=
      ⟨1 + (s * dt (vsub b a) (vsub d a)).natAbs + (s * dt (vsub b a) (vsub d b)).natAbs, by omega, by omega⟩
    have hm : k ≤ k * crs (vsub b a) (vsub d b) := by
      have := Int.mul_le_mul_of_nonneg_left (show (1 : Int) ≤ crs (vsub b a) (vsub d b) by omega) (Int.le_of_lt k0)
      omega
    have e : ∀ x, dt (vadd (k * (nrm (vsub b a)).1, k * (nrm (vsub b a)).2) (s * (vsub b a).1, s * (vsub b a).2)) x = k * crs (vsub b a) x + s * dt (vsub b a) x := fun x => by unfold dt vadd nrm crs; grind
    refine ⟨vadd (k * (nrm (vsub b a)).1, k * (nrm (vsub b a)).2) (s * (vsub b a).1, s * (vsub b a).2), ⟨?_, ?_⟩, ?_, ?_⟩ <;> rw [e]
    · rw [hc']; omega
    · rw [hd']; omega
    · rw [hc]; omega
    · omega
  · obtain ⟨x, y⟩ : 0 < s * dt (vsub b a) (vsub d a) ∧ 0 < s * dt (vsub b a) (vsub d b) := by
      by_cases hh : 0 < s * dt (vsub b a) (vsub d a)
      · refine ⟨hh, ?_⟩
        rcases beyond hab g h2 with ⟨x, y⟩ | ⟨x, y⟩ <;> rcases hs with rfl | rfl <;> omega
      · exfalso
        apply h3
        have hn : s * dt (vsub b a) (vsub d a) < 0 := by
          rcases beyond hab g h2 with ⟨x, y⟩ | ⟨x, y⟩ <;> rcases hs with rfl | rfl <;> omega
        have h5 := sq_pos (vsub_ne hab)
        have hd0 : crs (vsub b a) (vsub d a) = 0 := hd'.trans g
        constructor
        · have e : dt (vsub b a) (vsub b a) * crs (vsub d c) (vsub a d) = crs (vsub b a) (vsub a d) * dt (vsub b a) (vsub d c) - crs (vsub b a) (vsub d c) * dt (vsub b a) (vsub a d) := by unfold dt crs; grind
          have e1 : crs (vsub b a) (vsub a d) = - crs (vsub b a) (vsub d a) := by unfold crs vsub; grind
          have e2 : crs (vsub b a) (vsub d c) = crs (vsub b a) (vsub d a) - crs (vsub b a) (vsub c a) := by unfold crs vsub; grind
          rw [e1, e2, hd0, hc'] at e
          simp only [Int.neg_zero, Int.zero_mul, Int.sub_self] at e
          rcases Int.mul_eq_zero.1 e with e | e
          · omega
          · exact e
        · have e : dt (vsub b a) (vsub b a) * dt (vsub a c) (vsub a d) = dt (vsub b a) (vsub c a) * dt (vsub b a) (vsub d a) + crs (vsub b a) (vsub c a) * crs (vsub b a) (vsub d a) := by unfold dt crs vsub; grind
          rw [hc', Int.zero_mul, Int.add_zero] at e
          have h6 : dt (vsub b a) (vsub c a) * dt (vsub b a) (vsub d a) < 0 := by
            rcases hs with rfl | rfl
            · exact Int.mul_neg_of_pos_of_neg (by omega) (by omega)
            · exact Int.mul_neg_of_neg_of_pos (by omega) (by omega)
          apply Int.not_lt.1
          intro h7
          have := Int.mul_pos h5 h7
          omega
    refine ⟨(s * (vsub b a).1, s * (vsub b a).2), ?_⟩
    have e : ∀ x, dt (s * (vsub b a).1, s * (vsub b a).2) x = s * dt (vsub b a) x := fun x => by unfold dt; grind
    simp only [e]
    exact ⟨⟨hs1, x⟩, hs2, y⟩
  · obtain ⟨k, hk, k0⟩ : ∃ k : Int, (0 < k + s * dt (vsub b a) (vsub d a) ∧ 0 < k + s * dt (vsub b a) (vsub d b)) ∧ 0 < k :=
      ⟨1 + (s * dt (vsub b a) (vsub d a)).natAbs + (s * dt (vsub b a) (vsub d b)).natAbs, by omega, by omega⟩
    have hm : k ≤ k * (-crs (vsub b a) (vsub d b)) := by
      have := Int.mul_le_mul_of_nonneg_left (show (1 : Int) ≤ -crs (vsub b a) (vsub d b) by omega) (Int.le_of_lt k0)
      omega
    rw [Int.mul_neg] at hm
    have e : ∀ x, dt (vadd (-k * (nrm (vsub b a)).1, -k * (nrm (vsub b a)).2) (s * (vsub b a).1, s * (vsub b a).2)) x = - (k * crs (vsub b a) x) + s * dt (vsub b a) x := fun x => by unfold dt vadd nrm crs; grind
    refine ⟨vadd (-k * (nrm (vsub b a)).1, -k * (nrm (vsub b a)).2) (s * (vsub b a).1, s * (vsub b a).2), ⟨?_, ?_⟩, ?_, ?_⟩ <;> rw [e]
    · rw [hc']; omega
    · rw [hd']; omega
    · rw [hc]; omega
    · omega
theorem sep_side {a b c d : V} (h : 0 < crs (vsub b a) (vsub c b) * crs (vsub b a) (vsub d b)) : Sep a b c d := by
  have h1 := crs_ab a b c
  have h2 := crs_ab a b d
  rcases same_of_mul_pos h with ⟨x, y⟩ | ⟨x, y⟩
  · refine ⟨nrm (vsub b a), ?_⟩
    simp only [dt_nrm]
    omega
  · refine ⟨vneg (nrm (vsub b a)), ?_⟩
    simp only [dt_neg, dt_nrm]
    omega
/-- Sides that don't meet are parted by a line. -/
theorem sep_of {a b c d : V} (hab : a ≠ b) (hcd : c ≠ d) (h1 : ¬ On a b c) (h2 : ¬ On a b d) (h3 : ¬ On c d a) (h4 : ¬ On c d b)
    (hx : ¬ (crs (vsub b a) (vsub c b) * crs (vsub b a) (vsub d b) < 0 ∧ crs (vsub d c) (vsub a d) * crs (vsub d c) (vsub b d) < 0)) : Sep a b c d := by
  by_cases c1 : crs (vsub b a) (vsub c b) = 0
  · exact sep_line hab c1 h1 h2 h3
  by_cases c2 : crs (vsub b a) (vsub d b) = 0
  · have h3' : ¬ On d c a := by
      rintro ⟨x, y⟩
      apply h3
      refine ⟨?_, ?_⟩
      · have : crs (vsub d c) (vsub a d) = - crs (vsub c d) (vsub a c) := by unfold crs vsub; grind
        omega
      · have : dt (vsub a c) (vsub a d) = dt (vsub a d) (vsub a c) := by unfold dt vsub; grind
        omega
    exact (sep_line hab c2 h2 h1 h3').flip
  by_cases c3 : crs (vsub d c) (vsub a d) = 0
  · exact (sep_line hcd c3 h3 h4 h1).swap
  by_cases c4 : crs (vsub d c) (vsub b d) = 0
  · have h1' : ¬ On b a c := by
      rintro ⟨x, y⟩
      apply h1
      refine ⟨?_, ?_⟩
      · have : crs (vsub b a) (vsub c b) = - crs (vsub a b) (vsub c a) := by unfold crs vsub; grind
        omega
      · have : dt (vsub c a) (vsub c b) = dt (vsub c b) (vsub c a) := by unfold dt vsub; grind
        omega
    exact ((sep_line hcd c4 h4 h3 h1').flip).swap
  by_cases p1 : 0 < crs (vsub b a) (vsub c b) * crs (vsub b a) (vsub d b)
  · exact sep_side p1
  by_cases p2 : 0 < crs (vsub d c) (vsub a d) * crs (vsub d c) (vsub b d)
  · exact (sep_side p2).swap
  exfalso
  apply hx
  have q1 : crs (vsub b a) (vsub c b) * crs (vsub b a) (vsub d b) ≠ 0 := fun e => by
    rcases Int.mul_eq_zero.1 e with e | e
    · exact c1 e
    · exact c2 e
  have q2 : crs (vsub d c) (vsub a d) * crs (vsub d c) (vsub b d) ≠ 0 := fun e => by
    rcases Int.mul_eq_zero.1 e with e | e
    · exact c3 e
    · exact c4 e
  omega
end Go.Proofs.Ytbpmiphipjkdlaa.Pk
