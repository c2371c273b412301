/- Plain: the program and the specification let in the same pens. -/
import Derived.Test.YtbpmiphipjkdlaaBe
import Derived.Test.YtbpmiphipjkdlaaKa
import Derived.Test.YtbpmiphipjkdlaaAi
namespace Go.Proofs.Ytbpmiphipjkdlaa
open Go.RowKit Go.Shelf

theorem crossR_turn (a b p : Int × Int) : crossR a b p = turnP a b p := by unfold crossR turnP crossP subP; grind
theorem mul_nonpos_iff (u d : Int) : u * (u - d) ≤ 0 ↔ (0 ≤ u ∧ u ≤ d) ∨ (d ≤ u ∧ u ≤ 0) := by
  constructor
  · intro h
    rcases Int.lt_trichotomy u 0 with h1 | h1 | h1
    · right
      refine ⟨?_, by omega⟩
      apply Int.not_lt.1
      intro h2
      have := Int.mul_pos_of_neg_of_neg h1 (show u - d < 0 by omega)
      omega
    · subst h1; omega
    · left
      refine ⟨by omega, ?_⟩
      apply Int.not_lt.1
      intro h2
      have := Int.mul_pos h1 (show 0 < u - d by omega)
      omega
  · rintro (⟨h1, h2⟩ | ⟨h1, h2⟩)
    · have := Int.mul_nonneg h1 (show 0 ≤ d - u by omega)
      have e : u * (d - u) = - (u * (u - d)) := by grind
      omega
    · have := Int.mul_nonneg (show 0 ≤ -u by omega) (show 0 ≤ u - d by omega)
      have e : -u * (u - d) = - (u * (u - d)) := by grind
      omega
theorem onR_iff (a b p : Int × Int) (hab : a ≠ b) : onR a b p = true ↔ Pk.On a b p := by
  unfold onR Pk.On
  simp only [Bool.and_eq_true, decide_eq_true_eq]
  have e0 : crossR a b p = Pk.crs (Pk.vsub b a) (Pk.vsub p b) := crossR_turn a b p
  rw [e0]
  constructor
  · rintro ⟨h0, h1, h2, h3, h4⟩
    refine ⟨h0, ?_⟩
    have x1 : (p.1 - a.1) * (p.1 - a.1 - (b.1 - a.1)) ≤ 0 := (mul_nonpos_iff _ _).2 (by omega)
    have x2 : (p.2 - a.2) * (p.2 - a.2 - (b.2 - a.2)) ≤ 0 := (mul_nonpos_iff _ _).2 (by omega)
    have : Pk.dt (Pk.vsub p a) (Pk.vsub p b) = (p.1 - a.1) * (p.1 - a.1 - (b.1 - a.1)) + (p.2 - a.2) * (p.2 - a.2 - (b.2 - a.2)) := by unfold Pk.dt Pk.vsub; grind
    omega
  · rintro ⟨h0, h1⟩
    have e : Pk.dt (Pk.vsub p a) (Pk.vsub p b) = (p.1 - a.1) * (p.1 - a.1 - (b.1 - a.1)) + (p.2 - a.2) * (p.2 - a.2 - (b.2 - a.2)) := by unfold Pk.dt Pk.vsub; grind
    rw [e] at h1
    have h0' : (b.1 - a.1) * (p.2 - a.2) = (b.2 - a.2) * (p.1 - a.1) := by unfold Pk.crs Pk.vsub at h0; grind
    obtain ⟨u, hu⟩ : ∃ u, u = p.1 - a.1 := ⟨_, rfl⟩
    obtain ⟨v, hv⟩ : ∃ v, v = p.2 - a.2 := ⟨_, rfl⟩
    obtain ⟨dx, hdx⟩ : ∃ d, d = b.1 - a.1 := ⟨_, rfl⟩
    obtain ⟨dy, hdy⟩ : ∃ d, d = b.2 - a.2 := ⟨_, rfl⟩
    rw [← hu, ← hv, ← hdx, ← hdy] at h1
    rw [← hu, ← hv, ← hdx, ← hdy] at h0'
    have key : u * (u - dx) * (dy * dy) = v * (v - dy) * (dx * dx) := by grind
    have hne : ¬ (dx = 0 ∧ dy = 0) := fun h => hab (Prod.ext (by omega) (by omega))
    have hd : 0 ≤ dx * dx ∧ 0 ≤ dy * dy := by
      constructor
      · rcases Int.le_total 0 dx with h | h
        · exact Int.mul_nonneg h h
        · exact Int.mul_nonneg_of_nonpos_of_nonpos h h
      · rcases Int.le_total 0 dy with h | h
        · exact Int.mul_nonneg h h
        · exact Int.mul_nonneg_of_nonpos_of_nonpos h h
    have hX : u * (u - dx) ≤ 0 := by
      apply Int.not_lt.1
      intro hx
      have hy : v * (v - dy) < 0 := by omega
      have h5 := Int.mul_nonneg (Int.le_of_lt hx) hd.2
      have h6 := Int.mul_nonneg (show 0 ≤ -(v * (v - dy)) by omega) hd.1
      rw [Int.neg_mul] at h6
      have h7 : u * (u - dx) * (dy * dy) = 0 := by omega
      have h8 : v * (v - dy) * (dx * dx) = 0 := by omega
      apply hne
      constructor
      · rcases Int.mul_eq_zero.1 h8 with h | h
        · omega
        · rcases Int.mul_eq_zero.1 h with h | h <;> exact h
      · rcases Int.mul_eq_zero.1 h7 with h | h
        · omega
        · rcases Int.mul_eq_zero.1 h with h | h <;> exact h
    have hY : v * (v - dy) ≤ 0 := by
      apply Int.not_lt.1
      intro hy
      have hx : u * (u - dx) < 0 := by omega
      have h5 := Int.mul_nonneg (Int.le_of_lt hy) hd.1
      have h6 := Int.mul_nonneg (show 0 ≤ -(u * (u - dx)) by omega) hd.2
      rw [Int.neg_mul] at h6
      have h7 : u * (u - dx) * (dy * dy) = 0 := by omega
      have h8 : v * (v - dy) * (dx * dx) = 0 := by omega
      apply hne
      constructor
      · rcases Int.mul_eq_zero.1 h8 with h | h
        · omega
        · rcases Int.mul_eq_zero.1 h with h | h <;> exact h
      · rcases Int.mul_eq_zero.1 h7 with h | h
        · omega
        · rcases Int.mul_eq_zero.1 h with h | h <;> exact h
    have x1 := (mul_nonpos_iff _ _).1 hX
    have x2 := (mul_nonpos_iff _ _).1 hY
    exact ⟨h0, by omega, by omega, by omega, by omega⟩
theorem onS_iff (a b p : Int × Int) : onS (a, b) p = true ↔ Pk.On a b p := by
  unfold onS Pk.On
  simp only [Bool.and_eq_true, decide_eq_true_eq]
  exact Iff.rfl
theorem onR_onS (a b p : Int × Int) (hab : a ≠ b) : onR a b p = onS (a, b) p := by rw [Bool.eq_iff_iff, onR_iff a b p hab, onS_iff]
/-- Two sides in a row. -/
theorem fold_iff (a b c : Int × Int) (hab : a ≠ b) (hbc : b ≠ c) : (Pk.On a b c ∨ Pk.On b c a) ↔ (Pk.crs (Pk.vsub a b) (Pk.vsub c b) = 0 ∧ 0 < Pk.dt (Pk.vsub a b) (Pk.vsub c b)) := by
  have hp := Pk.sq_pos (Pk.vsub_ne hab.symm)
  have hq := Pk.sq_pos (Pk.vsub_ne hbc)
  have e1 : Pk.dt (Pk.vsub c a) (Pk.vsub c b) = Pk.dt (Pk.vsub c b) (Pk.vsub c b) - Pk.dt (Pk.vsub a b) (Pk.vsub c b) := by unfold Pk.dt Pk.vsub; grind
  have e2 : Pk.dt (Pk.vsub a b) (Pk.vsub a c) = Pk.dt (Pk.vsub a b) (Pk.vsub a b) - Pk.dt (Pk.vsub a b) (Pk.vsub c b) := by unfold Pk.dt Pk.vsub; grind
  have c1 : Pk.crs (Pk.vsub b a) (Pk.vsub c b) = - Pk.crs (Pk.vsub a b) (Pk.vsub c b) := by unfold Pk.crs Pk.vsub; grind
  have c2 : Pk.crs (Pk.vsub c b) (Pk.vsub a c) = - Pk.crs (Pk.vsub a b) (Pk.vsub c b) := by unfold Pk.crs Pk.vsub; grind
  have lag : Pk.dt (Pk.vsub a b) (Pk.vsub c b) * Pk.dt (Pk.vsub a b) (Pk.vsub c b) = Pk.dt (Pk.vsub a b) (Pk.vsub a b) * Pk.dt (Pk.vsub c b) (Pk.vsub c b) - Pk.crs (Pk.vsub a b) (Pk.vsub c b) * Pk.crs (Pk.vsub a b) (Pk.vsub c b) := by unfold Pk.dt Pk.crs; grind
  unfold Pk.On
  rw [e1, e2, c1, c2]
  obtain ⟨x, hx⟩ : ∃ x, x = Pk.dt (Pk.vsub a b) (Pk.vsub c b) := ⟨_, rfl⟩
  obtain ⟨y, hy⟩ : ∃ y, y = Pk.crs (Pk.vsub a b) (Pk.vsub c b) := ⟨_, rfl⟩
  obtain ⟨s, hs⟩ : ∃ s, s = Pk.dt (Pk.vsub a b) (Pk.vsub a b) := ⟨_, rfl⟩
  obtain ⟨t, ht⟩ : ∃ t, t = Pk.dt (Pk.vsub c b) (Pk.vsub c b) := ⟨_, rfl⟩
  rw [← hx, ← hy, ← hs, ← ht] at lag
  rw [← hx, ← hy, ← hs, ← ht]
  rw [← hs] at hp
  rw [← ht] at hq
  constructor
  · rintro (⟨h1, h2⟩ | ⟨h1, h2⟩) <;> omega
  · rintro ⟨h1, h2⟩
    subst h1
    by_cases h : t ≤ x
    · exact .inl ⟨by omega, by omega⟩
    · right
      refine ⟨by omega, ?_⟩
      apply Int.not_lt.1
      intro h3
      have m1 := Int.mul_lt_mul_of_pos_right (show x < s by omega) h2
      have m2 := Int.mul_lt_mul_of_pos_left (show x < t by omega) (show 0 < s by omega)
      omega
theorem signI_sign (x : Int) : signI x = x.sign := by
  unfold signI
  rcases Pk.sign_cases x with ⟨e, h⟩ | ⟨e, h⟩ | ⟨e, h⟩
  · rw [e, if_pos h]
  · rw [e, if_neg (by omega), if_neg (by omega)]
  · rw [e, if_neg (by omega), if_pos h]
/-- A line through a and b parts c and d, and a lies on the line through c and d: then between them. -/
theorem between_of {a b c d : Int × Int} (h0 : turnP c d a = 0) (h1 : turnP a b c * turnP a b d < 0) : Pk.On c d a := by
  have e1 : turnP a b c = Pk.crs (Pk.vsub b a) (Pk.vsub c a) := (Pk.crs_ab a b c).symm
  have e2 : turnP a b d = Pk.crs (Pk.vsub b a) (Pk.vsub d a) := (Pk.crs_ab a b d).symm
  have h0' : Pk.crs (Pk.vsub c a) (Pk.vsub d a) = 0 := by
    have : Pk.crs (Pk.vsub c a) (Pk.vsub d a) = turnP c d a := by unfold Pk.crs Pk.vsub turnP crossP subP; grind
    omega
  rw [e1, e2] at h1
  refine ⟨h0, ?_⟩
  have key : Pk.dt (Pk.vsub c a) (Pk.vsub d a) * (Pk.crs (Pk.vsub b a) (Pk.vsub c a) * Pk.crs (Pk.vsub b a) (Pk.vsub c a)) =
      Pk.dt (Pk.vsub c a) (Pk.vsub c a) * (Pk.crs (Pk.vsub b a) (Pk.vsub c a) * Pk.crs (Pk.vsub b a) (Pk.vsub d a)) + Pk.crs (Pk.vsub c a) (Pk.vsub d a) * (Pk.crs (Pk.vsub b a) (Pk.vsub c a) * (- Pk.dt (Pk.vsub b a) (Pk.vsub c a))) := by unfold Pk.dt Pk.crs; grind
  rw [h0', Int.zero_mul, Int.add_zero] at key
  have e3 : Pk.dt (Pk.vsub a c) (Pk.vsub a d) = Pk.dt (Pk.vsub c a) (Pk.vsub d a) := by unfold Pk.dt Pk.vsub; grind
  rw [e3]
  apply Int.not_lt.1
  intro hp
  have hca : c ≠ a := by
    rintro rfl
    have : Pk.crs (Pk.vsub b c) (Pk.vsub c c) = 0 := by unfold Pk.crs Pk.vsub; grind
    rw [this] at h1
    simp at h1
  have h4 := Pk.sq_pos (Pk.vsub_ne hca.symm)
  have h5 := Int.mul_neg_of_pos_of_neg h4 h1
  have h6 : 0 ≤ Pk.crs (Pk.vsub b a) (Pk.vsub c a) * Pk.crs (Pk.vsub b a) (Pk.vsub c a) := by
    rcases Int.le_total 0 (Pk.crs (Pk.vsub b a) (Pk.vsub c a)) with h | h
    · exact Int.mul_nonneg h h
    · exact Int.mul_nonneg_of_nonpos_of_nonpos h h
  have h7 := Int.mul_nonneg (Int.le_of_lt hp) h6
  omega
theorem mul_sign_neg (x y : Int) : signI x * signI y < 0 ↔ x * y < 0 := by
  rw [signI_sign, signI_sign, ← Int.sign_mul]
  rcases Pk.sign_cases (x * y) with ⟨e, h⟩ | ⟨e, h⟩ | ⟨e, h⟩ <;> rw [e] <;> omega
theorem mul_neg_iff (x y : Int) : x * y < 0 ↔ (signI x ≠ signI y ∧ x ≠ 0 ∧ y ≠ 0) := by
  rw [← mul_sign_neg, signI_sign, signI_sign]
  rcases Pk.sign_cases x with ⟨e, h⟩ | ⟨e, h⟩ | ⟨e, h⟩ <;> rcases Pk.sign_cases y with ⟨f, g⟩ | ⟨f, g⟩ | ⟨f, g⟩ <;> rw [e, f] <;> omega
theorem meet_eq (a b c d : Int × Int) (hab : a ≠ b) (hcd : c ≠ d) : meetS (a, b) (c, d) = meetR a b c d := by
  unfold meetS meetR
  rw [onR_onS a b c hab, onR_onS a b d hab, onR_onS c d a hcd, onR_onS c d b hcd]
  cases q1 : onS (a, b) c with
  | true => simp
  | false =>
  cases q2 : onS (a, b) d with
  | true => simp
  | false =>
  cases q3 : onS (c, d) a with
  | true => simp
  | false =>
  cases q4 : onS (c, d) b with
  | true => simp
  | false =>
    have n3 : ¬ Pk.On c d a := fun h => by rw [(onS_iff c d a).2 h] at q3; cases q3
    have n4 : ¬ Pk.On c d b := fun h => by rw [(onS_iff c d b).2 h] at q4; cases q4
    simp only [Bool.false_or]
    rw [Bool.eq_iff_iff]
    unfold crsS
    simp only [Bool.and_eq_true, bne_iff_ne, decide_eq_true_eq, crossR_turn, mul_sign_neg]
    constructor
    · rintro ⟨⟨⟨h1, h2⟩, h3⟩, h4⟩
      have hn : turnP a b c * turnP a b d < 0 := (mul_neg_iff _ _).2 ⟨h1, h3, h4⟩
      refine ⟨hn, (mul_neg_iff _ _).2 ⟨h2, fun e => n3 (between_of e hn), fun e => n4 ?_⟩⟩
      have e1 : turnP b a c = - turnP a b c := by unfold turnP crossP subP; grind
      have e2 : turnP b a d = - turnP a b d := by unfold turnP crossP subP; grind
      refine between_of (b := a) e ?_
      rw [e1, e2, Int.neg_mul_neg]
      exact hn
    · rintro ⟨h1, h2⟩
      have x1 := (mul_neg_iff _ _).1 h1
      have x2 := (mul_neg_iff _ _).1 h2
      exact ⟨⟨⟨x1.1, x2.1⟩, x1.2.1⟩, x1.2.2⟩
theorem meetS_comm (s o : Side) : meetS s o = meetS o s := by
  unfold meetS
  rw [Bool.eq_iff_iff]
  have hc : (onS s o.1 = false → onS s o.2 = false → onS o s.1 = false → onS o s.2 = false → (crsS s o = true → crsS o s = true)) := by
    intro q1 q2 q3 q4 h
    have n3 : ¬ Pk.On o.1 o.2 s.1 := fun h => by rw [show o = (o.1, o.2) from rfl, (onS_iff o.1 o.2 s.1).2 h] at q3; cases q3
    have n4 : ¬ Pk.On o.1 o.2 s.2 := fun h => by rw [show o = (o.1, o.2) from rfl, (onS_iff o.1 o.2 s.2).2 h] at q4; cases q4
    unfold crsS at h ⊢
    simp only [Bool.and_eq_true, bne_iff_ne] at h ⊢
    obtain ⟨⟨⟨h1, h2⟩, h3⟩, h4⟩ := h
    have hn : turnP s.1 s.2 o.1 * turnP s.1 s.2 o.2 < 0 := (mul_neg_iff _ _).2 ⟨h1, h3, h4⟩
    refine ⟨⟨⟨h2, h1⟩, fun e => n3 (between_of e hn)⟩, fun e => n4 ?_⟩
    have e1 : turnP s.2 s.1 o.1 = - turnP s.1 s.2 o.1 := by unfold turnP crossP subP; grind
    have e2 : turnP s.2 s.1 o.2 = - turnP s.1 s.2 o.2 := by unfold turnP crossP subP; grind
    refine between_of (b := s.1) e ?_
    rw [e1, e2, Int.neg_mul_neg]
    exact hn
  have hd : (onS s o.1 = false → onS s o.2 = false → onS o s.1 = false → onS o s.2 = false → (crsS o s = true → crsS s o = true)) := by
    intro q1 q2 q3 q4 h
    have n3 : ¬ Pk.On s.1 s.2 o.1 := fun h => by rw [show s = (s.1, s.2) from rfl, (onS_iff s.1 s.2 o.1).2 h] at q1; cases q1
    have n4 : ¬ Pk.On s.1 s.2 o.2 := fun h => by rw [show s = (s.1, s.2) from rfl, (onS_iff s.1 s.2 o.2).2 h] at q2; cases q2
    unfold crsS at h ⊢
    simp only [Bool.and_eq_true, bne_iff_ne] at h ⊢
    obtain ⟨⟨⟨h1, h2⟩, h3⟩, h4⟩ := h
    have hn : turnP o.1 o.2 s.1 * turnP o.1 o.2 s.2 < 0 := (mul_neg_iff _ _).2 ⟨h1, h3, h4⟩
    refine ⟨⟨⟨h2, h1⟩, fun e => n3 (between_of e hn)⟩, fun e => n4 ?_⟩
    have e1 : turnP o.2 o.1 s.1 = - turnP o.1 o.2 s.1 := by unfold turnP crossP subP; grind
    have e2 : turnP o.2 o.1 s.2 = - turnP o.1 o.2 s.2 := by unfold turnP crossP subP; grind
    refine between_of (b := o.1) e ?_
    rw [e1, e2, Int.neg_mul_neg]
    exact hn
  cases q1 : onS s o.1 <;> cases q2 : onS s o.2 <;> cases q3 : onS o s.1 <;> cases q4 : onS o s.2 <;> simp
  exact Bool.eq_iff_iff.2 ⟨hc q1 q2 q3 q4, hd q1 q2 q3 q4⟩
end Go.Proofs.Ytbpmiphipjkdlaa
