/- Plain: what is a pen of the plain theory, in range, is let in. -/
import Derived.Test.YtbpmiphipjkdlaaBj
namespace Go.Proofs.Ytbpmiphipjkdlaa
open Go.RowKit Go.Shelf

theorem sq_ge (x : Int) : 0 ≤ x * x := by
  rcases Int.le_total 0 x with h | h
  · exact Int.mul_nonneg h h
  · exact Int.mul_nonneg_of_nonpos_of_nonpos h h
theorem dt_pos_on {n u v : Int × Int} (hu : 0 < Pk.dt n u) (hv : 0 < Pk.dt n v) (hc : Pk.crs u v = 0) : 0 < Pk.dt u v := by
  have e1 : Pk.dt n n * Pk.dt u v = Pk.dt n u * Pk.dt n v + Pk.crs n u * Pk.crs n v := by unfold Pk.dt Pk.crs; grind
  have e2 : Pk.dt n u * Pk.crs n v - Pk.crs n u * Pk.dt n v = Pk.dt n n * Pk.crs u v := by unfold Pk.dt Pk.crs; grind
  rw [hc, Int.mul_zero] at e2
  have e3 : Pk.dt n u * (Pk.crs n u * Pk.crs n v) = Pk.crs n u * Pk.crs n u * Pk.dt n v := by grind
  have h1 := Int.mul_nonneg (sq_ge (Pk.crs n u)) (Int.le_of_lt hv)
  have h2 : 0 ≤ Pk.crs n u * Pk.crs n v := by
    apply Int.not_lt.1
    intro h
    have := Int.mul_neg_of_pos_of_neg hu h
    omega
  have h3 := Int.mul_pos hu hv
  apply Int.not_le.1
  intro h
  have h4 : 0 ≤ Pk.dt n n := by unfold Pk.dt; have := sq_ge n.1; have := sq_ge n.2; omega
  have h5 := Int.mul_nonneg h4 (show 0 ≤ - Pk.dt u v by omega)
  rw [Int.mul_neg] at h5
  omega
theorem sep_on {a b c d : Int × Int} (h : Pk.Sep a b c d) : ¬ Pk.On a b c := by
  obtain ⟨n, ⟨h1, _⟩, h3, _⟩ := h
  rintro ⟨q1, q2⟩
  have hc : Pk.crs (Pk.vsub c a) (Pk.vsub c b) = 0 := by
    have : Pk.crs (Pk.vsub c a) (Pk.vsub c b) = Pk.crs (Pk.vsub b a) (Pk.vsub c b) := by unfold Pk.crs Pk.vsub; grind
    omega
  have := dt_pos_on h1 h3 hc
  omega
theorem sep_flip {a b c d : Int × Int} (h : Pk.Sep a b c d) : Pk.Sep a b d c := by
  obtain ⟨n, ⟨h1, h2⟩, h3, h4⟩ := h
  exact ⟨n, ⟨h2, h1⟩, h4, h3⟩
theorem sep_turn {a b c d : Int × Int} (h : Pk.Sep a b c d) : Pk.Sep b a c d := by
  obtain ⟨n, ⟨h1, h2⟩, h3, h4⟩ := h
  exact ⟨n, ⟨h3, h4⟩, h1, h2⟩
theorem sep_cross {a b c d : Int × Int} (h : Pk.Sep a b c d) : ¬ (turnP a b c * turnP a b d < 0 ∧ turnP c d a * turnP c d b < 0) := by
  obtain ⟨n, ⟨h1, h2⟩, h3, h4⟩ := h
  rintro ⟨q1, q2⟩
  have i1 : turnP a b d * Pk.dt n (Pk.vsub c a) - turnP a b c * Pk.dt n (Pk.vsub d a) = turnP c d a * Pk.dt n (Pk.vsub b a) := by unfold turnP crossP subP Pk.dt Pk.vsub; grind
  have i2 : turnP a b d * Pk.dt n (Pk.vsub c b) - turnP a b c * Pk.dt n (Pk.vsub d b) = turnP c d b * Pk.dt n (Pk.vsub b a) := by unfold turnP crossP subP Pk.dt Pk.vsub; grind
  have i3 : turnP c d a - turnP c d b = turnP a b d - turnP a b c := by unfold turnP crossP subP; grind
  obtain ⟨al, hal⟩ : ∃ x, x = turnP a b c := ⟨_, rfl⟩
  obtain ⟨be, hbe⟩ : ∃ x, x = turnP a b d := ⟨_, rfl⟩
  obtain ⟨ga, hga⟩ : ∃ x, x = turnP c d a := ⟨_, rfl⟩
  obtain ⟨de, hde⟩ : ∃ x, x = turnP c d b := ⟨_, rfl⟩
  obtain ⟨z, hz⟩ : ∃ x, x = Pk.dt n (Pk.vsub b a) := ⟨_, rfl⟩
  rw [← hal, ← hbe] at q1 i1 i2 i3
  rw [← hga] at q2 i1 i3
  rw [← hde] at q2 i2 i3
  rw [← hz] at i1 i2
  clear hal hbe hga hde hz
  have sg : ∀ x y : Int, x * y < 0 → (0 < x ∧ y < 0) ∨ (x < 0 ∧ 0 < y) := fun x y h => by
    rcases Int.lt_trichotomy x 0 with hx | hx | hx
    · right
      refine ⟨hx, Int.not_le.1 fun hy => ?_⟩
      have := Int.mul_nonneg_of_nonpos_of_nonpos (Int.le_of_lt hx) hy
      omega
    · subst hx; omega
    · left
      refine ⟨hx, Int.not_le.1 fun hy => ?_⟩
      have := Int.mul_nonneg (Int.le_of_lt hx) hy
      omega
  rcases sg _ _ q1 with ⟨ha, hb⟩ | ⟨ha, hb⟩
  · have m1 := Int.mul_neg_of_neg_of_pos hb h1
    have m2 := Int.mul_pos ha h2
    have m3 := Int.mul_neg_of_neg_of_pos hb h3
    have m4 := Int.mul_pos ha h4
    rcases sg _ _ q2 with ⟨hg, hd⟩ | ⟨hg, hd⟩
    · omega
    · have k1 := sg _ _ (show ga * z < 0 by omega)
      have k2 := sg _ _ (show de * z < 0 by omega)
      omega
  · have m1 := Int.mul_pos hb h1
    have m2 := Int.mul_neg_of_neg_of_pos ha h2
    have m3 := Int.mul_pos hb h3
    have m4 := Int.mul_neg_of_neg_of_pos ha h4
    rcases sg _ _ q2 with ⟨hg, hd⟩ | ⟨hg, hd⟩
    · have k1 := sg ga (-z) (by rw [Int.mul_neg]; omega)
      have k2 := sg de (-z) (by rw [Int.mul_neg]; omega)
      omega
    · omega
theorem sep_meetR {a b c d : Int × Int} (hab : a ≠ b) (hcd : c ≠ d) (h : Pk.Sep a b c d) : meetR a b c d = false := by
  rw [← Bool.not_eq_true]
  unfold meetR
  simp only [Bool.or_eq_true, Bool.and_eq_true, decide_eq_true_eq, mul_sign_neg, crossR_turn, onR_iff a b _ hab, onR_iff c d _ hcd]
  rintro ((((h1 | h1) | h1) | h1) | h1)
  · exact sep_on h h1
  · exact sep_on (sep_flip h) h1
  · exact sep_on h.swap h1
  · exact sep_on (sep_flip h.swap) h1
  · exact sep_cross h h1
theorem read_of_pen {xs : PtL} (h10 : xs.length ≤ 10) (hin : ∀ i, i < xs.length → inB 50 (xs.getD i (0, 0))) (hp : Pk.Pen xs.length (postAt xs)) : readP xs = true := by
  have h3 := hp.n3
  have at0 : ∀ i, i < xs.length → xs.getD i (0, 0) = postAt xs i := fun i hi => by unfold postAt; rw [Nat.mod_eq_of_lt hi]
  refine (readP_iff xs).2 ⟨⟨h3, h10⟩, fun i hi => (rowR_iff xs i).2 ⟨hin i hi, ?_⟩, fun i hi => ?_, fun i hi k hik hk => ?_⟩
  · rw [side_post' xs i hi]
    exact hp.ne i
  · unfold turnR
    rw [at0 i hi, ← Bool.not_eq_true, Bool.or_eq_true, onR_iff _ _ _ (hp.ne i), onR_iff _ _ _ (hp.ne (i + 1)), fold_iff _ _ _ (hp.ne i) (hp.ne (i + 1))]
    rintro ⟨q1, q2⟩
    apply hp.fold i
    have c1 : Pk.crs (Pk.vsub (postAt xs (i + 1)) (postAt xs i)) (Pk.vsub (postAt xs (i + 2)) (postAt xs (i + 1))) = - Pk.crs (Pk.vsub (postAt xs i) (postAt xs (i + 1))) (Pk.vsub (postAt xs (i + 2)) (postAt xs (i + 1))) := by unfold Pk.crs Pk.vsub; grind
    have c2 : Pk.dt (Pk.vsub (postAt xs (i + 1)) (postAt xs i)) (Pk.vsub (postAt xs (i + 2)) (postAt xs (i + 1))) = - Pk.dt (Pk.vsub (postAt xs i) (postAt xs (i + 1))) (Pk.vsub (postAt xs (i + 2)) (postAt xs (i + 1))) := by unfold Pk.dt Pk.vsub; grind
    rw [show i + 1 + 1 = i + 2 by omega] at q1 q2
    exact ⟨by omega, by omega⟩
  · unfold sideR
    rw [at0 i hi, at0 k hk]
    by_cases hw : (k + 1) % xs.length = i
    · rw [decide_eq_false (by simpa using hw), Bool.false_and]
    · rw [sep_meetR (hp.ne i) (hp.ne k) (hp.sep i k hik ?_), Bool.and_false]
      rw [mod_next hk] at hw
      split at hw <;> omega
end Go.Proofs.Ytbpmiphipjkdlaa
