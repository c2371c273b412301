/- Plain: a step to the border. -/
import Derived.Test.YtbpmiphipjkdlaaKd
namespace Go.Proofs.Ytbpmiphipjkdlaa.Pk
variable {n : Nat} {v : Nat → V}
theorem least_nat {P : Nat → Prop} : ∀ t, P t → ∃ s, P s ∧ s ≤ t ∧ ∀ r, r < s → ¬ P r := by
  intro t
  induction t using Nat.strongRecOn with
  | _ t ih =>
    intro h
    by_cases hex : ∃ r, r < t ∧ P r
    · obtain ⟨r, hr, hp⟩ := hex
      obtain ⟨s, h1, h2, h3⟩ := ih r hr hp
      exact ⟨s, h1, by omega, h3⟩
    · exact ⟨t, h, Nat.le_refl _, fun r hr hp => hex ⟨r, hr, hp⟩⟩
/-- A side meets the height of p at points of the grid alone. -/
def Whole (a b p : V) : Prop := a.2 ≠ b.2 → (b.2 - a.2) ∣ (b.1 - a.1) * (p.2 - a.2)
theorem neg_mul_between {x y : Int} (h : x * y < 0) : (x < 0 ∧ 0 < y) ∨ (0 < x ∧ y < 0) := by
  rcases Int.lt_trichotomy x 0 with hx | hx | hx
  · left
    refine ⟨hx, ?_⟩
    apply Int.not_le.1
    intro hy
    have := Int.mul_nonneg_of_nonpos_of_nonpos (Int.le_of_lt hx) hy
    omega
  · subst hx; simp at h
  · right
    refine ⟨hx, ?_⟩
    apply Int.not_le.1
    intro hy
    have := Int.mul_nonneg (Int.le_of_lt hx) hy
    omega
/-- The point of a side at the height of p. -/
theorem hit_of {a b p : V} (hw : Whole a b p) (hne : a.2 ≠ b.2) (hb : (p.2 - a.2) * (p.2 - b.2) ≤ 0) : ∃ x, On a b (x, p.2) ∧ crs (vsub b a) (vsub (x, p.2) a) = 0 := by
  obtain ⟨k, hk⟩ := hw hne
  have h0 : crs (vsub b a) (vsub (a.1 + k, p.2) a) = 0 := by
    have : crs (vsub b a) (vsub (a.1 + k, p.2) a) = (b.1 - a.1) * (p.2 - a.2) - (b.2 - a.2) * k := by unfold crs vsub; simp only; grind
    omega
  refine ⟨a.1 + k, ⟨(crs_ab _ _ _).symm.trans h0, ?_⟩, h0⟩
  have key : dt (vsub (a.1 + k, p.2) a) (vsub (a.1 + k, p.2) b) * ((b.2 - a.2) * (b.2 - a.2)) = ((p.2 - a.2) * (p.2 - b.2)) * dt (vsub b a) (vsub b a) := by
    unfold dt vsub
    simp only
    grind
  have hd := sq_pos (vsub_ne (show a ≠ b from fun e => hne (by rw [e])))
  have hy : 0 < (b.2 - a.2) * (b.2 - a.2) := by
    rcases Int.lt_or_gt_of_ne (show b.2 - a.2 ≠ 0 by omega) with h | h
    · exact Int.mul_pos_of_neg_of_neg h h
    · exact Int.mul_pos h h
  apply Int.not_lt.1
  intro hc
  have m1 := Int.mul_pos hc hy
  have m2 := Int.mul_nonneg (show 0 ≤ -((p.2 - a.2) * (p.2 - b.2)) by omega) (Int.le_of_lt hd)
  rw [Int.neg_mul] at m2
  omega
/-- Two sides that a line parts have no point in common. -/
theorem Sep.no {a b c d q : V} (h : Sep a b c d) (hab : a ≠ b) (hcd : c ≠ d) (h1 : On a b q) (h2 : On c d q) : False := by
  have s := ((h.part h1 hab).swap.part h2 hcd).swap
  obtain ⟨m, _, _, h4⟩ := s
  rw [vsub_self] at h4
  simp [dt] at h4
/-- A point of the next side that also lies on this one folds them. -/
theorem fold_next {a b c q : V} (h1 : On a b q) (h2 : On b c q) (hq : q ≠ b) (hf : ¬ (crs (vsub b a) (vsub c b) = 0 ∧ dt (vsub b a) (vsub c b) < 0)) : False := by
  have hab : a ≠ b := by
    rintro rfl
    have := h1.2
    have e : dt (vsub q a) (vsub q a) = dt (vsub a q) (vsub a q) := by unfold dt vsub; grind
    have := sq_pos (vsub_ne hq)
    omega
  have hbc : b ≠ c := by
    rintro rfl
    have := h2.2
    have e : dt (vsub q b) (vsub q b) = dt (vsub b q) (vsub b q) := by unfold dt vsub; grind
    have := sq_pos (vsub_ne hq)
    omega
  have r1 := h1.rangeA
  have r2 := h2.rangeA
  have c1 : crs (vsub b a) (vsub q b) = 0 := h1.1
  have c2 : crs (vsub c b) (vsub q b) = 0 := (crs_ab b c q).trans h2.1
  have hqq := sq_pos (vsub_ne hq.symm)
  apply hf
  have k1 : crs (vsub b a) (vsub c b) * dt (vsub q b) (vsub q b) = crs (vsub b a) (vsub q b) * dt (vsub q b) (vsub c b) - crs (vsub c b) (vsub q b) * dt (vsub b a) (vsub q b) := by unfold crs dt; grind
  rw [c1, c2, Int.zero_mul, Int.zero_mul, Int.sub_zero] at k1
  refine ⟨?_, ?_⟩
  · rcases Int.mul_eq_zero.1 k1 with h | h
    · exact h
    · omega
  · have k2 : dt (vsub b a) (vsub c b) * dt (vsub q b) (vsub q b) = dt (vsub b a) (vsub q b) * dt (vsub c b) (vsub q b) + crs (vsub b a) (vsub q b) * (crs (vsub c b) (vsub q b)) := by unfold crs dt; grind
    rw [c1, Int.zero_mul, Int.add_zero] at k2
    have e1 : dt (vsub b a) (vsub q b) = dt (vsub b a) (vsub q a) - dt (vsub b a) (vsub b a) := by unfold dt vsub; grind
    have n1 : dt (vsub b a) (vsub q b) ≠ 0 := by
      intro e
      have k : dt (vsub b a) (vsub q b) * dt (vsub b a) (vsub q b) = dt (vsub b a) (vsub b a) * dt (vsub q b) (vsub q b) - crs (vsub b a) (vsub q b) * crs (vsub b a) (vsub q b) := by unfold dt crs; grind
      rw [e, c1] at k
      simp only [Int.zero_mul, Int.sub_zero] at k
      have := Int.mul_pos (sq_pos (vsub_ne hab)) hqq
      omega
    have n2 : dt (vsub c b) (vsub q b) ≠ 0 := by
      intro e
      have k : dt (vsub c b) (vsub q b) * dt (vsub c b) (vsub q b) = dt (vsub c b) (vsub c b) * dt (vsub q b) (vsub q b) - crs (vsub c b) (vsub q b) * crs (vsub c b) (vsub q b) := by unfold dt crs; grind
      rw [e, c2] at k
      simp only [Int.zero_mul, Int.sub_zero] at k
      have := Int.mul_pos (sq_pos (vsub_ne hbc)) hqq
      omega
    have m := Int.mul_neg_of_neg_of_pos (show dt (vsub b a) (vsub q b) < 0 by omega) (show 0 < dt (vsub c b) (vsub q b) by omega)
    apply Int.not_le.1
    intro hc
    have := Int.mul_nonneg hc (Int.le_of_lt hqq)
    omega
theorem On.flip {a b p : V} (h : On a b p) : On b a p := by
  obtain ⟨h0, h1⟩ := h
  constructor
  · have : crs (vsub a b) (vsub p a) = - crs (vsub b a) (vsub p b) := by unfold crs vsub; grind
    omega
  · have : dt (vsub p b) (vsub p a) = dt (vsub p a) (vsub p b) := by unfold dt vsub; grind
    omega
/-- No other side holds a point strictly inside of a side. -/
theorem Pen.alone (h : Pen n v) (i t : Nat) (h1 : 1 ≤ t) (h2 : t < n) {q : V} (hq : On (v i) (v (i + 1)) q) (ha : q ≠ v i) (hb : q ≠ v (i + 1)) : ¬ On (v (i + t)) (v (i + t + 1)) q := by
  intro ho
  by_cases e1 : t = 1
  · subst e1
    exact fold_next hq ho hb (h.fold i)
  by_cases e2 : t + 1 = n
  · have e3 : v (i + t + 1) = v i := by rw [show i + t + 1 = i + n by omega, h.per]
    rw [e3] at ho
    have hf := h.fold (i + t)
    rw [e3, show i + t + 2 = i + 1 + n by omega, h.per] at hf
    exact fold_next ho hq ha hf
  · exact (h.sep i (i + t) (by omega) (by omega)).no (h.ne i) (h.ne (i + t)) hq ho
/-- A post lies on its two sides alone. -/
theorem Pen.post_alone (h : Pen n v) (k t : Nat) (h1 : 1 ≤ t) (h2 : t + 2 ≤ n) : ¬ On (v (k + t)) (v (k + t + 1)) (v k) := by
  intro ho
  by_cases e1 : t = 1
  · subst e1
    exact fold_next (On_left (v k) (v (k + 1))) ho (h.ne k) (h.fold k)
  · exact (h.sep k (k + t) (by omega) (by omega)).no (h.ne k) (h.ne (k + t)) (On_left _ _) ho
/-- A step from p to the nearest point q of the border, within a side. -/
theorem step_side (h : Pen n v) (i : Nat) {p q : V} (hq : On (v i) (v (i + 1)) q) (ha : q ≠ v i) (hb : q ≠ v (i + 1)) (hs : ∀ t, 1 ≤ t → t < n → Sep p q (v (i + t)) (v (i + t + 1))) (h0 : crs (vsub (v i) p) (vsub (v (i + 1)) p) ≠ 0) :
    tot n v p = rho n v + 2 ∨ tot n v p = rho n v - 2 := by
  have hn := h.n3
  obtain ⟨m, rfl⟩ : ∃ m, n = m + 3 := ⟨n - 3, by omega⟩
  have hm := rowW_move (p := p) (q := q) (v := v) (J := i + 1) (m + 2) (fun t ht => by
    have := hs (t + 1) (by omega) (by omega)
    rwa [show i + (t + 1) = i + 1 + t by omega] at this)
  rw [show i + 1 + (m + 2) = i + (m + 3) by omega, h.per] at hm
  have tp : tot (m + 3) v p = rowW p v (i + 1) (m + 2) + W (vsub (v i) p) (vsub (v (i + 1)) p) := by
    unfold tot
    rw [← rowW_all h.per (i + 1)]
    show rowW p v (i + 1) (m + 2 + 1) = _
    rw [rowW, show i + 1 + (m + 2) = i + (m + 3) by omega, show i + (m + 3) + 1 = i + 1 + (m + 3) by omega, h.per, h.per]
  have tq : tot (m + 3) v q = rowW q v (i + 1) (m + 2) := by
    unfold tot
    rw [← rowW_all h.per (i + 1)]
    show rowW q v (i + 1) (m + 2 + 1) = _
    rw [rowW, show i + 1 + (m + 2) = i + (m + 3) by omega, show i + (m + 3) + 1 = i + 1 + (m + 3) by omega, h.per, h.per]
    have z : W (vsub (v i) q) (vsub (v (i + 1)) q) = 0 := by
      apply W_par
      have := hq.1
      rw [turn_crs]
      exact this
    omega
  rw [tot_side h i hq ha hb] at tq
  obtain ⟨s0, s1⟩ := hq.strict ha hb
  have d1 : W (vsub (v (i + 1)) p) (vsub (v (i + 1)) q) = W (vsub (v (i + 1)) p) (vsub (v (i + 1)) (v i)) := W_dir_right (by
      have : crs (vsub (v (i + 1)) q) (vsub (v (i + 1)) (v i)) = - crs (vsub q (v i)) (vsub (v (i + 1)) q) := by unfold crs vsub; grind
      omega) (by
      have e : dt (vsub (v (i + 1)) q) (vsub (v (i + 1)) (v i)) = dt (vsub (v (i + 1)) q) (vsub (v (i + 1)) q) + dt (vsub q (v i)) (vsub (v (i + 1)) q) := by unfold dt vsub; grind
      have := sq_pos (vsub_ne hb)
      omega) _
  have d2 : W (vsub (v i) p) (vsub (v i) q) = W (vsub (v i) p) (vsub (v i) (v (i + 1))) := W_dir_right (by
      have : crs (vsub (v i) q) (vsub (v i) (v (i + 1))) = crs (vsub q (v i)) (vsub (v (i + 1)) q) := by unfold crs vsub; grind
      omega) (by
      have e : dt (vsub (v i) q) (vsub (v i) (v (i + 1))) = dt (vsub q (v i)) (vsub q (v i)) + dt (vsub q (v i)) (vsub (v (i + 1)) q) := by unfold dt vsub; grind
      have := sq_pos (vsub_ne ha.symm)
      omega) _
  have a1 : W (vsub (v (i + 1)) p) (vsub (v (i + 1)) (v i)) + W (vsub (v (i + 1)) (v i)) (vneg (vsub (v i) p)) = W (vsub (v (i + 1)) p) (vneg (vsub (v i) p)) := by
    have := W_add (vsub (v (i + 1)) p) (vneg (vsub (v i) p))
    have e : vadd (vsub (v (i + 1)) p) (vneg (vsub (v i) p)) = vsub (v (i + 1)) (v i) := by unfold vadd vneg vsub; exact Prod.ext (by simp only; omega) (by simp only; omega)
    rwa [e] at this
  have a2 := W_half (vsub (v i) p) (vsub (v (i + 1)) p)
  have a3 : W (vsub (v i) p) (vsub (v i) (v (i + 1))) = - W (vsub (v (i + 1)) (v i)) (vneg (vsub (v i) p)) := by
    rw [← W_anti, ← W_neg (vneg (vsub (v i) p))]
    congr 1
    · unfold vneg; exact Prod.ext (by simp only; omega) (by simp only; omega)
    · exact (vneg_sub _ _).symm
  rcases sign_one h0 with e | e <;> rw [e] at a2
  · left; omega
  · right; omega
set_option maxHeartbeats 4000000 in
/-- A step from p to the nearest point of the border, a post. p lies to the left of it. -/
theorem step_post (h : Pen n v) (k : Nat) {p : V} (hy : p.2 = (v (k + 1)).2) (hx : p.1 < (v (k + 1)).1) (hs : ∀ t, 1 ≤ t → t + 2 ≤ n → Sep p (v (k + 1)) (v (k + 1 + t)) (v (k + 1 + t + 1)))
    (ha : ¬ ((v k).2 = p.2 ∧ (v k).1 < (v (k + 1)).1)) (hb : ¬ ((v (k + 2)).2 = p.2 ∧ (v (k + 2)).1 < (v (k + 1)).1)) :
    tot n v p = rho n v + 2 ∨ tot n v p = rho n v - 2 := by
  have hn := h.n3
  obtain ⟨m, rfl⟩ : ∃ m, n = m + 3 := ⟨n - 3, by omega⟩
  have hm := rowW_move (p := p) (q := v (k + 1)) (v := v) (J := k + 2) (m + 1) (fun t ht => by
    have := hs (t + 1) (by omega) (by omega)
    rwa [show k + 1 + (t + 1) = k + 2 + t by omega] at this)
  rw [show k + 2 + (m + 1) = k + (m + 3) by omega, h.per] at hm
  have tp : tot (m + 3) v p = rowW p v (k + 2) (m + 1) + W (vsub (v k) p) (vsub (v (k + 1)) p) + W (vsub (v (k + 1)) p) (vsub (v (k + 2)) p) := by
    unfold tot
    rw [← rowW_all h.per (k + 2)]
    show rowW p v (k + 2) (m + 1 + 1 + 1) = _
    rw [rowW, rowW, show k + 2 + (m + 1) = k + (m + 3) by omega, show k + (m + 3) + 1 = k + 1 + (m + 3) by omega, show k + 2 + (m + 1 + 1) = k + 1 + (m + 3) by omega, show k + 1 + (m + 3) + 1 = k + 2 + (m + 3) by omega, h.per, h.per, h.per]
  have hl : look (m + 3) v (k + 1) = rowW (v (k + 1)) v (k + 2) (m + 1) := rfl
  have ht := look_tau h k
  have t1 := W_tri p (v (k + 1)) (v (k + 2))
  have t2 := W_tri p (v (k + 1)) (v k)
  have t3 := W_anti (vsub (v k) p) (vsub (v (k + 1)) p)
  have hf := h.fold k
  have n1 := h.ne k
  have n2 := h.ne (k + 1)
  have D : ∀ x, W (vsub (v (k + 1)) p) x = x.2.sign := fun x => by
    have e2 : (vsub (v (k + 1)) p).2 = 0 := by unfold vsub; simp only; omega
    have e1 : 0 < (vsub (v (k + 1)) p).1 := by unfold vsub; simp only; omega
    unfold W
    have : crs (vsub (v (k + 1)) p) x = (vsub (v (k + 1)) p).1 * x.2 := by unfold crs; rw [e2]; simp
    rw [this, e2, Int.sign_mul, Int.sign_eq_one_of_pos e1]
    rcases sign_cases x.2 with ⟨e, _⟩ | ⟨e, _⟩ | ⟨e, _⟩ <;> rw [e] <;> rfl
  have x1 := D (vsub (v (k + 2)) (v (k + 1)))
  have x2 := D (vsub (v k) (v (k + 1)))
  have hk : W (vsub (v (k + 1)) p) (vsub (v (k + 2)) (v (k + 1))) - W (vsub (v (k + 1)) p) (vsub (v k) (v (k + 1))) - tau v k = 2 ∨ W (vsub (v (k + 1)) p) (vsub (v (k + 2)) (v (k + 1))) - W (vsub (v (k + 1)) p) (vsub (v k) (v (k + 1))) - tau v k = -2 := by
    rw [x1, x2]
    unfold tau dv
    have ea : (vsub (v k) (v (k + 1))).2.sign = - (vsub (v (k + 1)) (v k)).2.sign := by rw [← Int.sign_neg]; unfold vsub; simp only; congr 1; omega
    rw [ea]
    show (vsub (v (k + 2)) (v (k + 1))).2.sign - -(vsub (v (k + 1)) (v k)).2.sign - W (vsub (v (k + 1)) (v k)) (vsub (v (k + 2)) (v (k + 1))) = 2 ∨ (vsub (v (k + 2)) (v (k + 1))).2.sign - -(vsub (v (k + 1)) (v k)).2.sign - W (vsub (v (k + 1)) (v k)) (vsub (v (k + 2)) (v (k + 1))) = -2
    have ga : ¬ ((vsub (v (k + 1)) (v k)).2 = 0 ∧ 0 < (vsub (v (k + 1)) (v k)).1) := by unfold vsub; simp only; omega
    have gb : ¬ ((vsub (v (k + 2)) (v (k + 1))).2 = 0 ∧ (vsub (v (k + 2)) (v (k + 1))).1 < 0) := by unfold vsub; simp only; omega
    have za := vsub_ne n1
    have zb := vsub_ne n2
    rw [show k + 1 + 1 = k + 2 by omega] at zb
    generalize vsub (v (k + 1)) (v k) = a at *
    generalize vsub (v (k + 2)) (v (k + 1)) = b at *
    obtain ⟨a1, a2⟩ := a
    obtain ⟨b1, b2⟩ := b
    have za' : ¬ (a1 = 0 ∧ a2 = 0) := fun e => za (by rw [e.1, e.2])
    have zb' : ¬ (b1 = 0 ∧ b2 = 0) := fun e => zb (by rw [e.1, e.2])
    have hanti := @anti_of (a1, a2) (b1, b2)
    have hc : crs (a1, a2) (b1, b2) = a1 * b2 - a2 * b1 := rfl
    have hdt : dt (a1, a2) (b1, b2) = a1 * b1 + a2 * b2 := rfl
    clear za zb D x1 x2 t1 t2 t3 hm tp ht hl
    unfold W
    simp only at *
    rw [hdt] at hf hanti
    obtain ⟨c, hcc⟩ : ∃ c, c = crs (a1, a2) (b1, b2) := ⟨_, rfl⟩
    rw [← hcc] at hf hanti hc ⊢
    have ms : ∀ x y : Int, 0 < x → ((0 < x * y ↔ 0 < y) ∧ (x * y < 0 ↔ y < 0)) := fun x y hx => by
      rcases Int.lt_trichotomy y 0 with h | h | h
      · have := Int.mul_neg_of_pos_of_neg hx h; omega
      · subst h; simp
      · have := Int.mul_pos hx h; omega
    have mn : ∀ x y : Int, x < 0 → ((0 < x * y ↔ y < 0) ∧ (x * y < 0 ↔ 0 < y)) := fun x y hx => by
      rcases Int.lt_trichotomy y 0 with h | h | h
      · have := Int.mul_pos_of_neg_of_neg hx h; omega
      · subst h; simp
      · have := Int.mul_neg_of_neg_of_pos hx h; omega
    have f1 : b2 = 0 → 0 < a2 → (0 < c ↔ b1 < 0) ∧ (c < 0 ↔ 0 < b1) := fun h g => by subst h; have := ms a2 b1 g; omega
    have f2 : b2 = 0 → a2 < 0 → (0 < c ↔ 0 < b1) ∧ (c < 0 ↔ b1 < 0) := fun h g => by subst h; have := mn a2 b1 g; omega
    have f3 : a2 = 0 → 0 < b2 → (0 < c ↔ 0 < a1) ∧ (c < 0 ↔ a1 < 0) := fun h g => by subst h; have := ms b2 a1 g; rw [Int.mul_comm] at this; omega
    have f4 : a2 = 0 → b2 < 0 → (0 < c ↔ a1 < 0) ∧ (c < 0 ↔ 0 < a1) := fun h g => by subst h; have := mn b2 a1 g; rw [Int.mul_comm] at this; omega
    have f5 : ¬ (a2 = 0 ∧ b2 = 0 ∧ a1 < 0 ∧ 0 < b1) := fun ⟨h, g, h1, h2⟩ => by
      subst h; subst g
      have := Int.mul_neg_of_neg_of_pos h1 h2
      exact hf ⟨by omega, by omega⟩
    have f6 : 0 < a2 → b2 < 0 → c ≠ 0 := fun h g e => hf ⟨e, by
      have := hanti e (Int.mul_neg_of_pos_of_neg h g)
      have m2 := Int.mul_neg_of_pos_of_neg h g
      refine Int.lt_iff_le_and_ne.2 ⟨this, fun e0 => ?_⟩
      have k1 : a1 * b1 + a2 * b2 = 0 := e0
      have k2 : (a1 * b1) * (a2 * b2) = (a1 * b2) * (a2 * b1) := by grind
      have k3 : a1 * b2 = a2 * b1 := by omega
      rw [k3] at k2
      have k4 : 0 ≤ (a2 * b1) * (a2 * b1) := by
        rcases Int.le_total 0 (a2 * b1) with h | h
        · exact Int.mul_nonneg h h
        · exact Int.mul_nonneg_of_nonpos_of_nonpos h h
      have k5 := Int.mul_neg_of_pos_of_neg (show 0 < a1 * b1 by omega) m2
      omega⟩
    have f7 : a2 < 0 → 0 < b2 → c ≠ 0 := fun h g e => hf ⟨e, by
      have := hanti e (Int.mul_neg_of_neg_of_pos h g)
      have m2 := Int.mul_neg_of_neg_of_pos h g
      refine Int.lt_iff_le_and_ne.2 ⟨this, fun e0 => ?_⟩
      have k1 : a1 * b1 + a2 * b2 = 0 := e0
      have k2 : (a1 * b1) * (a2 * b2) = (a1 * b2) * (a2 * b1) := by grind
      have k3 : a1 * b2 = a2 * b1 := by omega
      rw [k3] at k2
      have k4 : 0 ≤ (a2 * b1) * (a2 * b1) := by
        rcases Int.le_total 0 (a2 * b1) with h | h
        · exact Int.mul_nonneg h h
        · exact Int.mul_nonneg_of_nonpos_of_nonpos h h
      have k5 := Int.mul_neg_of_pos_of_neg (show 0 < a1 * b1 by omega) m2
      omega⟩
    clear ms mn hanti hf hc hcc hdt
    rcases sign_cases a2 with ⟨e1, g1⟩ | ⟨e1, g1⟩ | ⟨e1, g1⟩ <;> rcases sign_cases b2 with ⟨e2, g2⟩ | ⟨e2, g2⟩ | ⟨e2, g2⟩ <;> rcases sign_cases c with ⟨e3, g3⟩ | ⟨e3, g3⟩ | ⟨e3, g3⟩ <;> rw [e1, e2, e3] <;> omega
  have e2 : k + 1 + 1 = k + 2 := by omega
  simp only [e2] at *
  rcases hk with e | e
  · left; omega
  · right; omega
end Go.Proofs.Ytbpmiphipjkdlaa.Pk
