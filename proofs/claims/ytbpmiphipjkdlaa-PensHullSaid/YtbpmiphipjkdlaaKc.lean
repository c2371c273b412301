/- Plain: direction of a pen, points on sides. -/
import Derived.Test.YtbpmiphipjkdlaaKb
namespace Go.Proofs.Ytbpmiphipjkdlaa.Pk
variable {n : Nat} {v : Nat → V}
theorem dt_add (m a b : V) : dt m (vadd a b) = dt m a + dt m b := by unfold dt vadd; grind
theorem ne_of_dt {m a b : V} (h : 0 < dt m (vsub b a)) : a ≠ b := by
  rintro rfl
  rw [vsub_self] at h
  simp [dt] at h
/-- All posts are distinct. -/
theorem Pen.distinct (h : Pen n v) (i t : Nat) (h1 : 1 ≤ t) (h2 : t < n) : v i ≠ v (i + t) := by
  by_cases e1 : t = 1
  · subst e1; exact h.ne i
  by_cases e2 : t + 1 = n
  · have := h.ne (i + t)
    rw [show i + t + 1 = i + n by omega, h.per] at this
    exact this.symm
  · obtain ⟨m, ⟨h3, _⟩, _⟩ := h.sep i (i + t) (by omega) (by omega)
    exact ne_of_dt h3
theorem per_mod (hp : ∀ i, v (i + n) = v i) (j : Nat) : v (j % n) = v j := by
  have key : ∀ q r, v (r + n * q) = v r := by
    intro q
    induction q with
    | zero => intro r; rfl
    | succ q ih => intro r; rw [Nat.mul_succ, ← Nat.add_assoc, hp, ih]
  have := key (j / n) (j % n)
  rw [Nat.mod_add_div] at this
  exact this.symm
def lexle (p q : V) : Prop := p.2 < q.2 ∨ (p.2 = q.2 ∧ p.1 ≤ q.1)
theorem least_post (v : Nat → V) : ∀ m, ∃ k, ∀ j, j ≤ m → lexle (v k) (v j)
  | 0 => ⟨0, fun j hj => by
      have e : j = 0 := by omega
      rw [e]
      exact .inr ⟨rfl, Int.le_refl _⟩⟩
  | m + 1 => by
    obtain ⟨k, hk⟩ := least_post v m
    by_cases h : lexle (v k) (v (m + 1))
    · exact ⟨k, fun j hj => by
        by_cases e : j = m + 1
        · rw [e]; exact h
        · exact hk j (by omega)⟩
    · refine ⟨m + 1, fun j hj => ?_⟩
      by_cases e : j = m + 1
      · rw [e]; exact .inr ⟨rfl, Int.le_refl _⟩
      · have := hk j (by omega)
        unfold lexle at *
        omega
theorem great_num (f : Nat → Int) : ∀ m, ∃ K : Int, 0 < K ∧ ∀ j, j < m → -K < f j ∧ f j < K
  | 0 => ⟨1, by omega, fun j hj => by omega⟩
  | m + 1 => by
    obtain ⟨K, h0, hK⟩ := great_num f m
    refine ⟨K + (f m).natAbs + 1, by omega, fun j hj => ?_⟩
    by_cases e : j = m
    · rw [e]; omega
    · have := hK j (by omega); omega
theorem sign_one {x : Int} (h : x ≠ 0) : x.sign = 1 ∨ x.sign = -1 := by
  rcases sign_cases x with ⟨e, _⟩ | ⟨_, e⟩ | ⟨e, _⟩
  · exact .inl e
  · exact absurd e h
  · exact .inr e
/-- A pen goes around to the left or to the right. -/
theorem rho_two (h : Pen n v) : rho n v = 2 ∨ rho n v = -2 := by
  have hn := h.n3
  obtain ⟨k0, hk0⟩ := least_post v (n - 1)
  have hall : ∀ j, lexle (v k0) (v j) := fun j => by
    rw [← per_mod h.per j]
    exact hk0 _ (by have := Nat.mod_lt j (show 0 < n by omega); omega)
  obtain ⟨k, hk⟩ : ∃ k, v (k + 1) = v k0 := ⟨k0 + (n - 1), by rw [show k0 + (n - 1) + 1 = k0 + n by omega, h.per]⟩
  rw [← hk] at hall
  obtain ⟨K, hK0, hK⟩ := great_num (fun j => (vsub (v j) (v (k + 1))).1) n
  have hKa : ∀ j, -K < (vsub (v j) (v (k + 1))).1 ∧ (vsub (v j) (v (k + 1))).1 < K := fun j => by
    rw [← per_mod h.per j]
    exact hK _ (Nat.mod_lt j (show 0 < n by omega))
  have hpos : ∀ j, v j ≠ v (k + 1) → 0 < dt (1, K) (vsub (v j) (v (k + 1))) := by
    intro j hj
    have h1 := hall j
    have h2 := hKa j
    unfold lexle at h1
    have e : dt (1, K) (vsub (v j) (v (k + 1))) = (vsub (v j) (v (k + 1))).1 + K * (vsub (v j) (v (k + 1))).2 := by unfold dt; simp
    rw [e]
    rcases h1 with h1 | ⟨h1, h3⟩
    · have h4 : 1 ≤ (vsub (v j) (v (k + 1))).2 := by unfold vsub; simp only; omega
      have := Int.mul_le_mul_of_nonneg_left h4 (Int.le_of_lt hK0)
      omega
    · have h4 : (vsub (v j) (v (k + 1))).2 = 0 := by unfold vsub; simp only; omega
      rw [h4]
      have : (v j).1 ≠ (v (k + 1)).1 := fun e => hj (Prod.ext e (by omega))
      unfold vsub
      simp only
      omega
  have hd : ∀ t, 1 ≤ t → t < n → v (k + 1 + t) ≠ v (k + 1) := fun t h1 h2 => (h.distinct (k + 1) t h1 h2).symm
  have hrow : look n v (k + 1) = W (vsub (v (k + 1 + 1)) (v (k + 1))) (vsub (v (k + 1 + 1 + (n - 2))) (v (k + 1))) := by
    unfold look
    exact rowW_half (n := (1, K)) (n - 2) (fun t ht => hpos _ (by have := hd (1 + t) (by omega) (by omega); rwa [show k + 1 + (1 + t) = k + 1 + 1 + t by omega] at this))
  rw [show k + 1 + 1 + (n - 2) = k + n by omega, h.per] at hrow
  have ht := look_tau h k
  rw [hrow] at ht
  unfold tau dv at ht
  have e1 : vsub (v k) (v (k + 1)) = vneg (vsub (v (k + 1)) (v k)) := (vneg_sub _ _).symm
  rw [e1] at ht
  have hh := W_half (vsub (v (k + 1)) (v k)) (vsub (v (k + 1 + 1)) (v (k + 1)))
  have hne : crs (vsub (v (k + 1)) (v k)) (vsub (v (k + 1 + 1)) (v (k + 1))) ≠ 0 := by
    intro e0
    have p1 := hpos k (h.ne k)
    have p2 := hpos (k + 2) (h.ne (k + 1)).symm
    apply h.fold k
    refine ⟨e0, ?_⟩
    have id : dt (1, K) (vsub (v (k + 2)) (v (k + 1))) * dt (vsub (v (k + 1)) (v k)) (vsub (v (k + 1)) (v k)) = - (dt (1, K) (vsub (v k) (v (k + 1))) * dt (vsub (v (k + 1)) (v k)) (vsub (v (k + 2)) (v (k + 1)))) + crs (vsub (v (k + 1)) (v k)) (vsub (v (k + 2)) (v (k + 1))) * crs (vsub (v (k + 1)) (v k)) (1, K) := by
      unfold dt crs vsub; grind
    rw [e0, Int.zero_mul, Int.add_zero] at id
    have q := Int.mul_pos p2 (sq_pos (vsub_ne (h.ne k)))
    apply Int.not_le.1
    intro hc
    have := Int.mul_nonneg (Int.le_of_lt p1) hc
    omega
  rcases sign_one hne with e | e <;> rw [e] at hh <;> omega
/-- Turns depend on directions alone. -/
theorem W_dir {a b : V} (h0 : crs a b = 0) (h1 : 0 < dt a b) (x : V) : W a x = W b x := by
  have hb : b ≠ (0, 0) := by
    rintro rfl
    simp [dt] at h1
  have hbb := sq_pos hb
  have e1 : dt b b * a.2 = dt a b * b.2 + crs a b * (-b.1) := by unfold dt crs; grind
  have e2 : dt b b * crs a x = dt a b * crs b x + crs a b * dt b x := by unfold dt crs; grind
  rw [h0, Int.zero_mul, Int.add_zero] at e1 e2
  have s1 := congrArg Int.sign e1
  have s2 := congrArg Int.sign e2
  simp only [Int.sign_mul, Int.sign_eq_one_of_pos hbb, Int.sign_eq_one_of_pos h1, Int.one_mul] at s1 s2
  unfold W
  rw [s1, s2]
theorem W_dir_right {a b : V} (h0 : crs a b = 0) (h1 : 0 < dt a b) (x : V) : W x a = W x b := by
  rw [W_anti a x, W_anti b x, W_dir h0 h1 x]
theorem On.rangeA {a b p : V} (h : On a b p) : 0 ≤ dt (vsub b a) (vsub p a) ∧ dt (vsub b a) (vsub p a) ≤ dt (vsub b a) (vsub b a) := by
  obtain ⟨h0, h1⟩ := h
  have h0' : crs (vsub b a) (vsub p a) = 0 := (crs_ab a b p).trans h0
  have key : dt (vsub b a) (vsub b a) * dt (vsub p a) (vsub p b) = dt (vsub b a) (vsub p a) * (dt (vsub b a) (vsub p a) - dt (vsub b a) (vsub b a)) + crs (vsub b a) (vsub p a) * crs (vsub b a) (vsub p b) := by unfold dt crs vsub; grind
  rw [h0', Int.zero_mul, Int.add_zero] at key
  by_cases hab : a = b
  · subst hab
    have : vsub a a = (0, 0) := vsub_self a
    rw [this]
    simp [dt]
  have hp := sq_pos (vsub_ne hab)
  obtain ⟨x, hx⟩ : ∃ x, x = dt (vsub b a) (vsub p a) := ⟨_, rfl⟩
  obtain ⟨s, hs⟩ : ∃ s, s = dt (vsub b a) (vsub b a) := ⟨_, rfl⟩
  rw [← hx, ← hs] at key
  rw [← hs] at hp
  rw [← hx, ← hs]
  have hle : x * (x - s) ≤ 0 := by
    rw [← key]
    have := Int.mul_nonneg (Int.le_of_lt hp) (show 0 ≤ -dt (vsub p a) (vsub p b) by omega)
    rw [Int.mul_neg] at this
    omega
  constructor
  · apply Int.not_lt.1
    intro hneg
    have := Int.mul_pos_of_neg_of_neg hneg (show x - s < 0 by omega)
    omega
  · apply Int.not_lt.1
    intro hgt
    have := Int.mul_pos (show 0 < x by omega) (show 0 < x - s by omega)
    omega
/-- A line that parts two sides parts a piece of the first one from the second one. -/
theorem Sep.part {a b c d p : V} (h : Sep a b c d) (hp : On a b p) (hab : a ≠ b) : Sep a p c d := by
  obtain ⟨m, ⟨h1, h2⟩, h3, h4⟩ := h
  obtain ⟨r1, r2⟩ := hp.rangeA
  have h0 : crs (vsub b a) (vsub p a) = 0 := (crs_ab a b p).trans hp.1
  have hbb := sq_pos (vsub_ne hab)
  have key : ∀ x, dt (vsub b a) (vsub b a) * dt m (vsub x p) = (dt (vsub b a) (vsub b a) - dt (vsub b a) (vsub p a)) * dt m (vsub x a) + dt (vsub b a) (vsub p a) * dt m (vsub x b) + crs (vsub b a) (vsub p a) * crs m (vsub b a) := fun x => by unfold dt crs vsub; grind
  have pos : ∀ x, 0 < dt m (vsub x a) → 0 < dt m (vsub x b) → 0 < dt m (vsub x p) := by
    intro x hx hy
    have k := key x
    rw [h0, Int.zero_mul, Int.add_zero] at k
    obtain ⟨s, hs⟩ : ∃ s, s = dt (vsub b a) (vsub b a) := ⟨_, rfl⟩
    obtain ⟨al, hal⟩ : ∃ al, al = dt (vsub b a) (vsub p a) := ⟨_, rfl⟩
    rw [← hs, ← hal] at k
    rw [← hs] at hbb
    rw [← hs, ← hal] at r2
    rw [← hal] at r1
    have q1 := Int.mul_nonneg (show 0 ≤ s - al by omega) (Int.le_of_lt hx)
    have q2 := Int.mul_nonneg r1 (Int.le_of_lt hy)
    have q3 : 0 < s * dt m (vsub x p) := by
      rw [k]
      by_cases e : al = 0
      · subst e
        have := Int.mul_pos hbb hx
        simp only [Int.sub_zero, Int.zero_mul, Int.add_zero]
        exact this
      · have := Int.mul_pos (show 0 < al by omega) hy
        omega
    apply Int.not_le.1
    intro hc
    have := Int.mul_nonneg (Int.le_of_lt hbb) (show 0 ≤ -dt m (vsub x p) by omega)
    rw [Int.mul_neg] at this
    omega
  exact ⟨m, ⟨h1, h2⟩, pos c h1 h3, pos d h2 h4⟩
/-- Strictly between: both ways lead in one direction. -/
theorem On.strict {a b p : V} (h : On a b p) (hpa : p ≠ a) (hpb : p ≠ b) : crs (vsub p a) (vsub b p) = 0 ∧ 0 < dt (vsub p a) (vsub b p) := by
  obtain ⟨h0, h1⟩ := h
  have e1 : crs (vsub p a) (vsub b p) = - crs (vsub b a) (vsub p b) := by unfold crs vsub; grind
  have e2 : dt (vsub p a) (vsub b p) = - dt (vsub p a) (vsub p b) := by unfold dt vsub; grind
  refine ⟨by omega, ?_⟩
  rw [e2]
  have hp := sq_pos (vsub_ne hpa.symm)
  have hq := sq_pos (vsub_ne hpb.symm)
  have h0' : crs (vsub p a) (vsub p b) = 0 := by
    have : crs (vsub p a) (vsub p b) = crs (vsub b a) (vsub p b) := by unfold crs vsub; grind
    omega
  have key : dt (vsub p a) (vsub p b) * dt (vsub p a) (vsub p b) = dt (vsub p a) (vsub p a) * dt (vsub p b) (vsub p b) - crs (vsub p a) (vsub p b) * crs (vsub p a) (vsub p b) := by unfold dt crs; grind
  rw [h0', Int.zero_mul, Int.sub_zero] at key
  have := Int.mul_pos hp hq
  have hne : dt (vsub p a) (vsub p b) ≠ 0 := fun e => by
    rw [e, Int.zero_mul] at key
    omega
  omega
theorem W_par {a b : V} (h : crs a b = 0) : W a b = 0 := by unfold W; rw [h]; simp
/-- On a side, away from its posts. -/
theorem tot_side (h : Pen n v) (i : Nat) {p : V} (hp : On (v i) (v (i + 1)) p) (h1 : p ≠ v i) (h2 : p ≠ v (i + 1)) : tot n v p = rho n v := by
  have hn := h.n3
  obtain ⟨m, rfl⟩ : ∃ m, n = m + 3 := ⟨n - 3, by omega⟩
  obtain ⟨s0, s1⟩ := hp.strict h1 h2
  have hlk : look (m + 3) v (i + (m + 3)) + tau v (i + (m + 2)) = rho (m + 3) v := look_tau h (i + (m + 2))
  rw [look_per h] at hlk
  have ht : tau v (i + (m + 2)) = W (vsub (v i) (v (i + (m + 2)))) (vsub (v (i + 1)) (v i)) := by
    unfold tau dv
    rw [show i + (m + 2) + 1 = i + (m + 3) by omega, show i + (m + 3) + 1 = i + 1 + (m + 3) by omega, h.per, h.per]
  rw [ht] at hlk
  unfold tot
  rw [← rowW_all h.per (i + 1)]
  show rowW p v (i + 1) (m + 1 + 1 + 1) = rho (m + 3) v
  rw [rowW, rowW, Nat.add_comm (i + 1) (m + 1)]
  have e1 : m + 1 + (i + 1) = i + (m + 2) := by omega
  have e2 : i + 1 + (m + 1 + 1) = i + (m + 3) := by omega
  have e3 : i + (m + 3) + 1 = i + 1 + (m + 3) := by omega
  rw [e1, e2, e3, h.per, h.per, show i + (m + 2) + 1 = i + (m + 3) by omega, h.per]
  rw [show m + 1 = m + 1 from rfl, rowW_first]
  have hm := rowW_move (p := v i) (q := p) (v := v) (J := i + 1 + 1) m (fun t ht => (h.sep i (i + 1 + 1 + t) (by omega) (by omega)).part hp (h.ne i))
  rw [show i + 1 + 1 + m = i + (m + 2) by omega] at hm
  have hl : look (m + 3) v i = W (vsub (v (i + 1)) (v i)) (vsub (v (i + 2)) (v i)) + rowW (v i) v (i + 1 + 1) m := by
    unfold look
    rw [show m + 3 - 2 = m + 1 by omega, rowW_first]
  have z : W (vsub (v i) p) (vsub (v (i + 1)) p) = 0 := by
    apply W_par
    have : crs (vsub (v i) p) (vsub (v (i + 1)) p) = - crs (vsub p (v i)) (vsub (v (i + 1)) p) := by unfold crs vsub; grind
    omega
  -- at the two ends
  have d1 : ∀ x, W (vsub (v (i + 1)) (v i)) x = W (vsub p (v i)) x := fun x => (W_dir (a := vsub p (v i)) (b := vsub (v (i + 1)) (v i)) (by
      have : crs (vsub p (v i)) (vsub (v (i + 1)) (v i)) = crs (vsub p (v i)) (vsub (v (i + 1)) p) := by unfold crs vsub; grind
      omega) (by
      have e : dt (vsub p (v i)) (vsub (v (i + 1)) (v i)) = dt (vsub p (v i)) (vsub p (v i)) + dt (vsub p (v i)) (vsub (v (i + 1)) p) := by unfold dt vsub; grind
      have := sq_pos (vsub_ne h1.symm)
      omega) x).symm
  have d2 : ∀ x, W (vsub (v (i + 1)) p) x = W (vsub p (v i)) x := fun x => (W_dir s0 s1 x).symm
  have t1 := W_tri (v i) p (v (i + 2))
  have t2 : W (vsub (v (i + (m + 2))) (v i)) (vsub (v (i + (m + 2))) p) + W (vsub (v (i + (m + 2))) p) (vsub (v i) p) = W (vsub (v (i + (m + 2))) (v i)) (vsub (v i) p) := by
    have := W_tri (v (i + (m + 2))) (v i) p
    rw [W_back (v (i + (m + 2))) (v i) (v (i + (m + 2))) p, W_back (v (i + (m + 2))) p (v i) p, W_back (v (i + (m + 2))) (v i) (v i) p]
    exact this
  have t3 : W (vsub (v (i + (m + 2))) (v i)) (vsub (v i) p) = W (vsub (v i) (v (i + (m + 2)))) (vsub (v (i + 1)) (v i)) := by
    rw [W_back, W_anti, ← d1, ← W_anti]
  have x1 := d1 (vsub (v (i + 2)) (v i))
  have x2 := d2 (vsub (v (i + 2)) p)
  have e6 : i + 1 + 1 = i + 2 := by omega
  simp only [e6] at *
  omega
end Go.Proofs.Ytbpmiphipjkdlaa.Pk
