/- Plain: off the border. -/
import Derived.Test.YtbpmiphipjkdlaaKe
namespace Go.Proofs.Ytbpmiphipjkdlaa.Pk
variable {n : Nat} {v : Nat → V}
theorem mul_nonpos_of {x y : Int} (hx : 0 ≤ x) (hy : y ≤ 0) : x * y ≤ 0 := by
  have := Int.mul_nonneg hx (show 0 ≤ -y by omega)
  rw [Int.mul_neg] at this
  omega
theorem crs_row {d q : V} {a : V} (x y : Int) : crs d (vsub (x, y) a) - crs d (vsub (q.1, y) a) = - (d.2 * (x - q.1)) := by unfold crs vsub; simp only; grind
/-- A crossing to the right of p is a hit of the ray. -/
theorem cr_hit {a b p : V} (hw : Whole a b p) (hc : cr a b p ≠ 0) : ∃ x, p.1 < x ∧ On a b (x, p.2) := by
  have ht := turn_crs a b p
  rw [← crs_ab] at ht
  by_cases h1 : a.2 ≤ p.2 ∧ p.2 < b.2 ∧ 0 < crs (vsub a p) (vsub b p)
  · obtain ⟨x, hx, h0⟩ := hit_of hw (by omega) (mul_nonpos_of (by omega) (by omega))
    refine ⟨x, ?_, hx⟩
    have := crs_row (d := vsub b a) (q := p) (a := a) x p.2
    rw [h0, show (p.1, p.2) = p from rfl] at this
    have h2 : 0 < (vsub b a).2 * (x - p.1) := by omega
    have h3 : 0 < (vsub b a).2 := by unfold vsub; simp only; omega
    rcases same_of_mul_pos h2 with h | h <;> omega
  · by_cases h2 : b.2 ≤ p.2 ∧ p.2 < a.2 ∧ crs (vsub a p) (vsub b p) < 0
    · obtain ⟨x, hx, h0⟩ := hit_of hw (by omega) (by
        have := mul_nonpos_of (x := p.2 - b.2) (y := p.2 - a.2) (by omega) (by omega)
        rw [Int.mul_comm] at this
        exact this)
      refine ⟨x, ?_, hx⟩
      have := crs_row (d := vsub b a) (q := p) (a := a) x p.2
      rw [h0, show (p.1, p.2) = p from rfl] at this
      have h4 : (vsub b a).2 * (x - p.1) < 0 := by omega
      have h3 : (vsub b a).2 < 0 := by unfold vsub; simp only; omega
      rcases neg_mul_between h4 with h | h <;> omega
    · exfalso
      apply hc
      unfold cr
      rw [if_neg h1, if_neg h2]
theorem crSum_zero {p : V} (J : Nat) : ∀ m, (∀ t, t < m → cr (v (J + t)) (v (J + t + 1)) p = 0) → crSum p v J m = 0
  | 0, _ => rfl
  | m + 1, h => by rw [crSum, crSum_zero J m (fun t ht => h t (by omega)), h m (by omega)]; rfl
theorem On_row {a b : V} {y x : Int} (ha : a.2 = y) (hb : b.2 = y) (h : (a.1 ≤ x ∧ x ≤ b.1) ∨ (b.1 ≤ x ∧ x ≤ a.1)) : On a b (x, y) := by
  constructor
  · unfold crs vsub; simp only; rw [ha, hb]; simp
  · have e : dt (vsub (x, y) a) (vsub (x, y) b) = (x - a.1) * (x - b.1) := by unfold dt vsub; simp only; rw [ha, hb]; simp
    rw [e]
    rcases h with h | h
    · exact mul_nonpos_of (by omega) (by omega)
    · rw [Int.mul_comm]; exact mul_nonpos_of (by omega) (by omega)
/-- A side without q is parted from the way from p to the nearest q. -/
theorem sep_near {a b p q : V} (hab : a ≠ b) (hw : Whole a b p) (hy : q.2 = p.2) (hx : p.1 < q.1) (hnear : ∀ x, p.1 ≤ x → x < q.1 → ¬ On a b (x, p.2)) (hq : ¬ On a b q) : Sep p q a b := by
  have hpq : ∀ c, On p q c → c.2 = p.2 ∧ p.1 ≤ c.1 ∧ c.1 ≤ q.1 := by
    rintro c ⟨h0, h1⟩
    have e0 : crs (vsub q p) (vsub c q) = (q.1 - p.1) * (c.2 - p.2) := by unfold crs vsub; simp only; rw [hy]; simp
    rw [e0] at h0
    have hc : c.2 = p.2 := by rcases Int.mul_eq_zero.1 h0 with h | h <;> omega
    have e1 : dt (vsub c p) (vsub c q) = (c.1 - p.1) * (c.1 - q.1) := by unfold dt vsub; simp only; rw [hy, hc]; simp
    rw [e1] at h1
    refine ⟨hc, ?_, ?_⟩
    · apply Int.not_lt.1
      intro h
      have := Int.mul_pos_of_neg_of_neg (show c.1 - p.1 < 0 by omega) (show c.1 - q.1 < 0 by omega)
      omega
    · apply Int.not_lt.1
      intro h
      have := Int.mul_pos (show 0 < c.1 - p.1 by omega) (show 0 < c.1 - q.1 by omega)
      omega
  have hpost : ∀ c, On a b c → ¬ On p q c := by
    intro c hc h
    obtain ⟨h1, h2, h3⟩ := hpq c h
    have hcq : c ≠ q := fun e => hq (by rw [← e]; exact hc)
    have : c.1 ≠ q.1 := fun e => hcq (Prod.ext e (by omega))
    exact hnear c.1 h2 (by omega) (by rw [← h1]; exact hc)
  refine sep_of ?_ hab (hpost a (On_left a b)) (hpost b (On_right a b)) (hnear p.1 (Int.le_refl _) hx) hq ?_
  · rintro rfl; omega
  · rintro ⟨h1, h2⟩
    have e1 : ∀ c : V, crs (vsub q p) (vsub c q) = (q.1 - p.1) * (c.2 - p.2) := fun c => by unfold crs vsub; simp only; rw [hy]; simp
    rw [e1, e1] at h1
    have hh : (a.2 - p.2) * (b.2 - p.2) < 0 := by
      have e : (q.1 - p.1) * (a.2 - p.2) * ((q.1 - p.1) * (b.2 - p.2)) = ((q.1 - p.1) * (q.1 - p.1)) * ((a.2 - p.2) * (b.2 - p.2)) := by grind
      rw [e] at h1
      have := Int.mul_pos (show 0 < q.1 - p.1 by omega) (show 0 < q.1 - p.1 by omega)
      rcases neg_mul_between h1 with h | h <;> omega
    have hh2 : (p.2 - a.2) * (p.2 - b.2) ≤ 0 := by
      have e : (p.2 - a.2) * (p.2 - b.2) = (a.2 - p.2) * (b.2 - p.2) := by grind
      omega
    have hne : a.2 ≠ b.2 := by
      rcases neg_mul_between hh with h | h <;> omega
    obtain ⟨x, hx0, h0⟩ := hit_of hw hne hh2
    have h0' : crs (vsub b a) (vsub (x, p.2) b) = 0 := hx0.1
    have r1 := crs_row (d := vsub b a) (q := p) (a := b) x p.2
    have r2 := crs_row (d := vsub b a) (q := q) (a := b) x p.2
    rw [h0', show (p.1, p.2) = p from rfl] at r1
    rw [h0', show (q.1, p.2) = q from Prod.ext rfl hy.symm] at r2
    have k : crs (vsub b a) (vsub p b) * crs (vsub b a) (vsub q b) = ((vsub b a).2 * (vsub b a).2) * ((x - p.1) * (x - q.1)) := by
      have k1 : crs (vsub b a) (vsub p b) = (vsub b a).2 * (x - p.1) := by omega
      have k2 : crs (vsub b a) (vsub q b) = (vsub b a).2 * (x - q.1) := by omega
      rw [k1, k2]
      grind
    rw [k] at h2
    have hd : 0 < (vsub b a).2 * (vsub b a).2 := by
      rcases Int.lt_or_gt_of_ne (show (vsub b a).2 ≠ 0 by unfold vsub; simp only; omega) with h | h
      · exact Int.mul_pos_of_neg_of_neg h h
      · exact Int.mul_pos h h
    have h3 : (x - p.1) * (x - q.1) < 0 := by
      rcases neg_mul_between h2 with h | h <;> omega
    have h4 : p.1 < x ∧ x < q.1 := by
      rcases neg_mul_between h3 with h | h <;> omega
    exact hnear x (by omega) h4.2 hx0
theorem tot_whole (h : Pen n v) {p : V} (hoff : ∀ i, ¬ On (v i) (v (i + 1)) p) (hw : ∀ i, Whole (v i) (v (i + 1)) p) : tot n v p = 0 ∨ tot n v p = rho n v + 2 ∨ tot n v p = rho n v - 2 := by
  have hn := h.n3
  by_cases hex : ∃ i x, p.1 < x ∧ On (v i) (v (i + 1)) (x, p.2)
  · right
    obtain ⟨i0, x0, hx0, ho0⟩ := hex
    obtain ⟨t, ⟨i, hi⟩, _, hmin⟩ := least_nat (P := fun t : Nat => ∃ i, On (v i) (v (i + 1)) (p.1 + t, p.2)) (x0 - p.1).toNat ⟨i0, by rw [show p.1 + ((x0 - p.1).toNat : Int) = x0 by omega]; exact ho0⟩
    have ht : t ≠ 0 := by
      rintro rfl
      simp only [Int.natCast_zero, Int.add_zero] at hi
      exact hoff i hi
    obtain ⟨q, hq⟩ : ∃ q : V, q = (p.1 + (t : Int), p.2) := ⟨_, rfl⟩
    rw [← hq] at hi
    have hqx : p.1 < q.1 := by rw [hq]; simp only; omega
    have hqy : q.2 = p.2 := by rw [hq]
    have hnear : ∀ j x, p.1 ≤ x → x < q.1 → ¬ On (v j) (v (j + 1)) (x, p.2) := fun j x h1 h2 ho => by
      refine hmin (x - p.1).toNat (by rw [hq] at h2; simp only at h2; omega) ⟨j, ?_⟩
      rw [show p.1 + ((x - p.1).toNat : Int) = x by omega]
      exact ho
    have hsep : ∀ j, ¬ On (v j) (v (j + 1)) q → Sep p q (v j) (v (j + 1)) := fun j hj => sep_near (h.ne j) (hw j) hqy hqx (hnear j) hj
    have hpost : ∀ k, v (k + 1) = q → tot n v p = rho n v + 2 ∨ tot n v p = rho n v - 2 := by
      intro k hk
      refine step_post h k (by rw [hk]; exact hqy.symm) (by rw [hk]; exact hqx) (fun t h1 h2 => ?_) ?_ ?_
      · rw [hk]
        refine hsep _ ?_
        rw [← hk]
        exact h.post_alone (k + 1) t h1 h2
      · rintro ⟨h1, h2⟩
        rw [hk] at h2
        by_cases h3 : p.1 ≤ (v k).1
        · refine hnear k _ h3 h2 ?_
          rw [show ((v k).1, p.2) = v k from Prod.ext rfl h1.symm]
          exact On_left _ _
        · refine hoff k ?_
          have := On_row (a := v k) (b := v (k + 1)) (y := p.2) (x := p.1) h1 (by rw [hk]; exact hqy) (.inl (by rw [hk]; omega))
          exact this
      · rintro ⟨h1, h2⟩
        rw [hk] at h2
        by_cases h3 : p.1 ≤ (v (k + 2)).1
        · refine hnear (k + 1) _ h3 h2 ?_
          rw [show ((v (k + 2)).1, p.2) = v (k + 2) from Prod.ext rfl h1.symm]
          exact On_right _ _
        · refine hoff (k + 1) ?_
          have := On_row (a := v (k + 1)) (b := v (k + 1 + 1)) (y := p.2) (x := p.1) (by rw [hk]; exact hqy) h1 (.inr (by rw [hk]; rw [show k + 1 + 1 = k + 2 by omega]; omega))
          exact this
    by_cases e1 : v (i + 1) = q
    · exact hpost i e1
    by_cases e2 : v i = q
    · refine hpost (i + (n - 1)) ?_
      rw [show i + (n - 1) + 1 = i + n by omega, h.per]
      exact e2
    refine step_side h i hi (Ne.symm e2) (Ne.symm e1) (fun t h1 h2 => hsep _ (h.alone i t h1 h2 hi (Ne.symm e2) (Ne.symm e1))) ?_
    intro hz
    rw [turn_crs] at hz
    have hz2 := hi.1
    have hd : (vsub (v (i + 1)) (v i)).2 = 0 := by
      have : crs (vsub (v (i + 1)) (v i)) (vsub q (v (i + 1))) - crs (vsub (v (i + 1)) (v i)) (vsub p (v (i + 1))) = - ((vsub (v (i + 1)) (v i)).2 * (q.1 - p.1)) := by unfold crs vsub; simp only; rw [hqy]; grind
      have h0 : (vsub (v (i + 1)) (v i)).2 * (q.1 - p.1) = 0 := by omega
      rcases Int.mul_eq_zero.1 h0 with h | h
      · exact h
      · omega
    have hd' : (v (i + 1)).2 = (v i).2 := by unfold vsub at hd; simp only at hd; omega
    have hne1 : (v i).1 ≠ (v (i + 1)).1 := fun e => h.ne i (Prod.ext e hd'.symm)
    have hy1 : (v (i + 1)).2 = p.2 := by
      have : crs (vsub (v (i + 1)) (v i)) (vsub q (v (i + 1))) = ((v (i + 1)).1 - (v i).1) * (q.2 - (v (i + 1)).2) := by unfold crs vsub; simp only; rw [hd']; simp
      rw [this] at hz2
      rcases Int.mul_eq_zero.1 hz2 with h | h <;> omega
    have hy0 : (v i).2 = p.2 := by omega
    have hbt := hi.2
    have e3 : dt (vsub q (v i)) (vsub q (v (i + 1))) = (q.1 - (v i).1) * (q.1 - (v (i + 1)).1) := by unfold dt vsub; simp only; rw [hqy, hy0, hy1]; simp
    rw [e3] at hbt
    have n1 : q.1 ≠ (v i).1 := fun e => e2 (Prod.ext e.symm (by omega))
    have n2 : q.1 ≠ (v (i + 1)).1 := fun e => e1 (Prod.ext e.symm (by omega))
    have hlt : (q.1 - (v i).1) * (q.1 - (v (i + 1)).1) < 0 := by
      refine Int.lt_iff_le_and_ne.2 ⟨hbt, fun e => ?_⟩
      rcases Int.mul_eq_zero.1 e with h | h <;> omega
    -- the post to the left of q
    rcases neg_mul_between hlt with ⟨g1, g2⟩ | ⟨g1, g2⟩
    · by_cases h3 : p.1 ≤ (v (i + 1)).1
      · refine hnear i _ h3 (by omega) ?_
        rw [show ((v (i + 1)).1, p.2) = v (i + 1) from Prod.ext rfl hy1.symm]
        exact On_right _ _
      · exact hoff i (On_row (x := p.1) hy0 hy1 (.inr (by omega)))
    · by_cases h3 : p.1 ≤ (v i).1
      · refine hnear i _ h3 (by omega) ?_
        rw [show ((v i).1, p.2) = v i from Prod.ext rfl hy0.symm]
        exact On_left _ _
      · exact hoff i (On_row (x := p.1) hy0 hy1 (.inl (by omega)))
  · left
    rw [tot_cr h.per hoff, crSum_zero 0 n (fun t _ => ?_)]
    · rfl
    · apply Classical.byContradiction
      intro hc
      obtain ⟨x, h1, h2⟩ := cr_hit (hw _) hc
      exact hex ⟨_, x, h1, h2⟩
/-- A pen, times as great. -/
def sc (N : Int) (p : V) : V := (N * p.1, N * p.2)
theorem sc_sub (N : Int) (a b : V) : vsub (sc N a) (sc N b) = sc N (vsub a b) := by unfold vsub sc; exact Prod.ext (by simp only; rw [Int.mul_sub]) (by simp only; rw [Int.mul_sub])
theorem sc_crs (N : Int) (a b : V) : crs (sc N a) (sc N b) = N * N * crs a b := by unfold crs sc; grind
theorem sc_dt (N : Int) (a b : V) : dt (sc N a) (sc N b) = N * N * dt a b := by unfold dt sc; grind
theorem sc_dt1 (N : Int) (a b : V) : dt a (sc N b) = N * dt a b := by unfold dt sc; grind
theorem pos_iff {k x : Int} (hk : 0 < k) : (0 < k * x ↔ 0 < x) ∧ (k * x = 0 ↔ x = 0) ∧ (k * x < 0 ↔ x < 0) := by
  rcases Int.lt_trichotomy x 0 with h | h | h
  · have := Int.mul_neg_of_pos_of_neg hk h; omega
  · subst h; simp
  · have := Int.mul_pos hk h; omega
theorem sc_W {N : Int} (hN : 0 < N) (a b : V) : W (sc N a) (sc N b) = W a b := by
  unfold W
  rw [sc_crs]
  have h2 := Int.mul_pos hN hN
  unfold sc
  simp only [Int.sign_mul, Int.sign_eq_one_of_pos hN, Int.one_mul]
theorem sc_On {N : Int} (hN : 0 < N) {a b p : V} : On (sc N a) (sc N b) (sc N p) ↔ On a b p := by
  unfold On
  rw [sc_sub, sc_sub, sc_sub, sc_crs, sc_dt]
  have h2 := Int.mul_pos hN hN
  have h3 := pos_iff (x := crs (vsub b a) (vsub p b)) h2
  have h4 := pos_iff (x := dt (vsub p a) (vsub p b)) h2
  omega
theorem sc_pen {N : Int} (hN : 0 < N) (h : Pen n v) : Pen n (fun i => sc N (v i)) := by
  have hNN := Int.mul_pos hN hN
  refine ⟨h.n3, fun i => by simp only [h.per], fun i e => ?_, fun i => ?_, fun i j h1 h2 => ?_⟩
  · have e1 := congrArg Prod.fst e
    have e2 := congrArg Prod.snd e
    unfold sc at e1 e2
    simp only at e1 e2
    exact h.ne i (Prod.ext (Int.eq_of_mul_eq_mul_left (by omega) e1) (Int.eq_of_mul_eq_mul_left (by omega) e2))
  · have := h.fold i
    simp only [sc_sub, sc_crs, sc_dt]
    have h3 := pos_iff (x := crs (vsub (v (i + 1)) (v i)) (vsub (v (i + 2)) (v (i + 1)))) hNN
    have h4 := pos_iff (x := dt (vsub (v (i + 1)) (v i)) (vsub (v (i + 2)) (v (i + 1)))) hNN
    omega
  · obtain ⟨m, ⟨q1, q2⟩, q3, q4⟩ := h.sep i j h1 h2
    refine ⟨m, ⟨?_, ?_⟩, ?_, ?_⟩ <;> simp only [sc_sub, sc_dt1]
    · exact Int.mul_pos hN q1
    · exact Int.mul_pos hN q2
    · exact Int.mul_pos hN q3
    · exact Int.mul_pos hN q4
theorem sc_rowW {N : Int} (hN : 0 < N) (p : V) (J : Nat) : ∀ m, rowW (sc N p) (fun i => sc N (v i)) J m = rowW p v J m
  | 0 => rfl
  | m + 1 => by rw [rowW, rowW, sc_rowW hN p J m, sc_sub, sc_sub, sc_W hN]
theorem sc_rho {N : Int} (hN : 0 < N) : rho n (fun i => sc N (v i)) = rho n v := by
  unfold rho look tau dv
  rw [sc_rowW hN, sc_sub, sc_sub, sc_W hN]
theorem common (f : Nat → Int) : ∀ m, ∃ N : Int, 0 < N ∧ ∀ j, j < m → f j ≠ 0 → f j ∣ N
  | 0 => ⟨1, by omega, fun j hj => by omega⟩
  | m + 1 => by
    obtain ⟨N, h0, hN⟩ := common f m
    by_cases e : f m = 0
    · refine ⟨N, h0, fun j hj hf => ?_⟩
      by_cases e2 : j = m
      · rw [e2] at hf; exact absurd e hf
      · exact hN j (by omega) hf
    · refine ⟨N * (f m).natAbs, Int.mul_pos h0 (by omega), fun j hj hf => ?_⟩
      by_cases e2 : j = m
      · rw [e2]
        exact Int.dvd_trans (Int.dvd_natAbs_self) (Int.dvd_mul_left _ _)
      · exact Int.dvd_trans (hN j (by omega) hf) (Int.dvd_mul_right _ _)
/-- Off the border a pen's turns are none or twice its direction. -/
theorem tot_off (h : Pen n v) {p : V} (hoff : ∀ i, ¬ On (v i) (v (i + 1)) p) : tot n v p = 0 ∨ tot n v p = 2 * rho n v := by
  have hn := h.n3
  obtain ⟨N, hN0, hN⟩ := common (fun j => (v (j + 1)).2 - (v j).2) n
  have hNa : ∀ j, (v (j + 1)).2 - (v j).2 ≠ 0 → (v (j + 1)).2 - (v j).2 ∣ N := fun j hj => by
    have := hN (j % n) (Nat.mod_lt _ (by omega))
    have e1 : v (j % n + 1) = v (j + 1) := by
      rw [← per_mod h.per (j % n + 1), ← per_mod h.per (j + 1)]
      congr 1
      simp
    rw [e1, per_mod h.per j] at this
    exact this hj
  have hp := sc_pen hN0 h
  have := tot_whole hp (p := sc N p) (fun i => by rw [sc_On hN0]; exact hoff i) (fun i => by
    unfold Whole sc
    simp only
    intro hne
    obtain ⟨k, hk⟩ := hNa i (fun e => hne (by rw [show (v (i + 1)).2 = (v i).2 by omega]))
    refine ⟨k * (((v (i + 1)).1 - (v i).1) * (p.2 - (v i).2)), ?_⟩
    rw [← Int.mul_sub, ← Int.mul_sub, ← Int.mul_sub]
    grind)
  unfold tot at this ⊢
  rw [sc_rowW hN0, sc_rho hN0] at this
  rcases rho_two h with e | e <;> rw [e] at this ⊢ <;> omega
end Go.Proofs.Ytbpmiphipjkdlaa.Pk
