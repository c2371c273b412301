/- Plain: Pick's theorem. -/
import Derived.Test.YtbpmiphipjkdlaaKg
namespace Go.Proofs.Ytbpmiphipjkdlaa.Pk
variable {n : Nat} {v : Nat → V}
instance (a b p : V) : Decidable (On a b p) := by unfold On; infer_instance
theorem isum_none {P : Int → Prop} [DecidablePred P] (lo : Int) : ∀ k : Nat, (∀ j : Nat, j < k → ¬ P (lo + j)) → isum (fun t => if P t then 1 else 0) lo k = 0
  | 0, _ => rfl
  | k + 1, h => by rw [isum, isum_none lo k (fun j hj => h j (by omega)), if_neg (h k (by omega))]; rfl
theorem isum_one {P : Int → Prop} [DecidablePred P] (hu : ∀ s t, P s → P t → s = t) (lo : Int) : ∀ k : Nat, (∃ j : Nat, j < k ∧ P (lo + j)) → isum (fun t => if P t then 1 else 0) lo k = 1
  | 0, h => by obtain ⟨j, hj, _⟩ := h; omega
  | k + 1, h => by
    obtain ⟨j, hj, hp⟩ := h
    rw [isum]
    by_cases e : j = k
    · subst e
      rw [if_pos hp, isum_none lo j (fun i hi hq => by have := hu _ _ hp hq; omega)]
      rfl
    · rw [isum_one hu lo k ⟨j, by omega, hp⟩, if_neg (fun hq => by have := hu _ _ hp hq; omega)]
      rfl
theorem box_isum (M : Nat) (f : Int → V → Int) (lo : Int) : ∀ k : Nat, box M (fun p => isum (fun t => f t p) lo k) = isum (fun t => box M (f t)) lo k
  | 0 => by simp only [isum]; exact box_zero M
  | k + 1 => by
    have : box M (fun p => isum (fun t => f t p) lo (k + 1)) = box M (fun p => isum (fun t => f t p) lo k + f (lo + k) p) := box_congr (fun p _ => by rw [isum])
    rw [this, box_add, box_isum M f lo k, isum]
/-- One point of the square. -/
theorem box_point {M : Nat} {c : V} (hc : inSq M c) : box M (fun p => if p = c then 1 else 0) = 1 := by
  unfold inSq at hc
  unfold box
  have h : ∀ y : Int, isum (fun x => if ((x, y) : V) = c then (1 : Int) else 0) (-M) (2 * M + 1) = if y = c.2 then 1 else 0 := by
    intro y
    by_cases e : y = c.2
    · rw [if_pos e]
      refine isum_one (P := fun x => ((x, y) : V) = c) (fun s t hs ht => ?_) _ _ ⟨(c.1 + M).toNat, by omega, ?_⟩
      · have := congrArg Prod.fst (hs.trans ht.symm); exact this
      · exact Prod.ext (by simp only; omega) e
    · rw [if_neg e]
      exact isum_none (P := fun x => ((x, y) : V) = c) _ _ (fun j _ hj => e (congrArg Prod.snd hj))
  rw [isum_congr (g := fun y => if y = c.2 then 1 else 0) _ _ (fun j _ => h _)]
  exact isum_one (P := fun y => y = c.2) (fun s t hs ht => hs.trans ht.symm) _ _ ⟨(c.2 + M).toNat, by omega, by omega⟩
/-- The points of a side, without its beginning, step by step. -/
theorem side_steps {a b : V} (hab : a ≠ b) : ∃ e : V, e ≠ (0, 0) ∧ vsub b a = sc (Int.gcd (b.1 - a.1) (b.2 - a.2) : Int) e ∧ 1 ≤ Int.gcd (b.1 - a.1) (b.2 - a.2) ∧ Int.gcd e.1 e.2 = 1 := by
  have hg : 0 < Int.gcd (b.1 - a.1) (b.2 - a.2) := by
    rcases Nat.eq_zero_or_pos (Int.gcd (b.1 - a.1) (b.2 - a.2)) with h | h
    · rw [Int.gcd_eq_zero_iff] at h
      exact absurd (Prod.ext (by omega) (by omega)) hab
    · exact h
  obtain ⟨x, hx⟩ := Int.gcd_dvd_left (a := b.1 - a.1) (b := b.2 - a.2)
  obtain ⟨y, hy⟩ := Int.gcd_dvd_right (a := b.1 - a.1) (b := b.2 - a.2)
  have h1 : Int.gcd x y = 1 := by
    obtain ⟨g, hgd⟩ : ∃ g, g = Int.gcd (b.1 - a.1) (b.2 - a.2) := ⟨_, rfl⟩
    rw [← hgd] at hx hy hg
    have h2 : Int.gcd ((g : Int) * x) ((g : Int) * y) = g * Int.gcd x y := by
      rw [Int.gcd_mul_left]
      simp
    rw [← hx, ← hy, ← hgd] at h2
    exact Nat.eq_of_mul_eq_mul_left hg (by rw [Nat.mul_one]; exact h2.symm)
  refine ⟨(x, y), ?_, Prod.ext hx hy, hg, h1⟩
  intro e
  have e1 := congrArg Prod.fst e
  have e2 := congrArg Prod.snd e
  simp only at e1 e2
  rw [e1, e2] at h1
  simp at h1
theorem par_step {e w : V} (h0 : crs e w = 0) (hg : Int.gcd e.1 e.2 = 1) : ∃ t, w = sc t e := by
  unfold crs at h0
  by_cases e1 : e.1 = 0
  · rw [e1, Int.gcd_zero_left] at hg
    rw [e1, Int.zero_mul] at h0
    have h2 : e.2 = 1 ∨ e.2 = -1 := by omega
    have hw : w.1 = 0 := by
      rcases Int.mul_eq_zero.1 (show e.2 * w.1 = 0 by omega) with h | h <;> omega
    rcases h2 with h | h
    · exact ⟨w.2, Prod.ext (by unfold sc; simp only; rw [e1, hw]; simp) (by unfold sc; simp only; rw [h]; simp)⟩
    · exact ⟨-w.2, Prod.ext (by unfold sc; simp only; rw [e1, hw]; simp) (by unfold sc; simp only; rw [h]; simp)⟩
  · have hd : e.1 ∣ e.2 * w.1 := ⟨w.2, by omega⟩
    have hd2 : e.1 ∣ w.1 := by
      have hn : e.1.natAbs ∣ e.2.natAbs * w.1.natAbs := by rw [← Int.natAbs_mul]; exact Int.natAbs_dvd_natAbs.2 hd
      have hc : Nat.Coprime e.1.natAbs e.2.natAbs := hg
      exact Int.natAbs_dvd_natAbs.1 (hc.dvd_of_dvd_mul_left hn)
    obtain ⟨t, ht⟩ := hd2
    refine ⟨t, Prod.ext (by unfold sc; simp only; rw [ht, Int.mul_comm]) ?_⟩
    unfold sc
    simp only
    rw [ht] at h0
    have : e.1 * (w.2 - t * e.2) = 0 := by grind
    rcases Int.mul_eq_zero.1 this with h | h
    · exact absurd h e1
    · omega
theorem sc_inj {e : V} (he : e ≠ (0, 0)) {s t : Int} (h : sc s e = sc t e) : s = t := by
  have h1 := congrArg Prod.fst h
  have h2 := congrArg Prod.snd h
  unfold sc at h1 h2
  simp only at h1 h2
  by_cases e1 : e.1 = 0
  · by_cases e2 : e.2 = 0
    · exact absurd (Prod.ext e1 e2) he
    · exact Int.eq_of_mul_eq_mul_right e2 h2
  · exact Int.eq_of_mul_eq_mul_right e1 h1
/-- A point of a side, without its beginning. -/
def hI (a b p : V) : Int := if On a b p ∧ p ≠ a then 1 else 0
theorem half_side {a b : V} {e : V} (he : e ≠ (0, 0)) {g : Nat} (hg : vsub b a = sc (g : Int) e) (hg1 : 1 ≤ g) (hc : Int.gcd e.1 e.2 = 1) (p : V) :
    (On a b p ∧ p ≠ a) ↔ ∃ j : Nat, j < g ∧ p = vadd a (sc (1 + (j : Int)) e) := by
  have hee := sq_pos he
  have hg0 : 0 < (g : Int) := by omega
  constructor
  · rintro ⟨ho, hpa⟩
    have h0 : crs (vsub b a) (vsub p a) = 0 := (crs_ab a b p).trans ho.1
    have r := ho.rangeA
    rw [hg] at h0 r
    have h0' : crs e (vsub p a) = 0 := by
      have : crs (sc (g : Int) e) (vsub p a) = (g : Int) * crs e (vsub p a) := by unfold crs sc; grind
      rw [this] at h0
      rcases Int.mul_eq_zero.1 h0 with h | h
      · omega
      · exact h
    obtain ⟨t, ht⟩ := par_step h0' hc
    rw [ht] at r
    have d1 : dt (sc (g : Int) e) (sc t e) = (g : Int) * dt e e * t := by unfold dt sc; grind
    have d2 : dt (sc (g : Int) e) (sc (g : Int) e) = (g : Int) * dt e e * g := by unfold dt sc; grind
    rw [d1, d2] at r
    have hk := Int.mul_pos hg0 hee
    have ht0 : 0 ≤ t := by
      apply Int.not_lt.1
      intro h
      have := Int.mul_neg_of_pos_of_neg hk h
      omega
    have ht1 : t ≤ g := Int.le_of_mul_le_mul_left r.2 hk
    have htn : t ≠ 0 := by
      rintro rfl
      apply hpa
      have e1 := congrArg Prod.fst ht
      have e2 := congrArg Prod.snd ht
      unfold vsub sc at e1 e2
      simp only [Int.zero_mul] at e1 e2
      exact Prod.ext (by omega) (by omega)
    refine ⟨(t - 1).toNat, by omega, ?_⟩
    rw [show (1 : Int) + ((t - 1).toNat : Int) = t by omega, ← ht]
    unfold vadd vsub
    exact Prod.ext (by simp only; omega) (by simp only; omega)
  · rintro ⟨j, hj, rfl⟩
    obtain ⟨t, ht⟩ : ∃ t : Int, t = 1 + (j : Int) := ⟨_, rfl⟩
    rw [← ht]
    have e1 : vsub (vadd a (sc t e)) a = sc t e := by unfold vadd vsub; exact Prod.ext (by simp only; omega) (by simp only; omega)
    have e2 : vsub (vadd a (sc t e)) b = sc (t - g) e := by
      have hb1 := congrArg Prod.fst hg
      have hb2 := congrArg Prod.snd hg
      unfold vsub sc at hb1 hb2
      simp only at hb1 hb2
      unfold vadd vsub sc
      exact Prod.ext (by simp only; rw [Int.sub_mul]; omega) (by simp only; rw [Int.sub_mul]; omega)
    refine ⟨⟨?_, ?_⟩, ?_⟩
    · rw [hg, e2]; unfold crs sc; grind
    · rw [e1, e2]
      have : dt (sc t e) (sc (t - g) e) = dt e e * (t * (t - g)) := by unfold dt sc; grind
      rw [this]
      exact mul_nonpos_of (Int.le_of_lt hee) (mul_nonpos_of (by omega) (by omega))
    · intro h
      have : vsub (vadd a (sc t e)) a = (0, 0) := by rw [h]; exact vsub_self a
      rw [e1] at this
      have : t = 0 := sc_inj he (by rw [this]; unfold sc; simp)
      omega
theorem on_square {M : Nat} {a b p : V} (ha : inSq M a) (hb : inSq M b) (h : On a b p) : inSq M p := by
  by_cases hab : a = b
  · subst hab
    have : p = a := by
      apply Classical.byContradiction
      intro hn
      have := sq_pos (vsub_ne (Ne.symm hn))
      have := h.2
      omega
    rw [this]; exact ha
  by_cases hpa : p = a
  · rw [hpa]; exact ha
  obtain ⟨e, he, hg, hg1, hc⟩ := side_steps hab
  obtain ⟨j, hj, rfl⟩ := (half_side he hg hg1 hc p).1 ⟨h, hpa⟩
  have hb1 := congrArg Prod.fst hg
  have hb2 := congrArg Prod.snd hg
  unfold vsub sc at hb1 hb2
  simp only at hb1 hb2
  have m : ∀ c : Int, (0 ≤ (1 + (j : Int)) * c ∧ (1 + (j : Int)) * c ≤ (Int.gcd (b.1 - a.1) (b.2 - a.2) : Int) * c) ∨ ((1 + (j : Int)) * c ≤ 0 ∧ (Int.gcd (b.1 - a.1) (b.2 - a.2) : Int) * c ≤ (1 + (j : Int)) * c) := by
    intro c
    rcases Int.le_total 0 c with h0 | h0
    · left
      exact ⟨Int.mul_nonneg (by omega) h0, Int.mul_le_mul_of_nonneg_right (by omega) h0⟩
    · right
      have h1 := Int.mul_nonneg (show 0 ≤ 1 + (j : Int) by omega) (show 0 ≤ -c by omega)
      have h2 := Int.mul_le_mul_of_nonneg_right (show 1 + (j : Int) ≤ (Int.gcd (b.1 - a.1) (b.2 - a.2) : Int) by omega) (show 0 ≤ -c by omega)
      rw [Int.mul_neg] at h1
      rw [Int.mul_neg, Int.mul_neg] at h2
      omega
  have m1 := m e.1
  have m2 := m e.2
  unfold inSq vadd sc at *
  simp only
  omega
/-- As many as the greatest number that divides both. -/
theorem box_half {M : Nat} {a b : V} (ha : inSq M a) (hb : inSq M b) (hab : a ≠ b) : box M (hI a b) = (Int.gcd (b.1 - a.1) (b.2 - a.2) : Nat) := by
  obtain ⟨e, he, hg, hg1, hc⟩ := side_steps hab
  obtain ⟨g, hgg⟩ : ∃ g, g = Int.gcd (b.1 - a.1) (b.2 - a.2) := ⟨_, rfl⟩
  rw [← hgg] at hg hg1 ⊢
  have hpt : ∀ p, inSq M p → hI a b p = isum (fun t => if p = vadd a (sc t e) then 1 else 0) 1 g := by
    intro p _
    unfold hI
    have hu : ∀ s t, p = vadd a (sc s e) → p = vadd a (sc t e) → s = t := by
      intro s t h1 h2
      apply sc_inj he
      have e1 := congrArg Prod.fst (h1.symm.trans h2)
      have e2 := congrArg Prod.snd (h1.symm.trans h2)
      unfold vadd at e1 e2
      simp only at e1 e2
      exact Prod.ext (by omega) (by omega)
    by_cases h : On a b p ∧ p ≠ a
    · rw [if_pos h]
      exact (isum_one (P := fun t => p = vadd a (sc t e)) hu 1 g ((half_side he hg hg1 hc p).1 h)).symm
    · rw [if_neg h]
      exact (isum_none (P := fun t => p = vadd a (sc t e)) 1 g (fun j hj hp => h ((half_side he hg hg1 hc p).2 ⟨j, hj, hp⟩))).symm
  rw [box_congr hpt, box_isum, isum_congr (g := fun _ => 1) 1 g (fun j hj => box_point (on_square ha hb ((half_side he hg hg1 hc _).2 ⟨j, hj, rfl⟩).1))]
  have : ∀ k : Nat, isum (fun _ => 1) 1 k = k := by
    intro k
    induction k with
    | zero => rfl
    | succ k ih => rw [isum, ih]; omega
  exact this g
/-- A sum over the first m numbers. -/
def nsum (f : Nat → Int) : Nat → Int
  | 0 => 0
  | m + 1 => nsum f m + f m
theorem box_nsum (M : Nat) (f : Nat → V → Int) : ∀ k : Nat, box M (fun p => nsum (fun t => f t p) k) = nsum (fun t => box M (f t)) k
  | 0 => by simp only [nsum]; exact box_zero M
  | k + 1 => by
    have : box M (fun p => nsum (fun t => f t p) (k + 1)) = box M (fun p => nsum (fun t => f t p) k + f k p) := box_congr (fun p _ => by rw [nsum])
    rw [this, box_add, box_nsum M f k, nsum]
theorem nsum_congr {f g : Nat → Int} : ∀ k, (∀ j, j < k → f j = g j) → nsum f k = nsum g k
  | 0, _ => rfl
  | k + 1, h => by rw [nsum, nsum, nsum_congr k (fun j hj => h j (by omega)), h k (by omega)]
theorem nsum_none {f : Nat → Int} : ∀ k, (∀ j, j < k → f j = 0) → nsum f k = 0
  | 0, _ => rfl
  | k + 1, h => by rw [nsum, nsum_none k (fun j hj => h j (by omega)), h k (by omega)]; rfl
theorem nsum_one {f : Nat → Int} (i : Nat) : ∀ k, i < k → (∀ j, j < k → j ≠ i → f j = 0) → nsum f k = f i
  | 0, h, _ => by omega
  | k + 1, h, hz => by
    rw [nsum]
    by_cases e : i = k
    · subst e
      rw [nsum_none i (fun j hj => hz j (by omega) (by omega))]
      omega
    · rw [nsum_one i k (by omega) (fun j hj => hz j (by omega)), hz k (by omega) (Ne.symm e)]
      omega
/-- Is a point on the border? -/
def OnB (n : Nat) (v : Nat → V) (p : V) : Prop := ∃ i, i < n ∧ On (v i) (v (i + 1)) p
theorem OnB.of (h : Pen n v) {i : Nat} {p : V} (ho : On (v i) (v (i + 1)) p) : OnB n v p := by
  have hn := h.n3
  refine ⟨i % n, Nat.mod_lt _ (by omega), ?_⟩
  have e1 : v (i % n + 1) = v (i + 1) := by
    rw [← per_mod h.per (i % n + 1), ← per_mod h.per (i + 1)]
    congr 1
    simp
  rw [per_mod h.per, e1]
  exact ho
instance (n : Nat) (v : Nat → V) (p : V) : Decidable (OnB n v p) := decidable_of_iff (∃ i : Fin n, On (v i.val) (v (i.val + 1)) p) ⟨fun ⟨i, h⟩ => ⟨i.val, i.isLt, h⟩, fun ⟨i, h1, h2⟩ => ⟨⟨i, h1⟩, h2⟩⟩
/-- Each point of the border belongs to one side, without the side's beginning. -/
theorem border_once (h : Pen n v) (p : V) : nsum (fun i => hI (v i) (v (i + 1)) p) n = if OnB n v p then 1 else 0 := by
  have hn := h.n3
  by_cases hb : OnB n v p
  · rw [if_pos hb]
    obtain ⟨i, hi, ho, hp⟩ : ∃ i, i < n ∧ On (v i) (v (i + 1)) p ∧ p ≠ v i := by
      obtain ⟨i, hi, ho⟩ := hb
      by_cases e : p = v i
      · refine ⟨(i + (n - 1)) % n, Nat.mod_lt _ (by omega), ?_⟩
        have e1 : v ((i + (n - 1)) % n + 1) = v i := by
          rw [← per_mod h.per ((i + (n - 1)) % n + 1), ← h.per i, ← per_mod h.per (i + n)]
          congr 1
          rw [Nat.mod_add_mod]
          congr 1
          omega
        rw [per_mod h.per, e1, e]
        refine ⟨On_right _ _, ?_⟩
        have := h.ne (i + (n - 1))
        rw [show i + (n - 1) + 1 = i + n by omega, h.per] at this
        exact this.symm
      · exact ⟨i, hi, ho, e⟩
    rw [nsum_one i n hi (fun j hj hji => ?_)]
    · unfold hI; rw [if_pos ⟨ho, hp⟩]
    · unfold hI
      rw [if_neg]
      rintro ⟨ho2, hp2⟩
      -- two sides that hold p, without their beginnings
      have key : ∀ i j, i < j → j < n → On (v i) (v (i + 1)) p → p ≠ v i → On (v j) (v (j + 1)) p → p ≠ v j → False := by
        intro i j hij hjn a1 a2 b1 b2
        by_cases e1 : p = v (i + 1)
        · by_cases e2 : p = v (j + 1)
          · have := h.distinct (i + 1) (j - i) (by omega) (by omega)
            rw [show i + 1 + (j - i) = j + 1 by omega] at this
            exact this (e1.symm.trans e2)
          · have := h.alone j (n - (j - i)) (by omega) (by omega) b1 b2 e2
            rw [show j + (n - (j - i)) = i + n by omega, show i + n + 1 = i + 1 + n by omega, h.per, h.per] at this
            exact this a1
        · have := h.alone i (j - i) (by omega) (by omega) a1 a2 e1
          rw [show i + (j - i) = j by omega] at this
          exact this b1
      rcases Nat.lt_or_gt_of_ne hji with g | g
      · exact key j i g hi ho2 hp2 ho hp
      · exact key i j g hj ho hp ho2 hp2
  · rw [if_neg hb]
    refine nsum_none n (fun j hj => ?_)
    unfold hI
    rw [if_neg]
    rintro ⟨ho, _⟩
    exact hb ⟨j, hj, ho⟩
/-- Inside: off the border, and turned around. -/
def inI (n : Nat) (v : Nat → V) (p : V) : Int := if OnB n v p then 0 else if tot n v p = 0 then 0 else 1
def borderN (v : Nat → V) (m : Nat) : Int := nsum (fun i => (Int.gcd ((v (i + 1)).1 - (v i).1) ((v (i + 1)).2 - (v i).2) : Nat)) m
theorem nsum_mul (f : Nat → Int) (c : Int) : ∀ k, nsum (fun i => f i * c) k = nsum f k * c
  | 0 => by simp [nsum]
  | k + 1 => by rw [nsum, nsum, nsum_mul f c k, Int.add_mul]
/-- What a point sees. -/
theorem tot_split (h : Pen n v) (p : V) : tot n v p = (2 * rho n v * inI n v p + rho n v * (if OnB n v p then 1 else 0)) + (-1) * nsum (fun i => tau v i * (if p = v (i + 1) then 1 else 0)) n := by
  have hn := h.n3
  by_cases hb : OnB n v p
  · rw [if_pos hb]
    have hin : inI n v p = 0 := by unfold inI; rw [if_pos hb]
    rw [hin]
    by_cases hpost : ∃ i, i < n ∧ p = v (i + 1)
    · obtain ⟨i, hi, rfl⟩ := hpost
      rw [nsum_one i n hi (fun j hj hji => ?_), if_pos rfl]
      · have h1 := tot_post h (i + 1)
        have h2 := look_tau h i
        rw [h1]
        omega
      · rw [if_neg, Int.mul_zero]
        intro e
        rcases Nat.lt_or_gt_of_ne hji with g | g
        · have := h.distinct (j + 1) (i - j) (by omega) (by omega)
          rw [show j + 1 + (i - j) = i + 1 by omega] at this
          exact this e.symm
        · have := h.distinct (i + 1) (j - i) (by omega) (by omega)
          rw [show i + 1 + (j - i) = j + 1 by omega] at this
          exact this e
    · rw [nsum_none n (fun j hj => by rw [if_neg (fun e => hpost ⟨j, hj, e⟩), Int.mul_zero])]
      obtain ⟨i, hi, ho⟩ := hb
      have n1 : p ≠ v (i + 1) := fun e => hpost ⟨i, hi, e⟩
      have n2 : p ≠ v i := fun e => by
        by_cases h0 : i = 0
        · refine hpost ⟨n - 1, by omega, ?_⟩
          rw [show n - 1 + 1 = 0 + n by omega, h.per, ← h0]
          exact e
        · refine hpost ⟨i - 1, by omega, ?_⟩
          rw [show i - 1 + 1 = i by omega]
          exact e
      rw [tot_side h i ho n2 n1]
      omega
  · rw [if_neg hb, nsum_none n (fun j hj => by
      rw [if_neg, Int.mul_zero]
      intro e
      exact hb (OnB.of h (i := j) (by rw [e]; exact On_right _ _)))]
    have hoff : ∀ i, ¬ On (v i) (v (i + 1)) p := fun i ho => hb (OnB.of h ho)
    unfold inI
    rw [if_neg hb]
    rcases tot_off h hoff with e | e
    · rw [if_pos e, e]; omega
    · have hr : rho n v ≠ 0 := by rcases rho_two h with e | e <;> omega
      rw [if_neg (by omega), e]
      omega
theorem taus_nsum (v : Nat → V) : ∀ m, taus v m = nsum (tau v) m
  | 0 => rfl
  | m + 1 => by rw [taus, nsum, taus_nsum v m]
/-- Pick's theorem, with the direction. -/
theorem pick_signed (h : Pen n v) {M : Nat} (hv : ∀ i, inSq M (v i)) : 2 * areaTo v n = rho n v * (2 * box M (inI n v) + borderN v n - 2) := by
  have h1 := box_tot (M := M) h.per hv
  have h2 : box M (tot n v) = box M (fun p => (2 * rho n v * inI n v p + rho n v * nsum (fun i => hI (v i) (v (i + 1)) p) n) + (-1) * nsum (fun i => tau v i * (if p = v (i + 1) then 1 else 0)) n) := box_congr (fun p _ => by
    have := tot_split h p
    rw [← border_once h p] at this
    exact this)
  rw [h2, box_add M (fun p => 2 * rho n v * inI n v p + rho n v * nsum (fun i => hI (v i) (v (i + 1)) p) n) (fun p => (-1) * nsum (fun i => tau v i * (if p = v (i + 1) then 1 else 0)) n),
    box_add M (fun p => 2 * rho n v * inI n v p) (fun p => rho n v * nsum (fun i => hI (v i) (v (i + 1)) p) n), box_mul, box_mul, box_mul, box_nsum, box_nsum] at h1
  have e1 : nsum (fun t => box M (hI (v t) (v (t + 1)))) n = borderN v n := nsum_congr n (fun j _ => box_half (hv j) (hv (j + 1)) (h.ne j))
  have e2 : nsum (fun t => box M (fun p => tau v t * (if p = v (t + 1) then 1 else 0))) n = 2 * rho n v := by
    rw [← taus_all h, taus_nsum]
    refine nsum_congr n (fun j _ => ?_)
    rw [box_mul, box_point (hv (j + 1))]
    omega
  have e1' : nsum (fun t => box M (fun p => hI (v t) (v (t + 1)) p)) n = borderN v n := e1
  rw [e1', e2] at h1
  have e3 : rho n v * (2 * box M (inI n v) + borderN v n - 2) = 2 * rho n v * box M (inI n v) + rho n v * borderN v n + -1 * (2 * rho n v) := by grind
  rw [e3]
  exact h1.symm
theorem isum_nonneg {f : Int → Int} (lo : Int) : ∀ k, (∀ j : Nat, j < k → 0 ≤ f (lo + j)) → 0 ≤ isum f lo k
  | 0, _ => by simp [isum]
  | k + 1, h => by
    have := isum_nonneg lo k (fun j hj => h j (by omega))
    have := h k (by omega)
    rw [isum]; omega
theorem box_nonneg {M : Nat} {f : V → Int} (h : ∀ p, 0 ≤ f p) : 0 ≤ box M f := isum_nonneg _ _ (fun _ _ => isum_nonneg _ _ (fun _ _ => h _))
theorem inI_nonneg (p : V) : 0 ≤ inI n v p := by unfold inI; repeat' split <;> omega
theorem borderN_ge (h : Pen n v) : ∀ m : Nat, (m : Int) ≤ borderN v m
  | 0 => by simp [borderN, nsum]
  | m + 1 => by
    have h1 := borderN_ge h m
    obtain ⟨e, _, _, hg, _⟩ := side_steps (h.ne m)
    unfold borderN at *
    rw [nsum]
    omega
/-- Pick's theorem. -/
theorem pick (h : Pen n v) {M : Nat} (hv : ∀ i, inSq M (v i)) : ((areaTo v n).natAbs : Int) = 2 * box M (inI n v) + borderN v n - 2 := by
  have h1 := pick_signed h hv
  have h2 := borderN_ge h n
  have h3 := box_nonneg (M := M) (fun p => inI_nonneg (n := n) (v := v) p)
  have hn := h.n3
  rcases rho_two h with e | e <;> rw [e] at h1 <;> omega
end Go.Proofs.Ytbpmiphipjkdlaa.Pk
