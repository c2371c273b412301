/- Plain: the area as a sum of turns. -/
import Derived.Test.YtbpmiphipjkdlaaKf
namespace Go.Proofs.Ytbpmiphipjkdlaa.Pk
variable {n : Nat} {v : Nat → V}
/-- A sum over k whole numbers from lo on. -/
def isum (f : Int → Int) (lo : Int) : Nat → Int
  | 0 => 0
  | k + 1 => isum f lo k + f (lo + k)
theorem isum_congr {f g : Int → Int} (lo : Int) : ∀ k, (∀ j : Nat, j < k → f (lo + j) = g (lo + j)) → isum f lo k = isum g lo k
  | 0, _ => rfl
  | k + 1, h => by rw [isum, isum, isum_congr lo k (fun j hj => h j (by omega)), h k (by omega)]
theorem isum_add (f g : Int → Int) (lo : Int) : ∀ k, isum (fun x => f x + g x) lo k = isum f lo k + isum g lo k
  | 0 => rfl
  | k + 1 => by rw [isum, isum, isum, isum_add f g lo k]; omega
theorem isum_mul (c : Int) (f : Int → Int) (lo : Int) : ∀ k, isum (fun x => c * f x) lo k = c * isum f lo k
  | 0 => by simp [isum]
  | k + 1 => by rw [isum, isum, isum_mul c f lo k, Int.mul_add]
theorem isum_zero (lo : Int) : ∀ k, isum (fun _ => 0) lo k = 0
  | 0 => rfl
  | k + 1 => by rw [isum, isum_zero lo k]; rfl
theorem isum_first (f : Int → Int) (lo : Int) : ∀ k, isum f lo (k + 1) = f lo + isum f (lo + 1) k
  | 0 => by simp [isum]
  | k + 1 => by
    rw [isum, isum_first f lo k, isum]
    have : lo + 1 + (k : Int) = lo + ((k + 1 : Nat) : Int) := by omega
    rw [this]
    omega
theorem isum_swap (f : Int → Int → Int) (a b : Int) (m : Nat) : ∀ k, isum (fun x => isum (fun y => f x y) b m) a k = isum (fun y => isum (fun x => f x y) a k) b m
  | 0 => by simp only [isum]; rw [isum_zero]
  | k + 1 => by
    rw [isum, isum_swap f a b m k]
    have : isum (fun y => isum (fun x => f x y) a (k + 1)) b m = isum (fun y => isum (fun x => f x y) a k + f (a + k) y) b m := isum_congr _ _ (fun j _ => by rw [isum])
    rw [this, isum_add]
/-- Backwards. -/
theorem isum_back (f : Int → Int) (s : Int) (lo : Int) : ∀ k : Nat, isum (fun x => f (s - x)) lo k = isum f (s - lo - k + 1) k
  | 0 => rfl
  | k + 1 => by
    rw [isum, isum_back f s lo k, isum_first]
    have e1 : s - lo - ((k + 1 : Nat) : Int) + 1 = s - (lo + k) := by omega
    rw [e1]
    have e2 : s - (lo + (k : Int)) + 1 = s - lo - k + 1 := by omega
    rw [e2]
    omega
/-- Shifted by k to the right. -/
theorem isum_right (f : Int → Int) (lo : Int) (m : Nat) (A : Int) : ∀ k : Nat, (∀ j : Nat, j < k → f (lo + j) = A) → (∀ j : Nat, j < k → f (lo + m + j) = -A) → isum f (lo + k) m = isum f lo m - 2 * k * A
  | 0, _, _ => by simp
  | k + 1, h1, h2 => by
    have h := isum_right f lo m A k (fun j hj => h1 j (by omega)) (fun j hj => h2 j (by omega))
    have e1 := isum_first f (lo + k) m
    rw [isum] at e1
    have e2 := h1 k (by omega)
    have e3 := h2 k (by omega)
    rw [show lo + (k : Int) + m = lo + m + k by omega] at e1
    rw [show lo + ((k + 1 : Nat) : Int) = lo + k + 1 by omega]
    have e4 : 2 * ((k + 1 : Nat) : Int) * A = 2 * k * A + 2 * A := by
      rw [show ((k + 1 : Nat) : Int) = (k : Int) + 1 by omega]
      grind
    rw [e4]
    omega
/-- Shifted by s, either way. -/
theorem isum_shift (f : Int → Int) (lo : Int) (m : Nat) (A : Int) (s : Int) (h1 : ∀ x, x < lo + s ∨ x < lo → f x = A) (h2 : ∀ x, lo + m + s ≤ x ∨ lo + m ≤ x → f x = -A) : isum f (lo + s) m = isum f lo m - 2 * s * A := by
  rcases Int.le_total 0 s with hs | hs
  · obtain ⟨k, rfl⟩ := Int.eq_ofNat_of_zero_le hs
    exact isum_right f lo m A k (fun j hj => h1 _ (.inl (by omega))) (fun j hj => h2 _ (.inr (by omega)))
  · obtain ⟨k, hk⟩ := Int.eq_ofNat_of_zero_le (show 0 ≤ -s by omega)
    have := isum_right f (lo + s) m A k (fun j hj => h1 _ (.inr (by omega))) (fun j hj => h2 _ (.inl (by omega)))
    rw [show lo + s + (k : Int) = lo by omega] at this
    have e : 2 * (k : Int) * A = - (2 * s * A) := by rw [← hk]; grind
    rw [e] at this
    omega
theorem sum_sign (c lo : Int) : ∀ k : Nat, lo ≤ c → isum (fun y => (c - y).sign) lo k = if (k : Int) ≤ c - lo then (k : Int) else 2 * (c - lo) + 1 - k
  | 0, h => by simp [isum]; omega
  | k + 1, h => by
    rw [isum, sum_sign c lo k h]
    rcases sign_cases (c - (lo + (k : Int))) with ⟨e, g⟩ | ⟨e, g⟩ | ⟨e, g⟩ <;> rw [e] <;> (repeat' split) <;> omega
theorem W_east (d : V) : W (1, 0) d = d.2.sign := by
  unfold W crs
  simp only
  rw [show (1 : Int) * d.2 - 0 * d.1 = d.2 by omega]
  rcases sign_cases d.2 with ⟨e, _⟩ | ⟨e, _⟩ | ⟨e, _⟩ <;> rw [e] <;> rfl
theorem W_right {a b : V} (ha : 0 < a.1) (hb : 0 < b.1) : W a b = b.2.sign - a.2.sign := by
  have := W_trans (n := (1, 0)) (a := (1, 0)) (b := a) (c := b) (by decide) (by unfold dt; simp only; omega) (by unfold dt; simp only; omega)
  rw [W_east, W_east] at this
  omega
theorem W_left {a b : V} (ha : a.1 < 0) (hb : b.1 < 0) : W a b = -(b.2.sign - a.2.sign) := by
  rw [← W_neg, W_right (by unfold vneg; simp only; omega) (by unfold vneg; simp only; omega)]
  unfold vneg
  simp only [Int.sign_neg]
  omega
theorem W_mirror (a b p : V) : W (vsub a (vsub (vadd a b) p)) (vsub b (vsub (vadd a b) p)) = - W (vsub a p) (vsub b p) := by
  have e1 : vsub a (vsub (vadd a b) p) = vneg (vsub b p) := by unfold vsub vadd vneg; exact Prod.ext (by simp only; omega) (by simp only; omega)
  have e2 : vsub b (vsub (vadd a b) p) = vneg (vsub a p) := by unfold vsub vadd vneg; exact Prod.ext (by simp only; omega) (by simp only; omega)
  rw [e1, e2, W_neg, W_anti]
/-- All points of the square from -M to M. -/
def box (M : Nat) (f : V → Int) : Int := isum (fun y => isum (fun x => f (x, y)) (-M) (2 * M + 1)) (-M) (2 * M + 1)
def inSq (M : Nat) (p : V) : Prop := (-(M : Int) ≤ p.1 ∧ p.1 ≤ M) ∧ -(M : Int) ≤ p.2 ∧ p.2 ≤ M
theorem box_side (M : Nat) {a b : V} (ha : inSq M a) (hb : inSq M b) : box M (fun p => W (vsub a p) (vsub b p)) = 2 * ((b.2 - a.2) * (a.1 + b.1)) := by
  unfold inSq at ha hb
  obtain ⟨R, hR⟩ : ∃ R : Int → Int, R = fun y => isum (fun x => W (vsub a (x, y)) (vsub b (x, y))) (-M) (2 * M + 1) := ⟨_, rfl⟩
  have hbx : box M (fun p => W (vsub a p) (vsub b p)) = isum R (-M) (2 * M + 1) := by rw [hR]; rfl
  -- a row and its mirror
  have hrow : ∀ y, R (a.2 + b.2 - y) = - R y + 2 * (a.1 + b.1) * ((b.2 - y).sign - (a.2 - y).sign) := by
    intro y
    have h1 := isum_shift (fun x => W (vsub a (x, y)) (vsub b (x, y))) (-M) (2 * M + 1) ((b.2 - y).sign - (a.2 - y).sign) (a.1 + b.1)
      (fun x hx => by
        show W (vsub a (x, y)) (vsub b (x, y)) = _
        rw [W_right (by unfold vsub; simp only; omega) (by unfold vsub; simp only; omega)]
        rfl)
      (fun x hx => by
        show W (vsub a (x, y)) (vsub b (x, y)) = _
        rw [W_left (by unfold vsub; simp only; omega) (by unfold vsub; simp only; omega)]
        rfl)
    have h2 := isum_back (fun x => W (vsub a (x, y)) (vsub b (x, y))) (a.1 + b.1) (-M) (2 * M + 1)
    rw [show a.1 + b.1 - -(M : Int) - ((2 * M + 1 : Nat) : Int) + 1 = -M + (a.1 + b.1) by omega, h1] at h2
    have h3 : R (a.2 + b.2 - y) = isum (fun x => (-1) * W (vsub a (a.1 + b.1 - x, y)) (vsub b (a.1 + b.1 - x, y))) (-M) (2 * M + 1) := by
      rw [hR]
      refine isum_congr _ _ (fun j _ => ?_)
      have := W_mirror a b (a.1 + b.1 - (-(M : Int) + j), y)
      have e : vsub (vadd a b) (a.1 + b.1 - (-(M : Int) + (j : Int)), y) = (-(M : Int) + j, a.2 + b.2 - y) := by unfold vsub vadd; exact Prod.ext (by simp only; omega) (by simp only)
      rw [e] at this
      rw [this]
      omega
    rw [h3, isum_mul, h2]
    rw [show R y = isum (fun x => W (vsub a (x, y)) (vsub b (x, y))) (-M) (2 * M + 1) by rw [hR]]
    omega
  have hz : ∀ y, (y < a.2 ∧ y < b.2) ∨ (a.2 < y ∧ b.2 < y) → R y = 0 := by
    intro y hy
    rw [hR]
    show isum (fun x => W (vsub a (x, y)) (vsub b (x, y))) (-M) (2 * M + 1) = 0
    rw [isum_congr (g := fun _ => 0) _ _ (fun j _ => ?_), isum_zero]
    unfold W
    have : ((vsub b (-(M : Int) + (j : Int), y)).2.sign - (vsub a (-(M : Int) + (j : Int), y)).2.sign) = 0 := by
      unfold vsub
      simp only
      rcases hy with hy | hy
      · rw [Int.sign_eq_one_of_pos (by omega), Int.sign_eq_one_of_pos (by omega)]; rfl
      · rw [Int.sign_eq_neg_one_of_neg (by omega), Int.sign_eq_neg_one_of_neg (by omega)]; rfl
    rw [this]
    simp
  have h4 := isum_shift R (-M) (2 * M + 1) 0 (a.2 + b.2) (fun y hy => hz y (.inl (by omega))) (fun y hy => by rw [hz y (.inr (by omega))]; rfl)
  have h5 := isum_back R (a.2 + b.2) (-M) (2 * M + 1)
  rw [show a.2 + b.2 - -(M : Int) - ((2 * M + 1 : Nat) : Int) + 1 = -M + (a.2 + b.2) by omega, h4] at h5
  have h6 : isum (fun y => R (a.2 + b.2 - y)) (-M) (2 * M + 1) = isum (fun y => (-1) * R y + (2 * (a.1 + b.1)) * ((b.2 - y).sign + (-1) * (a.2 - y).sign)) (-M) (2 * M + 1) := by
    refine isum_congr _ _ (fun j _ => ?_)
    show R (a.2 + b.2 - (-(M : Int) + j)) = (-1) * R (-(M : Int) + j) + 2 * (a.1 + b.1) * ((b.2 - (-(M : Int) + j)).sign + (-1) * (a.2 - (-(M : Int) + j)).sign)
    rw [hrow]
    rw [show (b.2 - (-(M : Int) + (j : Int))).sign + (-1) * (a.2 - (-(M : Int) + (j : Int))).sign = (b.2 - (-(M : Int) + (j : Int))).sign - (a.2 - (-(M : Int) + (j : Int))).sign by omega]
    omega
  rw [h6, isum_add (fun y => (-1) * R y) (fun y => (2 * (a.1 + b.1)) * ((b.2 - y).sign + (-1) * (a.2 - y).sign)), isum_mul, isum_mul, isum_add (fun y => (b.2 - y).sign) (fun y => (-1) * (a.2 - y).sign), isum_mul, sum_sign b.2 (-M) _ (by omega), sum_sign a.2 (-M) _ (by omega), if_neg (by omega), if_neg (by omega)] at h5
  rw [hbx]
  have e7 : 2 * (b.2 - -(M : Int)) + 1 - ((2 * M + 1 : Nat) : Int) + -1 * (2 * (a.2 - -(M : Int)) + 1 - ((2 * M + 1 : Nat) : Int)) = 2 * (b.2 - a.2) := by omega
  rw [e7] at h5
  have e8 : 2 * (a.1 + b.1) * (2 * (b.2 - a.2)) = 2 * (2 * ((b.2 - a.2) * (a.1 + b.1))) := by grind
  rw [e8] at h5
  simp only [Int.mul_zero, Int.sub_zero] at h5
  omega
theorem box_congr {M : Nat} {f g : V → Int} (h : ∀ p, inSq M p → f p = g p) : box M f = box M g := by
  unfold box
  refine isum_congr _ _ (fun j hj => isum_congr _ _ (fun k hk => h _ ?_))
  unfold inSq
  simp only
  omega
theorem box_add (M : Nat) (f g : V → Int) : box M (fun p => f p + g p) = box M f + box M g := by
  unfold box
  rw [← isum_add]
  exact isum_congr _ _ (fun j _ => isum_add _ _ _ _)
theorem box_mul (M : Nat) (c : Int) (f : V → Int) : box M (fun p => c * f p) = c * box M f := by
  unfold box
  rw [← isum_mul]
  exact isum_congr _ _ (fun j _ => isum_mul _ _ _ _)
theorem box_zero (M : Nat) : box M (fun _ => 0) = 0 := by
  unfold box
  rw [isum_congr (g := fun _ => 0) _ _ (fun j _ => isum_zero _ _), isum_zero]
/-- Twice the area, as a sum over sides. -/
def areaTo (v : Nat → V) : Nat → Int
  | 0 => 0
  | m + 1 => areaTo v m + crs (v m) (v (m + 1))
theorem box_rows {M : Nat} (hv : ∀ i, inSq M (v i)) : ∀ m, box M (fun p => rowW p v 0 m) = 2 * (areaTo v m + ((v m).1 * (v m).2 - (v 0).1 * (v 0).2))
  | 0 => by
    simp only [rowW, areaTo]
    rw [box_zero]
    omega
  | m + 1 => by
    have : box M (fun p => rowW p v 0 (m + 1)) = box M (fun p => rowW p v 0 m + W (vsub (v m) p) (vsub (v (m + 1)) p)) := box_congr (fun p _ => by rw [rowW, Nat.zero_add])
    rw [this, box_add, box_rows hv m, box_side M (hv m) (hv (m + 1)), areaTo]
    unfold crs
    grind
/-- All turns together are four times the area. -/
theorem box_tot {M : Nat} (hper : ∀ i, v (i + n) = v i) (hv : ∀ i, inSq M (v i)) : box M (tot n v) = 2 * areaTo v n := by
  have h := box_rows hv n
  have := hper 0
  rw [Nat.zero_add] at this
  rw [this] at h
  rw [show box M (tot n v) = box M (fun p => rowW p v 0 n) from rfl, h]
  omega
end Go.Proofs.Ytbpmiphipjkdlaa.Pk
